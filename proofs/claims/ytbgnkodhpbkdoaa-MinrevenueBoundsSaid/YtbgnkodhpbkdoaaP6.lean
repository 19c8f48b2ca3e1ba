/- What the proof rests on, part 6: Am41 Am42 Am43 Am44. -/
import Derived.Test.YtbgnkodhpbkdoaaP5
set_option maxRecDepth 100000
set_option maxHeartbeats 4000000
namespace Go.Am
open Go.RowKit
def sw (a b k:Nat):Nat:=if k=a then b else if k=b then a else k
theorem sw_sw {a b k:Nat}:sw a b (sw a b k)=k:=by unfold sw; repeat' split<;>try omega
theorem sw_inj {a b k k':Nat} (h:sw a b k=sw a b k'):k=k':=by rw[← sw_sw (a:=a) (b:=b) (k:=k),h,sw_sw]
def rn1 (a b:Nat):AV→AV
 | .ptr k off=>.ptr (sw a b k) off
 | .eptr k sz i off=>.eptr (sw a b k) sz i off
 | .sl k sz off len=>.sl (sw a b k) sz off len
 | .us k sz off len=>.us (sw a b k) sz off len
 | .up k sz i off=>.up (sw a b k) sz i off
 | .mp k=>.mp (sw a b k)
 | .list sz (.own l) rows=>.list sz (.own (sw a b l)) rows
 | .fn _ _=>.undef
 | .tuple _=>.undef
 | .lit _ _=>.undef
 | .raw _=>.undef
 | x=>x
def rn (a b:Nat):AV→AV
 | .fn f caps=>.fn f (caps.map (rn1 a b))
 | .tuple cells=>.tuple (cells.map (rn1 a b))
 | x=>rn1 a b x
def rnE (a b:Nat):Entry→Entry
 | .var cells=>.var (cells.map (rn a b))
 | .uarr sz rows=>.uarr sz (rows.map fun r=>r.map (rn a b))
 | e=>e
def St.rn (s:St) (a b:Nat):St :=
 {env:=s.env.map fun p=>(p.1,Am.rn a b p.2),sto:=s.sto.map fun p=>(sw a b p.1,rnE a b p.2),out:=s.out.map fun f=>f.map fun p=>(p.1,Am.rn a b p.2),base:=s.base}
section
variable {I:Nat→Nat→Prop} {w:World} {β:Blocks} {lam:Owned} {a b:Nat}
theorem rn1_R0 {x:AV} {v:Value} (h:R0 I w x v):R0 I w (rn1 a b x) v:=by
 cases h with
 | listNil sz m a cap hm ho=>cases m<;>first | exact .listNil _ _ _ _ hm ho | exact absurd rfl (ho _)
 | list sz m rows b o cap g hcap hm ho hrow hcell hc=>cases m<;>first | exact .list _ _ rows b o cap g hcap hm ho hrow hcell hc | exact absurd rfl (ho _)
 | fn=>exact .undef _
 | tuple=>exact .undef _
 | undef=>exact .undef _
 | val=>exact .val _
 | agg cells vs hs h1 hc=>exact .agg cells vs hs h1 hc
 | ro cells b o g hcell hc=>exact .ro cells b o g hcell hc
 | iface t x v h=>exact .iface t x v h
theorem rn1_R {x:AV} {v:Value} (h:R I w β lam x v):R I w (fun k=>β (sw a b k)) (fun l=>lam (sw a b l)) (rn1 a b x) v:=by
 cases h with
 | base h=>exact .base (rn1_R0 h)
 | ptr k off b h=>exact .ptr _ off b (by rw[sw_sw]; exact h)
 | eptr k sz i off b h=>exact .eptr _ sz i off b (by rw[sw_sw]; exact h)
 | sl k sz off len cap b av h hc ha=>exact .sl _ sz off len cap b av (by rw[sw_sw]; exact h) hc ha
 | own sz l rows a cap h hl=>exact .own sz _ rows a cap h (by rw[sw_sw]; exact hl)
 | us l sz off len cap cp a av h hc ho ha=>exact .us _ sz off len cap cp a av (by rw[sw_sw]; exact h) hc ho ha
 | up l sz i off cap b o h=>exact .up _ sz i off cap b o (by rw[sw_sw]; exact h)
 | mp k b h=>exact .mp _ b (by rw[sw_sw]; exact h)
 | fn=>exact R_undef _
 | tuple=>exact R_undef _
 | litNil=>exact R_undef _
 | lit=>exact R_undef _
 | raw=>exact R_undef _
theorem rn1_own {x:AV} {sz l:Nat} {rows:List (List AV)} (h:rn1 a b x=.list sz (.own l) rows):∃ l',x=.list sz (.own l') rows:=by
 cases x<;>simp only[rn1,reduceCtorEq] at h
 rename_i sz' m rows'
 cases m<;>simp only[AV.list.injEq,reduceCtorEq,false_and,and_false,Mode.own.injEq] at h
 obtain ⟨rfl,_,rfl⟩:=h
 exact ⟨_,rfl⟩
theorem rn_R {x:AV} {v:Value} (h:R I w β lam x v):R I w (fun k=>β (sw a b k)) (fun l=>lam (sw a b l)) (rn a b x) v:=by
 cases x with
 | fn f caps =>
  cases h with
  | base h =>
   cases h with
   | fn _ _ vs hs hc =>
    refine .base (.fn f _ vs (by simpa using hs) fun i c hi=>?_)
    simp only[List.getElem?_map,Option.map_eq_some_iff] at hi
    obtain ⟨c0,hi,rfl⟩:=hi
    exact rn1_R0 (hc i c0 hi)
  | fn _ _ vs hs hn hc =>
   refine .fn f _ vs (by simpa using hs) (fun sz l rows hm=>?_) fun i c hi=>?_
   ·obtain ⟨c0,hm,he⟩:=List.mem_map.1 hm
    obtain ⟨l',rfl⟩:=rn1_own he
    exact hn _ _ _ hm
   ·simp only[List.getElem?_map,Option.map_eq_some_iff] at hi
    obtain ⟨c0,hi,rfl⟩:=hi
    exact rn1_R (hc i c0 hi)
 | tuple cells =>
  cases h with
  | base h =>
   cases h with
   | tuple _ vs hs hc =>
    refine .base (.tuple _ vs (by simpa using hs) fun i c hi=>?_)
    simp only[List.getElem?_map,Option.map_eq_some_iff] at hi
    obtain ⟨c0,hi,rfl⟩:=hi
    exact rn1_R0 (hc i c0 hi)
  | tuple _ vs hs hn hc =>
   refine .tuple _ vs (by simpa using hs) (fun sz l rows hm=>?_) fun i c hi=>?_
   ·obtain ⟨c0,hm,he⟩:=List.mem_map.1 hm
    obtain ⟨l',rfl⟩:=rn1_own he
    exact hn _ _ _ hm
   ·simp only[List.getElem?_map,Option.map_eq_some_iff] at hi
    obtain ⟨c0,hi,rfl⟩:=hi
    exact rn1_R (hc i c0 hi)
 | _=>exact rn1_R h
theorem rnE_isU {en:Entry}:(rnE a b en).isU=en.isU:=by cases en<;>rfl
theorem rn_RE {bk:Nat} {en:Entry} (h:RE I w β lam bk en):RE I w (fun k=>β (sw a b k)) (fun l=>lam (sw a b l)) bk (rnE a b en):=by
 cases en with
 | var cells =>
  intro j c hj
  simp only[List.getElem?_map,Option.map_eq_some_iff] at hj
  obtain ⟨c',hj,rfl⟩:=hj
  obtain ⟨v,h1,h2,h3,h4⟩:=h j c' hj
  exact ⟨v,h1,h2,h3,rn_R h4⟩
 | arr sz rows=>exact h
 | uarr sz rows=>exact h
 | map es clock=>exact h
theorem rn_RU {l sz:Nat} {rows:List (List AV)} (h:RU I w β lam l sz rows):RU I w (fun k=>β (sw a b k)) (fun l=>lam (sw a b l)) (sw a b l) sz (rows.map fun r=>r.map (rn a b)):=by
 obtain ⟨ad,cap,h1,h2,h3,h4⟩:=h
 refine ⟨ad,cap,by show lam (sw a b (sw a b l))=_; rw[sw_sw]; exact h1,by simpa using h2,fun i r hi=>?_,fun hne=>?_⟩
 ·simp only[List.getElem?_map,Option.map_eq_some_iff] at hi
  obtain ⟨r0,hi,rfl⟩:=hi
  rw[List.length_map]; exact h3 i r0 hi
 ·obtain ⟨bk,o,rfl,h5⟩:=h4 (by intro e; subst e; exact hne rfl)
  refine ⟨bk,o,rfl,fun i r j c hi hj=>?_⟩
  simp only[List.getElem?_map,Option.map_eq_some_iff] at hi
  obtain ⟨r0,hi,rfl⟩:=hi
  simp only[List.getElem?_map,Option.map_eq_some_iff] at hj
  obtain ⟨c0,hj,rfl⟩:=hj
  obtain ⟨v,g1,g2,g3⟩:=h5 i r0 j c0 hi hj
  exact ⟨v,g1,g2,rn_R g3⟩
end
theorem lk_sw {a b:Nat} (l:List (Nat × Entry)) (k:Nat):lk (l.map fun p=>(sw a b p.1,rnE a b p.2)) k=(lk l (sw a b k)).map (rnE a b):=by
 induction l with
 | nil=>rfl
 | cons p l ih =>
  obtain ⟨m,e⟩:=p
  simp only[List.map_cons,lk]
  by_cases h:m=sw a b k
  ·rw[if_pos h,if_pos (by rw[h,sw_sw])]; rfl
  ·rw[if_neg h,if_neg (fun e=>h (by rw[← e,sw_sw]))]; exact ih
theorem rn_look {s:St} {a b:Nat}:(s.rn a b).look=fun t=>(s.look t).map (rn a b):=by
 funext t
 obtain ⟨f,t⟩:=t
 cases f with
 | zero=>exact lk_map _ _ _
 | succ f =>
  simp only[St.look,St.rn,List.getElem?_map]
  cases s.out[f]? with
  | none=>rfl
  | some q=>exact lk_map _ _ _
theorem St.imp_rn {s:St} (a b:Nat):St.imp s (s.rn a b):=by
 rintro F ac w ⟨I,β,lam,h⟩
 refine ⟨I,fun k=>β (sw a b k),fun l=>lam (sw a b l),?_⟩
 have hs:∀ k,lk (s.rn a b).sto k=(lk s.sto (sw a b k)).map (rnE a b):=fun k=>lk_sw _ _
 exact
  {defers:=h.defers
   size:=h.size
   below:=h.below
   env:=fun t x ht=>by
    rw[rn_look] at ht
    simp only[Option.map_eq_some_iff] at ht
    obtain ⟨x0,ht,rfl⟩:=ht
    obtain ⟨v,h1,h2⟩:=h.env t x0 ht
    exact ⟨v,h1,rn_R h2⟩
   sto:=fun k en hk hu=>by
    rw[hs] at hk
    simp only[Option.map_eq_some_iff] at hk
    obtain ⟨e0,hk,rfl⟩:=hk
    rw[rnE_isU] at hu
    obtain ⟨bk,h1,h2⟩:=h.sto _ e0 hk hu
    exact ⟨bk,h1,rn_RE h2⟩
   usto:=fun l sz rows hk=>by
    rw[hs] at hk
    simp only[Option.map_eq_some_iff] at hk
    obtain ⟨e0,hk,he⟩:=hk
    cases e0<;>simp only[rnE,reduceCtorEq,Entry.uarr.injEq] at he
    obtain ⟨rfl,rfl⟩:=he
    have:=rn_RU (a:=a) (b:=b) (h.usto _ _ _ hk)
    rw[sw_sw] at this
    exact this
   bdom:=fun k bk hk=>by
    obtain ⟨en,h1,h2⟩:=h.bdom _ bk hk
    exact ⟨rnE a b en,by rw[hs,h1]; rfl,by rw[rnE_isU]; exact h2⟩
   binj:=fun k k' bk h1 h2=>sw_inj (h.binj _ _ bk h1 h2)
   bnew:=fun k bk hk=>h.bnew _ bk hk
   Isub:=h.Isub
   I0sub:=h.I0sub
   Inew:=h.Inew
   spare:=fun l av len cap sz hl c h1 h2=>by
    obtain ⟨bk,o,q1,q2,q3,q4,q5,q6⟩:=h.spare _ av len cap sz hl c h1 h2
    exact ⟨bk,o,q1,q2,q3,q4,q5,fun k=>q6 _⟩
   ldis:=fun l l' bk o o' len len' cap cap' sz sz' hne h1 h2=>h.ldis _ _ bk o o' len len' cap cap' sz sz' (fun e=>hne (sw_inj e)) h1 h2}
theorem St.imp_freeze {s t:St} {k:Nat} (h:eFreeze k s fun s'=>s'=t):St.imp s t:=by
 rintro F a w ⟨I,β,lam,hI⟩
 obtain ⟨s',rfl,hH⟩:=holds_freeze (K:=fun s'=>s'=t) ⟨I,β,lam,hI⟩ h
 exact hH
theorem St.imp_tok {s:St} (l sz:Nat) (hl:lk s.sto l=none):St.imp s {(s.dg l) with sto:=pt (s.dg l).sto l (.uarr sz [])}:=by
 rintro F a w ⟨I,β,lam,h⟩
 have:=h.ownerU l (fun en he=>by rw[hl] at he; cases he) (ad:=none) (cap:=0) (sz:=sz) (rows:=[]) (w':=w) (Below.refl _ _) (fun _ _ _ _ h=>h) (fun _ _ _=>rfl) (fun c hc=>by omega)
  (fun _ _ _ _ _ _ _ _ _ _ _ _ _=>⟨rfl,fun _ h=>by cases h⟩) (fun lam' _ hl2=>RU_nil hl2)
 refine ⟨I,β,(fun l'=>if l'=l then some (none,0,0,sz) else lam l'),?_⟩
 show Inv F (St.look {(s.dg l) with sto:=pt (s.dg l).sto l (.uarr sz [])}) (lk (pt (s.dg l).sto l (.uarr sz []))) I β _ a w
 rw[look_sto,(lk_dg s l).1]
 have e:lk (pt (s.dg l).sto l (.uarr sz []))=setE (fun k=>(lk s.sto k).map (dgE l)) (some l) (some (.uarr sz [])):=by
  rw[lk_pt_setE,(lk_dg s l).2]
 rw[e]
 exact this
def St.impW (s t:St):Prop:=∀ (F:Frame0) (a:Act) (w:World) (I:Nat→Nat→Prop) (β:Blocks) (lam:Owned),Inv F s.look (lk s.sto) I β lam a w→Inv F t.look (lk t.sto) I β lam a w
theorem St.impW.imp {s t:St} (h:St.impW s t):St.imp s t:=fun F a w ⟨I,β,lam,hI⟩=>⟨I,β,lam,h F a w I β lam hI⟩
theorem St.impW.refl {s:St}:St.impW s s:=fun _ _ _ _ _ _ h=>h
theorem St.impW.trans {s t u:St} (h:St.impW s t) (k:St.impW t u):St.impW s u:=fun F a w I β lam g=>k F a w I β lam (h F a w I β lam g)
theorem CallI.pre {P:Program} {f:FuncId} {xs:List AV} {s t:St} {K:AV→St→Prop} (h:St.impW s t) (hc:CallI P f xs t K):CallI P f xs s K:=fun F a w I β lam hI=>hc F a w I β lam (h F a w I β lam hI)
theorem R_nil {I I':Nat→Nat→Prop} {w:World} {β β':Blocks} {lam lam':Owned} {v:Value} (h:R I w β lam (.tuple []) v):R I' w β' lam' (.tuple []) v:=by
 cases h with
 | base h=>cases h with | tuple _ vs hs _=>exact .base (.tuple _ vs hs fun i c hc=>by simp at hc)
 | tuple _ vs hs _ _=>exact .base (.tuple _ vs hs fun i c hc=>by simp at hc)
theorem CallI.post {P:Program} {f:FuncId} {xs:List AV} {s:St} {K K':AV→St→Prop} (hc:CallI P f xs s K) (h:∀ r s',K r s'→(∃ t,St.impW s' t∧K' r t)∨(r=.tuple []∧∃ t,St.imp s' t∧K' r t)):CallI P f xs s K' :=
 fun F a w I β lam hI vs hn hv=>Calls.mono (hc F a w I β lam hI vs hn hv) fun e w' ⟨v,e1,r,s',I',β',lam',hK,hI',hR⟩=>by
  refine ⟨v,e1,r,?_⟩
  rcases h r s' hK with ⟨t,ht,hk⟩ | ⟨rfl,t,ht,hk⟩
  ·exact ⟨t,I',β',lam',hk,ht _ _ _ _ _ _ hI',hR⟩
  ·obtain ⟨I2,β2,lam2,h2⟩:=ht _ _ _ ⟨I',β',lam',hI'⟩
   refine ⟨t,I2,β2,lam2,hk,h2,?_⟩
   exact R_nil hR
theorem St.impW_cell {s:St} {k j:Nat} {cells:List AV} {x y:AV} (hk:lk s.sto k=some (.var cells)) (hj:cells[j]?=some x)
  (hxy:∀ (F:Frame0) (a:Act) (w:World) (I:Nat→Nat→Prop) (β:Blocks) (lam:Owned) (v:Value),Inv F s.look (lk s.sto) I β lam a w→R I w β lam x v→R I w β lam y v) :
  St.impW s {s with sto:=pt s.sto k (.var (cells.set j y))}:=by
 intro F a w I β lam h
 show Inv F (St.look {s with sto:=pt s.sto k (.var (cells.set j y))}) (lk (pt s.sto k (.var (cells.set j y)))) I β lam a w
 rw[look_sto]
 exact
  {h with
   sto:=fun k' en hk' hu=>by
    simp only[lk_pt] at hk'
    split at hk'
    ·rename_i e
     subst e
     simp only[Option.some.injEq] at hk'
     subst hk'
     obtain ⟨b,hb,hE⟩:=h.sto k _ hk rfl
     refine ⟨b,hb,fun i c hi=>?_⟩
     rw[List.getElem?_set] at hi
     split at hi
     ·rename_i e
      subst e
      split at hi
      ·simp only[Option.some.injEq] at hi
       subst hi
       obtain ⟨v,h1,h2,h3,h4⟩:=hE j x hj
       exact ⟨v,h1,h2,h3,hxy _ _ _ _ _ _ _ h h4⟩
      ·cases hi
     ·exact hE i c hi
    ·exact h.sto k' en hk' hu
   usto:=fun l sz rows hk'=>by
    simp only[lk_pt] at hk'
    split at hk'
    ·simp at hk'
    ·exact h.usto l sz rows hk'
   bdom:=fun k' b hb=>by
    obtain ⟨en,h1,h2⟩:=h.bdom k' b hb
    by_cases e:k=k'
    ·exact ⟨.var (cells.set j y),by simp[e],rfl⟩
    ·exact ⟨en,by simp only[lk_pt,if_neg e]; exact h1,h2⟩}
theorem St.imp_cell {s:St} {k j:Nat} {cells:List AV} {x y:AV} (hk:lk s.sto k=some (.var cells)) (hj:cells[j]?=some x)
  (hxy:∀ (F:Frame0) (a:Act) (w:World) (I:Nat→Nat→Prop) (β:Blocks) (lam:Owned) (v:Value),Inv F s.look (lk s.sto) I β lam a w→R I w β lam x v→R I w β lam y v) :
  St.imp s {s with sto:=pt s.sto k (.var (cells.set j y))}:=(St.impW_cell hk hj hxy).imp
theorem St.imp_cell_nil {s:St} {k j n l sz:Nat} {cells:List AV} (hk:lk s.sto k=some (.var cells)) (hj:cells[j]?=some (.list n .full [])) (hl:lk s.sto l=some (.uarr sz [])) :
  St.imp s {s with sto:=pt s.sto k (.var (cells.set j (.us l sz 0 0)))} :=
 St.imp_cell hk hj fun F a w I β lam v h hx=>by
  obtain ⟨av,cap,rfl,_,hf,_⟩:=hx.list_inv
  have hc:=hf rfl
  simp only[List.length_nil] at hc
  subst hc
  obtain ⟨a',cap',h1,h2,h3,h4⟩:=h.usto l sz [] hl
  exact .us l sz 0 0 cap' 0 a' av h1 (Nat.le_refl _) (Nat.zero_le _) (fun h=>absurd rfl h)
section
variable {P:Program} {s:St} {K:Exit→St→Prop}
def stepS (st:Nat→St) (I:Nat→Prop) (k:Nat) (K:Exit→St→Prop):Exit→St→Prop
 | .normal,s=>St.imp s (st k)∧I k
 | e,s=>K e s
@[simp] theorem stepS_normal {st:Nat→St} {I:Nat→Prop} {k:Nat}:stepS st I k K .normal s=(St.imp s (st k)∧I k):=rfl
@[simp] theorem stepS_exit {st:Nat→St} {I:Nat→Prop} {k j:Nat}:stepS st I k K (.exit j) s=K (.exit j) s:=rfl
@[simp] theorem stepS_ret {st:Nat→St} {I:Nat→Prop} {k:Nat}:stepS st I k K .ret s=K .ret s:=rfl
@[simp] theorem stepS_goto {st:Nat→St} {I:Nat→Prop} {k j:Nat}:stepS st I k K (.goto j) s=K (.goto j) s:=rfl
theorem awp_forS {a:ACode} (st:Nat→St) (I:Nat→Prop) (N:Nat) (h0:St.imp s (st 0)) (i0:I 0) (h1:∀ k,k<N→I k→awp P a (st k) (stepS st I (k+1) K)) (h2:I N→awp P a (st N) (lastC K)) :
  awp P (.loop a) s K:=by
 refine ⟨fun n s=>∃ k,k≤N∧n=N-k∧s=st k∧I k,N,st 0,h0,⟨0,by omega,by omega,rfl,i0⟩,?_⟩
 rintro n s ⟨k,hk,rfl,rfl,hi⟩
 by_cases h:k<N
 ·refine awp_mono (fun e s hs=>?_) (h1 k h hi)
  cases e with
  | normal=>exact ⟨N-(k+1),st (k+1),by omega,hs.1,k+1,by omega,rfl,rfl,hs.2⟩
  | _=>exact hs
 ·obtain rfl:k=N:=by omega
  refine awp_mono (fun e s hs=>?_) (h2 hi)
  cases e with
  | normal=>exact hs.elim
  | _=>exact hs
end
def low1 (M:Nat):AV→Bool
 | .ptr k _=>decide (k<M)
 | .eptr k _ _ _=>decide (k<M)
 | .sl k _ _ _=>decide (k<M)
 | .us k _ _ _=>decide (k<M)
 | .up k _ _ _=>decide (k<M)
 | .mp k=>decide (k<M)
 | .list _ (.own l) _=>decide (l<M)
 | .fn _ _=>false
 | .tuple _=>false
 | .lit _ _=>false
 | .raw _=>false
 | _=>true
def low (M:Nat):AV→Bool
 | .fn _ caps=>caps.all (low1 M)
 | .tuple cells=>cells.all (low1 M)
 | x=>low1 M x
def lowE (M:Nat):Entry→Bool
 | .var cells=>cells.all (low M)
 | .uarr _ rows=>rows.all fun r=>r.all (low M)
 | _=>true
def lowF (M:Nat) (f:List (Nat × AV)):Prop:=∀ p∈f,low M p.2=true
def lowO (M:Nat) (l:List (List (Nat × AV))):Prop:=∀ f∈l,lowF M f
theorem map_self {α:Type} {f:α→α} {l:List α} (h:∀ x∈l,f x=x):l.map f=l:=by
 rw[List.map_congr_left (g:=id) h]; simp
section
variable {M k:Nat} (hk:M≤k)
include hk
theorem low1_tokB {x:AV} (h:low1 M x=true):tokB k x=false:=by
 cases x with
 | list sz m rows=>cases m<;>simp[low1,tokB,tok1] at h ⊢; omega
 | _=>simp[low1,tokB,tok1] at h ⊢<;>try omega
theorem low1_tok1 {x:AV} (h:low1 M x=true):tok1 k x=false:=by
 have:=low1_tokB hk h
 cases x with
 | list sz m rows=>rfl
 | _=>exact this
theorem low1_ref1 {x:AV} (h:low1 M x=true):ref1To k x=false:=by
 cases x with
 | list sz m rows=>rfl
 | _=>simp[low1,ref1To] at h ⊢<;>try omega
theorem low1_rn1 {j:Nat} (hj:M≤j) {x:AV} (h:low1 M x=true):rn1 k j x=x:=by
 have e:∀ i,i<M→sw k j i=i:=fun i hi=>by unfold sw; rw[if_neg (by omega),if_neg (by omega)]
 cases x with
 | list sz m rows=>cases m<;>simp[low1,rn1] at h ⊢; exact e _ h
 | _=>simp[low1,rn1] at h ⊢<;>try exact e _ h
theorem low_any_tok {l:List AV} (h:l.all (low1 M)=true):l.any (tok1 k)=false :=
 List.any_eq_false.2 fun x hx=>by rw[low1_tok1 hk (List.all_eq_true.1 h x hx)]; simp
theorem low_any_ref {l:List AV} (h:l.all (low1 M)=true):l.any (ref1To k)=false :=
 List.any_eq_false.2 fun x hx=>by rw[low1_ref1 hk (List.all_eq_true.1 h x hx)]; simp
theorem low_dg {x:AV} (h:low M x=true):dg k x=x:=by
 cases x with
 | fn f caps=>simp only[dg,low_any_tok hk h]; rfl
 | tuple caps=>simp only[dg,low_any_tok hk h]; rfl
 | lit=>cases h
 | raw=>cases h
 | _=>simp only[low] at h; exact dg_fixB (low1_tokB hk h)
theorem low_refs {x:AV} (h:low M x=true):refsTo k x=false:=by
 cases x with
 | fn f caps=>exact low_any_ref hk h
 | tuple caps=>exact low_any_ref hk h
 | lit=>cases h
 | raw=>cases h
 | list=>rfl
 | _=>simp[low,low1,refsTo] at h ⊢<;>try omega
theorem low_frz {e:Entry} {x:AV} (h:low M x=true):frz k e x=x:=by
 cases x with
 | lit=>cases h
 | raw=>cases h
 | list sz m rows =>
  cases m with
  | own l =>
   have h:low1 M (.list sz (.own l) rows)=true:=h
   simp only[low1,decide_eq_true_eq] at h
   simp only[frz]; rw[if_neg (by omega)]
  | _=>rfl
 | ptr j off =>
  have h:low1 M (.ptr j off)=true:=h
  simp only[low1,decide_eq_true_eq] at h
  simp only[frz]; rw[if_neg (by omega)]
 | eptr j sz i off =>
  have h:low1 M (.eptr j sz i off)=true:=h
  simp only[low1,decide_eq_true_eq] at h
  simp only[frz]; rw[if_neg (by omega)]
 | sl j sz off len =>
  have h:low1 M (.sl j sz off len)=true:=h
  simp only[low1,decide_eq_true_eq] at h
  simp only[frz]; rw[if_neg (by omega)]
 | us j sz off len =>
  have h:low1 M (.us j sz off len)=true:=h
  simp only[low1,decide_eq_true_eq] at h
  simp only[frz]; rw[if_neg (by omega)]
 | up j sz i off =>
  have h:low1 M (.up j sz i off)=true:=h
  simp only[low1,decide_eq_true_eq] at h
  simp only[frz]; rw[if_neg (by omega)]
 | mp j =>
  have h:low1 M (.mp j)=true:=h
  simp only[low1,decide_eq_true_eq] at h
  simp only[frz]; rw[if_neg (by omega)]
 | _=>rfl
theorem low_rn {j:Nat} (hj:M≤j) {x:AV} (h:low M x=true):rn k j x=x:=by
 have all:∀ {l:List AV},l.all (low1 M)=true→l.map (rn1 k j)=l:=fun {l} h=>by
  exact map_self fun x hx=>low1_rn1 hk hj (List.all_eq_true.1 h x hx)
 cases x with
 | fn f caps=>simp only[rn,all h]
 | tuple caps=>simp only[rn,all h]
 | lit=>cases h
 | raw=>cases h
 | _=>simp only[low] at h; exact low1_rn1 hk hj h
theorem lowE_dg {e:Entry} (h:lowE M e=true):dgE k e=e:=by
 have all:∀ {l:List AV},l.all (low M)=true→l.map (dg k)=l:=fun {l} h=>by
  exact map_self fun x hx=>low_dg hk (List.all_eq_true.1 h x hx)
 cases e with
 | var cells=>simp only[dgE,all h]
 | uarr sz rows =>
  simp only[dgE,rowsDg]
  rw[map_self fun r hr=>all (List.all_eq_true.1 h r hr)]
 | _=>rfl
theorem lowE_frz {e0 e:Entry} (h:lowE M e=true):frzE k e0 e=e:=by
 have all:∀ {l:List AV},l.all (low M)=true→l.map (frz k e0)=l:=fun {l} h=>by
  exact map_self fun x hx=>low_frz hk (List.all_eq_true.1 h x hx)
 cases e with
 | var cells=>simp only[frzE,all h]
 | uarr sz rows =>
  simp only[frzE]
  rw[map_self fun r hr=>all (List.all_eq_true.1 h r hr)]
 | _=>rfl
theorem lowE_rn {j:Nat} (hj:M≤j) {e:Entry} (h:lowE M e=true):rnE k j e=e:=by
 have all:∀ {l:List AV},l.all (low M)=true→l.map (rn k j)=l:=fun {l} h=>by
  exact map_self fun x hx=>low_rn hk hj (List.all_eq_true.1 h x hx)
 cases e with
 | var cells=>simp only[rnE,all h]
 | uarr sz rows =>
  simp only[rnE]
  rw[map_self fun r hr=>all (List.all_eq_true.1 h r hr)]
 | _=>rfl
theorem lowF_dg {f:List (Nat × AV)} (h:lowF M f):(f.map fun p=>(p.1,dg k p.2))=f:=by
 exact map_self fun p hp=>by rw[low_dg hk (h p hp)]
theorem lowF_frz {e:Entry} {f:List (Nat × AV)} (h:lowF M f):(f.map fun p=>(p.1,frz k e p.2))=f:=by
 exact map_self fun p hp=>by rw[low_frz hk (h p hp)]
theorem lowF_rn {j:Nat} (hj:M≤j) {f:List (Nat × AV)} (h:lowF M f):(f.map fun p=>(p.1,rn k j p.2))=f:=by
 exact map_self fun p hp=>by rw[low_rn hk hj (h p hp)]
theorem lowF_noRef {f:List (Nat × AV)} (h:lowF M f):noRef k f=true:=by
 induction f with
 | nil=>rfl
 | cons p f ih =>
  obtain ⟨m,x⟩:=p
  have h1:=h (m,x) (by simp)
  simp only[noRef,low_refs hk h1,ih fun p hp=>h p (by simp[hp])]; rfl
theorem low_anyRef {l:List AV} (h:l.all (low M)=true):anyRef k l=false:=by
 induction l with
 | nil=>rfl
 | cons x l ih =>
  simp only[List.all_cons,Bool.and_eq_true] at h
  simp only[anyRef,low_refs hk h.1,ih h.2]; rfl
theorem lowE_refs {e:Entry} (h:lowE M e=true):refsToE k e=false:=by
 cases e with
 | var cells=>exact low_anyRef hk h
 | uarr sz rows =>
  have h:(rows.all fun r=>r.all (low M))=true:=h
  show anyRefR k rows=false
  induction rows with
  | nil=>rfl
  | cons r rows ih =>
   have h':=h
   simp only[List.all_cons,Bool.and_eq_true] at h'
   simp only[anyRefR,low_anyRef hk h'.1,ih h'.2 h'.2]; rfl
 | _=>rfl
theorem lowO_noRef {f:List (List (Nat × AV))} (h:lowO M f):noRefO k f=true:=by
 induction f with
 | nil=>rfl
 | cons p f ih=>simp only[noRefO,lowF_noRef hk (h p (by simp)),ih fun p hp=>h p (by simp[hp])]; rfl
theorem lowO_dg {f:List (List (Nat × AV))} (h:lowO M f):(f.map fun f=>f.map fun p=>(p.1,dg k p.2))=f:=by
 exact map_self fun p hp=>lowF_dg hk (h p hp)
theorem lowO_frz {e:Entry} {f:List (List (Nat × AV))} (h:lowO M f):(f.map fun f=>f.map fun p=>(p.1,frz k e p.2))=f:=by
 exact map_self fun p hp=>lowF_frz hk (h p hp)
theorem lowO_rn {j:Nat} (hj:M≤j) {f:List (List (Nat × AV))} (h:lowO M f):(f.map fun f=>f.map fun p=>(p.1,rn k j p.2))=f:=by
 exact map_self fun p hp=>lowF_rn hk hj (h p hp)
end
theorem lowF_cons {M:Nat} {t:Nat} {x:AV} {f:List (Nat × AV)}:lowF M ((t,x)::f)↔low M x=true∧lowF M f:=by simp[lowF]
theorem lowF_nil {M:Nat}:lowF M []:=fun _ h=>by cases h
theorem lowO_cons {M:Nat} {x:List (Nat × AV)} {f:List (List (Nat × AV))}:lowO M (x::f)↔lowF M x∧lowO M f:=by simp[lowO]
theorem low1_mono {M N:Nat} (h:M≤N) {x:AV} (hx:low1 M x=true):low1 N x=true:=by
 cases x with
 | list sz m rows=>cases m<;>simp[low1] at hx ⊢; omega
 | _=>simp[low1] at hx ⊢<;>try omega
theorem low_mono {M N:Nat} (h:M≤N) {x:AV} (hx:low M x=true):low N x=true:=by
 have all:∀ {l:List AV},l.all (low1 M)=true→l.all (low1 N)=true:=fun {l} hl=>List.all_eq_true.2 fun y hy=>low1_mono h (List.all_eq_true.1 hl y hy)
 cases x with
 | fn f caps=>exact all hx
 | tuple caps=>exact all hx
 | lit=>cases hx
 | raw=>cases hx
 | _=>simp only[low] at hx ⊢; exact low1_mono h hx
theorem lowF_mono {M N:Nat} (h:M≤N) {f:List (Nat × AV)} (hf:lowF M f):lowF N f:=fun p hp=>low_mono h (hf p hp)
theorem lowO_mono {M N:Nat} (h:M≤N) {f:List (List (Nat × AV))} (hf:lowO M f):lowO N f:=fun p hp=>lowF_mono h (hf p hp)
end Go.Am

namespace Go.Am
open Go.RowKit
section
variable {I:Nat→Nat→Prop} {w:World} {β:Blocks} {lam:Owned}
theorem R.own_plain {sz:Nat} {m:Mode} {rows:List (List AV)} {v:Value} (h:R I w β lam (.list sz m rows) v):R I w β lam (.list sz .plain rows) v:=by
 cases h with
 | base h =>
  cases h with
  | listNil sz m a cap hm ho=>exact .base (.listNil _ _ _ _ (fun h=>by cases h) (fun _ h=>by cases h))
  | list sz m rows b o cap g hcap hm ho hrow hcell hc=>exact .base (.list _ _ rows b o cap g hcap (fun h=>by cases h) (fun _ h=>by cases h) hrow hcell hc)
 | own sz l' rows a cap h hl'=>exact .base h
theorem R.nil_plain {sz sz':Nat} {m:Mode} {v:Value} (h:R I w β lam (.list sz m []) v):R I w β lam (.list sz' .plain []) v:=by
 cases h with
 | base h=>cases h<;>exact .base (.listNil _ _ _ _ (fun h=>by cases h) (fun _ h=>by cases h))
 | own sz l' rows a cap h hl'=>exact .base (.listNil _ _ _ _ (fun h=>by cases h) (fun _ h=>by cases h))
end
def weak (x y:AV):Prop:=x=y∨(∃ sz m rows,x=.list sz m rows∧y=.list sz .plain rows)∨∃ sz sz' m,x=.list sz m []∧y=.list sz' .plain []
theorem weak.refl {x:AV}:weak x x:=.inl rfl
theorem weak.list {sz:Nat} {m:Am.Mode} {rows:List (List AV)}:weak (.list sz m rows) (.list sz .plain rows):=.inr (.inl ⟨_,_,_,rfl,rfl⟩)
theorem weak.nil {sz sz':Nat} {m:Am.Mode}:weak (.list sz m []) (.list sz' .plain []):=.inr (.inr ⟨_,_,_,rfl,rfl⟩)
theorem weak.R {x y:AV} (h:weak x y) {I:Nat→Nat→Prop} {w:World} {β:Blocks} {lam:Owned} {v:Value} (hx:R I w β lam x v):R I w β lam y v:=by
 rcases h with rfl | ⟨sz,m,rows,rfl,rfl⟩ | ⟨sz,sz',m,rfl,rfl⟩
 ·exact hx
 ·exact hx.own_plain
 ·exact hx.nil_plain
theorem St.impW_uarr {s:St} {l sz:Nat} {rows rows':List (List AV)} (hk:lk s.sto l=some (.uarr sz rows)) (hl:rows'.length=rows.length)
  (h:∀ (i:Nat) r r',rows[i]?=some r→rows'[i]?=some r'→r'.length=r.length∧∀ (j:Nat) c c',r[j]?=some c→r'[j]?=some c'→weak c c') :
  St.impW s {s with sto:=pt s.sto l (.uarr sz rows')}:=by
 intro F a w I β lam hI
 show Inv F (St.look {s with sto:=pt s.sto l (.uarr sz rows')}) (lk (pt s.sto l (.uarr sz rows'))) I β lam a w
 rw[look_sto]
 exact
  {hI with
   sto:=fun k en hk' hu=>by
    simp only[lk_pt] at hk'
    split at hk'
    ·simp only[Option.some.injEq] at hk'
     subst hk'
     cases hu
    ·exact hI.sto k en hk' hu
   usto:=fun k sz' rows'' hk'=>by
    simp only[lk_pt] at hk'
    split at hk'
    ·rename_i e
     subst e
     simp only[Option.some.injEq,Entry.uarr.injEq] at hk'
     obtain ⟨rfl,rfl⟩:=hk'
     obtain ⟨ad,cap,h1,h2,h3,h4⟩:=hI.usto _ _ _ hk
     have get:∀ (i:Nat) r',rows'[i]?=some r'→∃ r,rows[i]?=some r:=fun i r' hi=>by
      have:i<rows.length:=by rw[← hl]; exact (List.getElem?_eq_some_iff.1 hi).1
      exact ⟨rows[i],by simp[this]⟩
     refine ⟨ad,cap,h1,by omega,fun i r' hi=>?_,fun hne=>?_⟩
     ·obtain ⟨r,hr⟩:=get i r' hi
      rw[(h i r r' hr hi).1]
      exact h3 i r hr
     ·obtain ⟨b,o,rfl,h5⟩:=h4 (by rintro rfl; exact hne (List.eq_nil_of_length_eq_zero (by simpa using hl)))
      refine ⟨b,o,rfl,fun i r' j c' hi hj=>?_⟩
      obtain ⟨r,hr⟩:=get i r' hi
      obtain ⟨e1,e2⟩:=h i r r' hr hi
      have hjl:j<r.length:=by rw[← e1]; exact (List.getElem?_eq_some_iff.1 hj).1
      have hc:r[j]?=some r[j]:=by simp[hjl]
      obtain ⟨v,g1,g2,g3⟩:=h5 i r j _ hr hc
      exact ⟨v,g1,g2,(e2 j _ c' hc hj).R g3⟩
    ·exact hI.usto k sz' rows'' hk'
   bdom:=fun k' b hb=>by
    obtain ⟨en,h1,h2⟩:=hI.bdom k' b hb
    by_cases e:l=k'
    ·subst e; rw[hk] at h1; cases h1; cases h2
    ·exact ⟨en,by simp only[lk_pt,if_neg e]; exact h1,h2⟩}
theorem St.imp_uarr {s:St} {l sz:Nat} {rows rows':List (List AV)} (hk:lk s.sto l=some (.uarr sz rows)) (hl:rows'.length=rows.length)
  (h:∀ (i:Nat) r r',rows[i]?=some r→rows'[i]?=some r'→r'.length=r.length∧∀ (j:Nat) c c',r[j]?=some c→r'[j]?=some c'→weak c c') :
  St.imp s {s with sto:=pt s.sto l (.uarr sz rows')}:=(St.impW_uarr hk hl h).imp
theorem St.impW_cell_weak {s:St} {k j:Nat} {cells:List AV} {x y:AV} (hk:lk s.sto k=some (.var cells)) (hj:cells[j]?=some x) (h:weak x y) :
  St.impW s {s with sto:=pt s.sto k (.var (cells.set j y))} :=
 St.impW_cell hk hj fun _ _ _ _ _ _ _ _ hx=>h.R hx
theorem St.imp_cell_weak {s:St} {k j:Nat} {cells:List AV} {x y:AV} (hk:lk s.sto k=some (.var cells)) (hj:cells[j]?=some x) (h:weak x y) :
  St.imp s {s with sto:=pt s.sto k (.var (cells.set j y))}:=(St.impW_cell_weak hk hj h).imp
theorem St.impW_drop {s:St} {l sz:Nat} {rows:List (List AV)} (hk:lk s.sto l=some (.uarr sz rows)):St.impW s {s with sto:=del [l] s.sto}:=by
 intro F a w I β lam hI
 have hd:∀ k e,lk (del [l] s.sto) k=some e→k≠l∧lk s.sto k=some e:=fun k e h=>by
  rw[lk_del] at h
  split at h
  ·cases h
  ·rename_i hn; exact ⟨fun e=>hn (by simp[e]),h⟩
 have hd':∀ k e,k≠l→lk s.sto k=some e→lk (del [l] s.sto) k=some e:=fun k e hne h=>by rw[lk_del,if_neg (by simpa using hne)]; exact h
 exact
  {hI with
   sto:=fun k en h hu=>hI.sto k en (hd k en h).2 hu
   usto:=fun k sz' rows' h=>hI.usto k sz' rows' (hd k _ h).2
   bdom:=fun k b hb=>by
    obtain ⟨en,h1,h2⟩:=hI.bdom k b hb
    exact ⟨en,hd' k en (fun e=>by subst e; rw[hk] at h1; cases h1; cases h2) h1,h2⟩}
end Go.Am

namespace Go.Am
def keyV (k:List Int):Value:=.agg (k.map (Value.int .i64)).toArray
structure KeyT (P:Program) (t key:TypeId) (n:Nat):Prop where
 kd:kds P Op.maxDepth key=some (List.replicate n (.i .i64))
 ag:agT P key=true
 chk:∀ (b:Bool) (k:List Int),k.length=n→semPure P (Instr.checkKey b 10000 key (keyV k))=some ()
end Go.Am

namespace Go.Am
def eCallvI (P:Program) (s:St) (d:Option Nat) (K:St→Prop):List AV→Prop
 | .fn (.func f) caps::ys=>okFn P f=true∧eCallI P f (ys++caps) s d K
 | _=>False
@[simp] theorem eCallvI_fn {P:Program} {s:St} {d:Option Nat} {K:St→Prop} {f:FuncId} {caps ys:List AV} :
  eCallvI P s d K (.fn (.func f) caps::ys)=(okFn P f=true∧eCallI P f (ys++caps) s d K):=rfl
@[simp] theorem ops_callvI {P:Program} {xs:List Opd} {d:Option Nat} {os:List AOper} {s:St} {KS:St→Prop} :
  awpOps P (⟨d,.callvI,xs,none⟩::os) s KS=eCallvI P s d (opsC P os KS) (xs.map (ev s)):=propext Iff.rfl
theorem St.imp_gone {s t:St} {k:Nat} {e:Entry} (hk:lk s.sto k=some e) (h1:s.env.map (fun p=>(p.1,frz k e p.2))=t.env) (h2:(del [k] s.sto).map (fun p=>(p.1,frzE k e p.2))=t.sto)
  (h3:s.out.map (fun f=>f.map fun p=>(p.1,frz k e p.2))=t.out) (hb:s.base=t.base) (hu:t.unmet k=true):St.imp s t :=
 St.imp_freeze (k:=k) (by
  unfold eFreeze
  rw[hk]
  obtain ⟨e0,s0,o0,b0⟩:=t
  simp only at h1 h2 h3 hb
  simp only[h1,h2,h3,hb]
  exact ⟨hu,trivial⟩)
end Go.Am
