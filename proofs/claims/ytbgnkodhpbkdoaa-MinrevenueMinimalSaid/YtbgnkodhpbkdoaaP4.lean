/- What the proof rests on, part 4: Am16 Am17 Am18 Am19 Am20 Am21 Am33 Am34 Am35 Am36 Am37. -/
import Derived.Test.YtbgnkodhpbkdoaaP3
set_option maxRecDepth 100000
set_option maxHeartbeats 4000000
namespace Go.Am
open Go.RowKit
def Yields (P:Program) (d:Nat) (op:AOp) (xs:List AV) (σ:Nat→Option zb) (x:AV) (en:Option zb):Prop :=
 zN P d op xs σ fun x' en'=>x'=x∧en'=en
theorem mv {r:Option Value} {k:AV→Option zb→Prop} (h:yX r k):∃ x,k x none∧yX r fun x' en'=>x'=x∧en'=none:=by
 cases r with
 | none=>exact h.elim
 | some v=>exact ⟨_,h,rfl,rfl⟩
theorem vt {r:Option AV} {k:AV→Option zb→Prop} (h:xI r k):∃ x,k x none∧xI r fun x' en'=>x'=x∧en'=none:=by
 cases r with
 | none=>exact h.elim
 | some v=>exact ⟨_,h,rfl,rfl⟩
theorem jl {n:Nat} {lo hi mx:Bool} {xs:List AV} {kk:Nat→Nat→Bool→Prop} (h:wF n lo hi mx xs kk) :
  ∃ l h' f,kk l h' f∧wF n lo hi mx xs fun l1 h1 f1=>l1=l∧h1=h'∧f1=f:=by
 unfold wF at h ⊢
 split at h
 ·exact ⟨_,_,_,h,rfl,rfl,rfl⟩
 ·exact ⟨_,_,_,h.2.2,h.1,h.2.1,rfl,rfl,rfl⟩
 ·exact ⟨_,_,_,h.2.2,h.1,h.2.1,rfl,rfl,rfl⟩
 ·exact ⟨_,_,_,h.2.2.2,h.1,h.2.1,h.2.2.1,rfl,rfl,rfl⟩
 ·exact ⟨_,_,_,h.2.2.2,h.1,h.2.1,h.2.2.1,rfl,rfl,rfl⟩
 ·exact ⟨_,_,_,h.2.2.2.2,h.1,h.2.1,h.2.2.1,h.2.2.2.1,rfl,rfl,rfl⟩
 ·exact h.elim
theorem jj {n:Nat} {lo hi mx:Bool} {xs:List AV} {kk kk':Nat→Nat→Bool→Prop} (hm:∀ l h f,kk l h f→kk' l h f) (h:wF n lo hi mx xs kk):wF n lo hi mx xs kk':=by
 unfold wF at h ⊢
 split at h
 ·exact hm _ _ _ h
 ·exact ⟨h.1,h.2.1,hm _ _ _ h.2.2⟩
 ·exact ⟨h.1,h.2.1,hm _ _ _ h.2.2⟩
 ·exact ⟨h.1,h.2.1,h.2.2.1,hm _ _ _ h.2.2.2⟩
 ·exact ⟨h.1,h.2.1,h.2.2.1,hm _ _ _ h.2.2.2⟩
 ·exact ⟨h.1,h.2.1,h.2.2.1,h.2.2.2.1,hm _ _ _ h.2.2.2.2⟩
 ·exact h.elim
theorem mZ {P:Program} {f:FuncId} {σ:Nat→Option zb} {xs:List AV} {k:AV→Option zb→Prop} (h:xY P f σ xs k):∃ x,k x none∧xY P f σ xs fun x' en'=>x'=x∧en'=none:=by
 unfold xY at h ⊢
 split at h
 ·rename_i args heq
  obtain ⟨r,h1,h2,h3⟩:=h
  exact ⟨r,h3,⟨r,h1,h2,rfl,rfl⟩⟩
 ·exact h.elim
theorem fD {P:Program} {d:Nat} {op:AOp} {xs:List AV} {σ:Nat→Option zb} {k:AV→Option zb→Prop} (h:zN P d op xs σ k) :
  ∃ x en,k x en∧(en≠none→σ d=none∧uI en=false)∧Yields P d op xs σ x en:=by
 unfold Yields at *
 cases op<;>simp only[zN] at h ⊢
 case mov =>
  split at h
  ·exact ⟨_,none,h,fun h=>absurd rfl h,by simp_all⟩
  ·exact h.elim
 case pick =>
  split at h
  ·rename_i t a b
   cases t with
   | true=>exact ⟨_,none,h.1 rfl,fun h=>absurd rfl h,by simp⟩
   | false=>exact ⟨_,none,h.2 rfl,fun h=>absurd rfl h,by simp⟩
  ·exact h.elim
 case alloc cells=>exact ⟨_,_,h.2,fun _=>⟨h.1,rfl⟩,by simp_all⟩
 case box =>
  split at h
  ·split at h
   ·rename_i cs hcs
    exact ⟨_,_,h.2,fun _=>⟨h.1,rfl⟩,by simp_all⟩
   ·exact h.elim
  ·exact h.elim
 case build zero places =>
  obtain ⟨x,h1,h2⟩:=vt h
  exact ⟨_,none,h1,fun h=>absurd rfl h,by simp_all⟩
 case mkslice sz n zero places =>
  split at h
  ·rename_i cs hcs
   exact ⟨_,none,h.2.2,fun h=>absurd rfl h,by simp_all⟩
  ·exact ⟨_,none,h.2.2,fun h=>absurd rfl h,by simp_all⟩
  ·exact h.elim
 case mksliceL sz n zero places =>
  split at h
  ·rename_i cs hcs
   exact ⟨_,none,h.2.2,fun h=>absurd rfl h,by simp_all⟩
  ·exact h.elim
 case mkmap=>exact ⟨_,_,h.2,fun _=>⟨h.1,rfl⟩,by simp_all⟩
 case lookup t ok =>
  unfold rk at h ⊢
  split at h
  ·split at h
   ·split at h
    ·exact ⟨_,none,h,fun h=>absurd rfl h,by simp_all⟩
    ·exact h.elim
   ·exact h.elim
  ·exact h.elim
 case load n =>
  unfold n6 at h ⊢
  split at h
  ·split at h
   ·rename_i j off cells hs
    obtain ⟨x,h1,h2⟩:=vt h
    exact ⟨_,none,h1,fun h=>absurd rfl h,by simp_all⟩
   ·exact h.elim
  ·split at h
   ·rename_i j sz i off sz' rows hs
    obtain ⟨h0,h⟩:=h
    split at h
    ·rename_i r hr
     obtain ⟨x,h1,h2⟩:=vt h
     exact ⟨_,none,h1,fun h=>absurd rfl h,by simp_all⟩
    ·exact h.elim
   ·exact h.elim
  ·obtain ⟨x,h1,h2⟩:=vt h
   exact ⟨_,none,h1,fun h=>absurd rfl h,by simp_all⟩
  ·split at h
   ·rename_i l sz i off sz' rows hs
    obtain ⟨h0,h⟩:=h
    split at h
    ·rename_i r hr
     obtain ⟨x,h1,h2⟩:=vt h
     exact ⟨_,none,h1,fun h=>absurd rfl h,by simp_all⟩
    ·exact h.elim
   ·exact h.elim
  ·exact h.elim
 case nilChk =>
  split at h
  ·exact ⟨_,none,h,fun h=>absurd rfl h,by simp_all⟩
  ·exact ⟨_,none,h,fun h=>absurd rfl h,by simp_all⟩
  ·exact ⟨_,none,h,fun h=>absurd rfl h,by simp_all⟩
  ·exact ⟨_,none,h,fun h=>absurd rfl h,by simp_all⟩
  ·exact ⟨_,none,h,fun h=>absurd rfl h,by simp_all⟩
  ·exact h.elim
 case bin op t x y =>
  unfold yi at h ⊢
  split at h
  ·split at h
   ·obtain ⟨x,h1,h2⟩:=mv h
    exact ⟨_,none,h1,fun h=>absurd rfl h,by simp_all⟩
   ·obtain ⟨x,h1,h2⟩:=vt h
    exact ⟨_,none,h1,fun h=>absurd rfl h,by simp_all⟩
  ·exact h.elim
 case un op =>
  split at h
  ·obtain ⟨x,h1,h2⟩:=mv h
   exact ⟨_,none,h1,fun h=>absurd rfl h,by simp_all⟩
  ·exact h.elim
 case conv s t =>
  split at h
  ·obtain ⟨x,h1,h2⟩:=mv h
   exact ⟨_,none,h1,fun h=>absurd rfl h,by simp_all⟩
  ·split at h
   ·exact ⟨_,none,h.2,fun h=>absurd rfl h,by simp_all⟩
   ·exact h.elim
  ·exact h.elim
 case idxV t =>
  split at h
  ·split at h
   ·obtain ⟨x,h1,h2⟩:=mv h
    exact ⟨_,none,h1,fun h=>absurd rfl h,by simp_all⟩
   ·exact h.elim
  ·exact h.elim
 case sliceV t lo hi mx =>
  split at h
  ·obtain ⟨l,h',f,⟨hm,h1⟩,h2⟩:=jl h
   refine ⟨_,none,h1,fun h=>absurd rfl h,jj ?_ h2⟩
   rintro _ _ _ ⟨rfl,rfl,rfl⟩
   simp_all
  ·exact h.elim
 case mm b ts t =>
  split at h
  ·obtain ⟨x,h1,h2⟩:=mv h
   exact ⟨_,none,h1,fun h=>absurd rfl h,by simp_all⟩
  ·exact h.elim
 case field off n =>
  split at h
  ·obtain ⟨x,h1,h2⟩:=vt h
   exact ⟨_,none,h1,fun h=>absurd rfl h,by simp_all⟩
  ·obtain ⟨x,h1,h2⟩:=vt h
   exact ⟨_,none,h1,fun h=>absurd rfl h,by simp_all⟩
  ·exact h.elim
 case faddr off =>
  split at h
  ·exact ⟨_,none,h,fun h=>absurd rfl h,by simp_all⟩
  ·exact ⟨_,none,h,fun h=>absurd rfl h,by simp_all⟩
  ·exact ⟨_,none,h,fun h=>absurd rfl h,by simp_all⟩
  ·exact ⟨_,none,h,fun h=>absurd rfl h,by simp_all⟩
  ·exact h.elim
 case iaddrA len esz =>
  unfold qK at h ⊢
  split at h
  ·exact ⟨_,none,h.2.2,fun h=>absurd rfl h,by simp_all⟩
  ·exact ⟨_,none,h.2.2,fun h=>absurd rfl h,by simp_all⟩
  ·exact ⟨_,none,h.2.2,fun h=>absurd rfl h,by simp_all⟩
  ·exact ⟨_,none,h.2.2,fun h=>absurd rfl h,by simp_all⟩
  ·exact h.elim
 case iaddrS sz =>
  unfold qL at h ⊢
  split at h
  ·obtain ⟨h1,h2,h3,h⟩:=h
   split at h
   ·exact ⟨_,none,h,fun h=>absurd rfl h,by simp_all⟩
   ·exact h.elim
  ·exact ⟨_,none,h.2.2.2,fun h=>absurd rfl h,by simp_all⟩
  ·exact ⟨_,none,h.2.2.2,fun h=>absurd rfl h,by simp_all⟩
  ·obtain ⟨h1,h2,h3,h4,h⟩:=h
   split at h
   ·exact ⟨_,none,h,fun h=>absurd rfl h,by simp_all⟩
   ·exact h.elim
  ·exact h.elim
 case idxA len esz n =>
  split at h
  ·obtain ⟨h1,h2,h⟩:=h
   obtain ⟨x,h3,h4⟩:=vt h
   exact ⟨_,none,h3,fun h=>absurd rfl h,by simp_all⟩
  ·exact h.elim
 case slice sz lo hi mx =>
  unfold rP at h ⊢
  split at h
  ·obtain ⟨h0,h⟩:=h
   obtain ⟨l,h',f,h1,h2⟩:=jl h
   refine ⟨_,none,h1,fun h=>absurd rfl h,h0,jj ?_ h2⟩
   rintro _ _ _ ⟨rfl,rfl,rfl⟩
   simp_all
  ·obtain ⟨h0,h⟩:=h
   obtain ⟨l,h',f,h1,h2⟩:=jl h
   refine ⟨_,none,h1,fun h=>absurd rfl h,h0,jj ?_ h2⟩
   rintro _ _ _ ⟨rfl,rfl,rfl⟩
   simp_all
  ·obtain ⟨h0,h⟩:=h
   obtain ⟨l,h',f,h1,h2⟩:=jl h
   refine ⟨_,none,h1,fun h=>absurd rfl h,h0,jj ?_ h2⟩
   rintro _ _ _ ⟨rfl,rfl,rfl⟩
   simp_all
  ·exact h.elim
 case mk sz bytes zero =>
  unfold eMk at h ⊢
  split at h
  ·obtain ⟨h1,h2,h3,h4,h5,h6,h7,h⟩:=h
   exact ⟨_,_,h,fun _=>⟨h7,rfl⟩,by simp_all⟩
  ·exact h.elim
 case len str =>
  unfold nh at h ⊢
  split at h
  rotate_left
  ·exact h.elim
  unfold nZ at h ⊢
  split at h
  ·exact ⟨_,none,h.2,fun h=>absurd rfl h,by simp_all⟩
  ·exact ⟨_,none,h.2,fun h=>absurd rfl h,by simp_all⟩
  ·exact ⟨_,none,h.2,fun h=>absurd rfl h,by simp_all⟩
  ·exact ⟨_,none,h.2,fun h=>absurd rfl h,by simp_all⟩
  ·exact ⟨_,none,h.2,fun h=>absurd rfl h,by simp_all⟩
  ·exact h.elim
 case extract i =>
  split at h
  ·obtain ⟨x,h1,h2⟩:=vt h
   exact ⟨_,none,h1,fun h=>absurd rfl h,by simp_all⟩
  ·exact h.elim
 case mkfn f=>exact ⟨_,none,h,fun h=>absurd rfl h,by simp_all⟩
 case mkb f=>exact ⟨_,none,h,fun h=>absurd rfl h,by simp_all⟩
 case call f =>
  obtain ⟨x,h1,h2⟩:=mZ h
  exact ⟨_,none,h1,fun h=>absurd rfl h,by simp_all⟩
 case mkif t =>
  split at h
  ·exact ⟨_,none,h.2,fun h=>absurd rfl h,by simp_all⟩
  ·exact h.elim
 case callm name =>
  split at h
  ·split at h
   ·rename_i hm
    obtain ⟨h0,h⟩:=h
    obtain ⟨x,h1,h2⟩:=mZ h
    exact ⟨_,none,h1,fun h=>absurd rfl h,by simp_all⟩
   ·exact h.elim
  ·exact h.elim
 case callv =>
  split at h
  ·obtain ⟨h0,h⟩:=h
   obtain ⟨x,h1,h2⟩:=mZ h
   exact ⟨_,none,h1,fun h=>absurd rfl h,by simp_all⟩
  ·obtain ⟨h0,h⟩:=h
   obtain ⟨x,h1,h2⟩:=mZ h
   exact ⟨_,none,h1,fun h=>absurd rfl h,by simp_all⟩
  ·exact h.elim
section
variable {P:Program} {F:z9} {e:Nat × Nat→Option AV} {σ:Nat→Option zb} {I:Nat→Nat→Prop} {w:World} {β:zR} {lam:ya} {a:Act} {o:Oper}
  {Q:Exit→Act→World→Prop}
def vd (β:zR) (D:List Nat):zR:=fun k=>if D.elem k=true then none else β k
def mJ (lam:ya) (u:Bool) (D:List Nat):ya:=fun l=>if (u&&D.elem l)=true then none else lam l
theorem tl {D:List Nat} {k b:Nat} (h:vd β D k=some b):β k=some b∧D.elem k=false:=by
 unfold vd at h
 split at h
 ·cases h
 ·rename_i hn; exact ⟨h,by simpa using hn⟩
theorem XZ {D:List Nat} {u:Bool} {l:Nat} {q:Option Addr × Nat × Nat × Nat} (h:mJ lam u D l=some q):lam l=some q∧(u&&D.elem l)=false:=by
 unfold mJ at h
 split at h
 ·cases h
 ·rename_i hn; exact ⟨h,by simpa using hn⟩
theorem fm {D:List Nat}:mJ lam false D=lam:=by funext l; simp[mJ]
theorem R.unmet {D:List Nat} {u:Bool} {I':Nat→Nat→Prop} (hI:∀ b o,I b o→I' b o) {x:AV} {v:Value} (h:R I w β lam x v) (hx:∀ k,D.elem k=true→zT k x=false)
  (ho:u=true→∀ sz l rows,x=.list sz (.own l) rows→D.elem l=false):R I' w (vd β D) (mJ lam u D) x v:=by
 have keep:∀ {k b:Nat},β k=some b→D.elem k=false→vd β D k=some b:=fun {k b} h1 h2=>by
  unfold vd; rw[if_neg (by rw[h2]; simp)]; exact h1
 have keepO:∀ {k:Nat} {q:Option Addr × Nat × Nat × Nat},lam k=some q→(u=true→D.elem k=false)→mJ lam u D k=some q:=fun {k q} h1 h2=>by
  unfold mJ
  rw[if_neg]
  ·exact h1
  ·intro h
   simp only[Bool.and_eq_true] at h
   have:=h2 h.1
   rw[h.2] at this; cases this
 have hD:∀ k,(D.elem k=true→(k == k)=false)→D.elem k=false:=fun k h=>by
  cases hk:D.elem k with
  | false=>rfl
  | true=>have:=h hk; simp at this
 have sub:∀ (cs:List AV) (hn:∀ sz l rows,AV.list sz (.own l) rows ∉ cs) (hx:∀ k,D.elem k=true→cs.any (vR k)=false) (i:Nat) (c:AV) (hi:cs[i]?=some c),
   (∀ k,D.elem k=true→zT k c=false)∧∀ sz l rows,c=.list sz (.own l) rows→D.elem l=false:=by
  intro cs hn hx i c hi
  have hm:c∈cs:=List.mem_iff_getElem?.2 ⟨i,hi⟩
  refine ⟨fun k hk=>?_,fun sz l rows e=>absurd (e▸hm) (hn sz l rows)⟩
  have:=List.any_eq_false.1 (hx k hk) c hm
  cases c<;>first | rfl | (simp[vR] at this; done) | (simp only[zT]; simp only[vR] at this; simpa using this)
 have subB:∀ (c:AV),(∀ k,D.elem k=true→¬ ZK k c=true)→(∀ k,D.elem k=true→zT k c=false)∧∀ sz l rows,c=.list sz (.own l) rows→D.elem l=false:=by
  intro c hx
  have hx':∀ k,D.elem k=true→vR k c=false∧Ss k c=false:=fun k hk=>by
   have:=hx k hk
   simpa [ZK] using this
  refine ⟨fun k hk=>?_,fun sz l rows e=>?_⟩
  ·have:=(hx' k hk).1
   cases c<;>first | rfl | (simp[vR] at this; done) | (simp only[zT]; simp only[vR] at this; simpa using this)
  ·cases hc:D.elem l with
   | false=>rfl
   | true=>have:=(hx' l hc).2; subst e; simp[Ss] at this
 induction h with
 | base h=>exact .base (h.mono hI (fun _ _ _ _ h=>h))
 | ptr k off b h=>exact .ptr k off b (keep h (hD k fun hk=>by simpa [zT] using hx k hk))
 | eptr k sz i off b h=>exact .eptr k sz i off b (keep h (hD k fun hk=>by simpa [zT] using hx k hk))
 | sl k sz off len cap b av h hc ha=>exact .sl k sz off len cap b av (keep h (hD k fun hk=>by simpa [zT] using hx k hk)) hc ha
 | own sz l rows a cap h hl=>exact .own sz l rows a cap (h.mono hI (fun _ _ _ _ h=>h)) (keepO hl fun hu=>ho hu _ _ _ rfl)
 | us l sz off len cap cp a av h hc hoff ha=>exact .us l sz off len cap cp a av (keepO h fun _=>hD l fun hk=>by simpa [zT] using hx l hk) hc hoff ha
 | up l sz i off cap b o h=>exact .up l sz i off cap b o (keepO h fun _=>hD l fun hk=>by simpa [zT] using hx l hk)
 | fn f caps vs hs hn hc ih =>
  refine .fn f caps vs hs hn fun i c hi=>?_
  obtain ⟨h1,h2⟩:=sub caps hn hx i c hi
  exact ih i c hi h1 (fun _=>h2)
 | tuple cells vs hs hn hc ih =>
  refine .tuple cells vs hs hn fun i c hi=>?_
  obtain ⟨h1,h2⟩:=sub cells hn hx i c hi
  exact ih i c hi h1 (fun _=>h2)
 | mp k b h=>exact .mp k b (keep h (hD k fun hk=>by simpa [zT] using hx k hk))
 | litNil sz a=>exact .litNil sz a
 | lit sz rows b o g hrow hcell hc ih =>
  refine .lit sz rows b o g hrow (fun i r j c h1 h2=>⟨hI _ _ (hcell i r j c h1 h2).1,(hcell i r j c h1 h2).2⟩) fun i r j c hi hj=>?_
  obtain ⟨h1,h2⟩:=subB c fun k hk=>by
   have h1:=List.any_eq_false.1 (hx k hk) r (List.mem_iff_getElem?.2 ⟨i,hi⟩)
   exact List.any_eq_false.1 (by simpa only[Bool.not_eq_true] using h1) c (List.mem_iff_getElem?.2 ⟨j,hj⟩)
  exact ih i r j c hi hj h1 (fun _=>h2)
 | raw cells vs hs h1 hc ih =>
  refine .raw cells vs hs h1 fun i c hi=>?_
  obtain ⟨h1,h2⟩:=subB c fun k hk=>List.any_eq_false.1 (hx k hk) c (List.mem_iff_getElem?.2 ⟨i,hi⟩)
  exact ih i c hi h1 (fun _=>h2)
theorem Inv.forget (h:Inv F e σ I β lam a w) {e':Nat × Nat→Option AV} {σ':Nat→Option zb} {I':Nat→Nat→Prop} {β':zR} {lam':ya} (X:Nat→Nat→Prop)
  (hI':I'=fun b o=>I b o∨X b o)
  (hβ:∀ k b,β' k=some b→β k=some b)
  (hl:∀ l q,lam' l=some q→lam l=some q)
  (hX:∀ b o,X b o→F.w0.heap.size≤b∧b<w.heap.size∧(∀ k,β' k≠some b)∧∀ l o' len cap sz c,lam' l=some (some ⟨b,o',none⟩,len,cap,sz)→o=o'+c→len*sz≤c→c<cap*sz→False)
  (he:∀ t x,e' t=some x→∃ v,F.val a t=some v∧R I' w β' lam' x v)
  (hs:∀ k en,σ' k=some en→en.isU=false→∃ b,β' k=some b∧RE I' w β' lam' b en)
  (hu:∀ l sz rows,σ' l=some (.uarr sz rows)→RU I' w β' lam' l sz rows)
  (hd:∀ k b,β' k=some b→∃ en,σ' k=some en∧en.isU=false):Inv F e' σ' I' β' lam' a w:=by
 subst hI'
 exact
  {defers:=h.defers
   size:=h.size
   below:=h.below
   env:=he
   sto:=hs
   usto:=hu
   bdom:=hd
   binj:=fun k k' b h1 h2=>h.binj k k' b (hβ _ _ h1) (hβ _ _ h2)
   bnew:=fun k b hk=>by
    obtain ⟨g1,g2,g3⟩:=h.bnew k b (hβ _ _ hk)
    refine ⟨g1,g2,fun o hi=>?_⟩
    rcases hi with hi | hi
    ·exact g3 o hi
    ·exact (hX b o hi).2.2.1 k hk
   Isub:=fun b o hi=>by
    rcases hi with hi | hi
    ·exact h.Isub b o hi
    ·exact (hX b o hi).2.1
   I0sub:=fun b o hi=>.inl (h.I0sub b o hi)
   Inew:=fun b o hi=>by
    rcases hi with hi | hi
    ·exact h.Inew b o hi
    ·exact .inr (hX b o hi).1
   spare:=fun l av len cap sz hl' c h1 h2=>by
    obtain ⟨b,o,e1,e2,e3,e4,e5,e6⟩:=h.spare l av len cap sz (hl _ _ hl') c h1 h2
    refine ⟨b,o,e1,e2,e3,e4,?_,fun k hk=>e6 k (hβ _ _ hk)⟩
    rintro (hi | hi)
    ·exact e5 hi
    ·subst e1
     exact (hX b _ hi).2.2.2 l o len cap sz c hl' rfl h1 h2
   ldis:=fun l l' b o o' len len' cap cap' sz sz' hne h1 h2=>h.ldis l l' b o o' len len' cap cap' sz sz' hne (hl _ _ h1) (hl _ _ h2)}
theorem fI {s:St} {D:List Nat} (h:Holds F s a w):Holds F (s.drop D) a w:=by
 obtain ⟨I,β,lam,h⟩:=h
 refine ⟨I,β,lam,h.env_sub fun t x ht=>?_⟩
 obtain ⟨f,t⟩:=t
 cases f with
 | zero =>
  simp only[St.drop,St.look] at ht ⊢
  rw[tv] at ht
  split at ht
  ·cases ht
  ·exact ht
 | succ f=>exact ht
theorem EL {s:St} {t:Nat × Nat} {x:AV} (h:s.look t=some x):(∃ n,(n,x)∈s.env)∨∃ f∈s.out,∃ n,(n,x)∈f:=by
 obtain ⟨f,t⟩:=t
 cases f with
 | zero=>exact .inl ⟨t,YP h⟩
 | succ f =>
  simp only[St.look,Option.bind_eq_some_iff] at h
  obtain ⟨g,hg,ht⟩:=h
  exact .inr ⟨g,List.mem_iff_getElem?.2 ⟨f,hg⟩,t,YP ht⟩
theorem XH {s:St} {k:Nat} (h:s.unmet k=true) {t:Nat × Nat} {x:AV} (hx:s.look t=some x):zT k x=false:=by
 simp only[St.unmet,Bool.and_eq_true] at h
 rcases EL hx with ⟨n,hm⟩ | ⟨f,hf,n,hm⟩
 ·exact Y2 h.1.1 _ hm
 ·exact Y2 (Py h.2 f hf) _ hm
theorem jK {s:St} {k:Nat} (h:s.unmet k=true) {j:Nat} {en:zb} (hx:lk s.sto j=some en):nK k en=false:=by
 simp only[St.unmet,Bool.and_eq_true] at h
 exact Pz h.1.2 _ (YP hx)
theorem RE.unmet {D:List Nat} {b:Nat} {en:zb} {I':Nat→Nat→Prop} (hI:∀ b o,I b o→I' b o) (h:RE I w β lam b en) (hx:∀ k,D.elem k=true→nK k en=false):RE I' w (vd β D) lam b en:=by
 cases en with
 | var cells =>
  intro j c hj
  obtain ⟨v,g1,g2,g3,g4⟩:=h j c hj
  have:=g4.unmet (u:=false) (D:=D) hI (fun k hk=>lJ (hx k hk) c (List.mem_iff_getElem?.2 ⟨j,hj⟩)) (by intro h; cases h)
  rw[fm] at this
  exact ⟨v,g1,g2,g3,this⟩
 | arr sz rows =>
  refine ⟨h.1,fun i r j c hi hj=>?_⟩
  obtain ⟨v,g1,g2,g3,g4⟩:=h.2 i r j c hi hj
  exact ⟨v,g1,g2,g3,g4.mono hI (fun _ _ _ _ h=>h)⟩
 | map es clock=>exact h
 | uarr sz rows=>exact h
theorem RU.unmet {D:List Nat} {l sz:Nat} {rows:List (List AV)} {I':Nat→Nat→Prop} (hI:∀ b o,I b o→I' b o) (h:RU I w β lam l sz rows) (hx:∀ k,D.elem k=true→yN k rows=false):RU I' w (vd β D) lam l sz rows:=by
 obtain ⟨a,cap,h1,h2,h3,h4⟩:=h
 refine ⟨a,cap,h1,h2,h3,fun hn=>?_⟩
 obtain ⟨b,o,e,h5⟩:=h4 hn
 refine ⟨b,o,e,fun i r j c hi hj=>?_⟩
 obtain ⟨v,g1,g2,g3⟩:=h5 i r j c hi hj
 have:=g3.unmet (u:=false) (D:=D) hI (fun k hk=>lJ (eR (hx k hk) r (List.mem_iff_getElem?.2 ⟨i,hi⟩)) c (List.mem_iff_getElem?.2 ⟨j,hj⟩)) (by intro h; cases h)
 rw[fm] at this
 exact ⟨v,g1,g2,this⟩
theorem aH {s:St} {D:List Nat} {K:St→Prop} (h:Holds F s a w) (hd:bs s D K):∃ s',K s'∧Holds F s' a w:=by
 obtain ⟨hu,hK⟩:=hd
 obtain ⟨I,β,lam,h⟩:=h
 obtain ⟨N,hN⟩:∃ N,s.nm D=N:=⟨_,rfl⟩
 rw[hN] at hu hK
 obtain ⟨D',hD'⟩:∃ D',N.filter (fun k=>!uI (lk s.sto k))=D':=⟨_,rfl⟩
 have mem:∀ k,D'.elem k=true↔N.elem k=true∧uI (lk s.sto k)=false:=fun k=>by
  subst hD'
  simp
 have un:∀ k,D'.elem k=true→St.unmet {s with sto:=del N s.sto} k=true:=fun k hk=>by
  obtain ⟨h1,h2⟩:=(mem k).1 hk
  exact P3 hu k (by simpa using h1) h2
 have inv:∀ {k:Nat} {en:zb},lk (del N s.sto) k=some en→lk s.sto k=some en∧N.elem k=false:=fun {k en} hk=>by
  rw[tv] at hk
  split at hk
  ·cases hk
  ·rename_i hn; exact ⟨hk,by simpa using hn⟩
 have hI:∀ b o,I b o→I b o∨∃ k,D'.elem k=true∧β k=some b:=fun b o hi=>.inl hi
 refine ⟨_,hK,_,vd β D',lam,h.forget (fun b _=>∃ k,D'.elem k=true∧β k=some b) rfl (fun k b hk=>(tl hk).1) (fun l q h=>h) ?_ (fun t x ht=>?_) (fun k en hk hU=>?_) (fun l sz rows hk=>?_) (fun k b hk=>?_)⟩
 ·rintro b o ⟨k,hk,hb⟩
  obtain ⟨g1,g2,g3⟩:=h.bnew k b hb
  refine ⟨g1,g2,fun k' hk'=>?_,fun l o' len cap sz c hl _ h1 h2=>?_⟩
  ·obtain ⟨q1,q2⟩:=tl hk'
   have:=h.binj k k' b hb q1
   subst this
   rw[q2] at hk; cases hk
  ·obtain ⟨b',o'',e1,_,_,_,_,e6⟩:=h.spare l _ len cap sz hl c h1 h2
   simp only[Option.some.injEq,Addr.mk.injEq] at e1
   obtain ⟨rfl,_⟩:=e1
   exact e6 k hb
 ·rw[xa] at ht
  obtain ⟨v,h1,h2⟩:=h.env t x ht
  have:=h2.unmet (u:=false) (D:=D') hI (fun k hk=>XH (un k hk) (t:=t) (by rw[xa]; exact ht)) (by intro h; cases h)
  rw[fm] at this
  exact ⟨v,h1,this⟩
 ·obtain ⟨h1,h2⟩:=inv hk
  obtain ⟨b,hb,hE⟩:=h.sto k en h1 hU
  refine ⟨b,?_,hE.unmet hI fun j hj=>jK (un j hj) hk⟩
  unfold vd
  rw[if_neg]
  ·exact hb
  ·intro hk'
   have:=((mem k).1 hk').1
   rw[h2] at this; cases this
 ·obtain ⟨h1,h2⟩:=inv hk
  exact (h.usto l sz rows h1).unmet hI fun j hj=>by simpa [nK] using jK (un j hj) hk
 ·obtain ⟨h1,h2⟩:=tl hk
  obtain ⟨en,hen,hU⟩:=h.bdom k b h1
  refine ⟨en,?_,hU⟩
  have:N.elem k=false:=by
   cases hN:N.elem k with
   | false=>rfl
   | true =>
    have:=(mem k).2 ⟨hN,by rw[hen]; exact hU⟩
    rw[h2] at this; cases this
  simp only
  rw[tv,if_neg (by rw[this]; simp)]
  exact hen
structure Kg (I I':Nat→Nat→Prop) (w:World) (β:zR) (lam:ya) (k:Nat) (en:zb):Prop where
 sub:∀ b o,I b o→I' b o
 var:en.isU=false→∃ b,β k=some b∧RE I w β lam b en∧∀ o,I' b o
 arr:∀ sz rows,en=.uarr sz rows→RU I w β lam k sz rows∧∀ b o cap q,lam k=some (some ⟨b,o,none⟩,0,cap,sz)→q<cap*sz→I' b (o+q)
theorem MU {k:Nat} {en:zb} {I':Nat→Nat→Prop} (hF:Kg I I' w β lam k en) {x:AV} {v:Value} (h:R I w β lam x v) (hu:zT k (frz k en x)=false) :
  R I' w (vd β [k]) (mJ lam en.isU [k]) (frz k en x) v:=by
 have plain:(∀ sz l rows,x=.list sz (.own l) rows→en.isU=true→l≠k)→frz k en x=x→R I' w (vd β [k]) (mJ lam en.isU [k]) (frz k en x) v:=by
  intro ho e
  rw[e] at hu ⊢
  refine h.unmet hF.sub (fun j hj=>?_) (fun hU sz l rows hx=>?_)
  ·have:j=k:=by simpa using hj
   subst this; exact hu
  ·have:=ho sz l rows hx hU
   simpa using this
 cases x with
 | sl j sz off len =>
  by_cases hjk:j=k
  ·subst hjk
   simp only[frz,if_true] at hu ⊢
   split
   ·rename_i sz' rows
    split
    ·rename_i hc
     obtain ⟨rfl,hle⟩:=hc
     obtain ⟨b,hb,hE,hk⟩:=hF.var rfl
     obtain ⟨b',cap,av,hb',rfl,hcap,hav⟩:=h.sl_inv
     rw[hb] at hb'; cases hb'
     have hlen:((rows.drop off).take len).length=len:=by simp; omega
     by_cases hz:len=0
     ·have hnil:(rows.drop off).take len=[]:=List.eq_nil_of_length_eq_zero (by omega)
      rw[hnil,hz]
      exact .base (.listNil _ _ _ _ (by simp) (by simp))
     ·rw[hav hz]
      have hget:∀ (i:Nat) (r:List AV),((rows.drop off).take len)[i]?=some r→rows[off+i]?=some r:=by
       intro i r hi
       rw[List.getElem?_take] at hi
       split at hi
       ·rw[List.getElem?_drop] at hi; exact hi
       ·cases hi
      have:=R0.mk_list (I:=I') (w:=w) (sz:=sz') (m:=.plain) (rows:=(rows.drop off).take len) (b:=b) (q:=off*sz') (cap:=cap) (by omega) (by simp) (by simp)
       (fun i r hi=>hE.1 _ _ (hget i r hi)) (fun i r j' c hi hj=>by
        obtain ⟨u,h1,_,h3,h4⟩:=hE.2 _ _ _ _ (hget i r hi) hj
        rw[Nat.add_mul] at h1
        exact ⟨u,hk _,h1,h3,h4.mono hF.sub (fun _ _ _ _ h=>h)⟩)
      rw[hlen] at this
      exact .base this
    ·exact yv _
   ·exact yv _
  ·exact plain (by simp) (by simp[frz,hjk])
 | ptr j off =>
  by_cases hjk:j=k
  ·subst hjk
   simp only[frz,if_true] at hu ⊢
   split
   ·rename_i cells
    split
    ·rename_i hall
     obtain ⟨b,hb,hE,hk⟩:=hF.var rfl
     obtain ⟨b',hb',rfl⟩:=h.ptr_inv
     rw[hb] at hb'; cases hb'
     refine .base (Xd fun j' c hj=>?_)
     simp only[List.getElem?_map,Option.map_eq_some_iff] at hj
     obtain ⟨c',hj,rfl⟩:=hj
     have hr:rf c'=true:=List.all_eq_true.1 hall _ (List.mem_iff_getElem?.2 ⟨j',hj⟩)
     rw[List.getElem?_drop] at hj
     obtain ⟨u,h1,_,h3,h4⟩:=hE _ _ hj
     exact ⟨u,hk _,h1,h3,(h4.to0 hr).mono hF.sub (fun _ _ _ _ h=>h)⟩
    ·exact yv _
   ·exact yv _
  ·exact plain (by simp) (by simp[frz,hjk])
 | eptr j sz i off =>
  by_cases hjk:j=k
  ·subst hjk
   simp only[frz,if_true] at hu ⊢
   exact yv _
  ·exact plain (by simp) (by simp[frz,hjk])
 | up j sz i off =>
  by_cases hjk:j=k
  ·subst hjk
   simp only[frz,if_true] at hu ⊢
   exact yv _
  ·exact plain (by simp) (by simp[frz,hjk])
 | us j sz off len =>
  by_cases hjk:j=k
  ·subst hjk
   simp only[frz,if_true] at hu ⊢
   split
   ·rename_i sz' rows
    split
    ·rename_i hc
     obtain ⟨rfl,hle,hrf⟩:=hc
     obtain ⟨hU,hk⟩:=hF.arr _ _ rfl
     obtain ⟨cap,cp,a,av,hl,rfl,hcp,hoff,hav⟩:=h.us_inv
     have hlen:(zQ ((rows.drop off).take len)).length=len:=by simp[zQ]; omega
     by_cases hz:len=0
     ·have hnil:zQ ((rows.drop off).take len)=[]:=List.eq_nil_of_length_eq_zero (by omega)
      rw[hnil,hz]
      exact .base (.listNil _ _ _ _ (by simp) (by simp))
     ·obtain ⟨b,o,rfl,rfl⟩:=hav (by omega)
      have hget:∀ (i:Nat) (r:List AV),(zQ ((rows.drop off).take len))[i]?=some r→∃ r0,rows[off+i]?=some r0∧r=r0.map strip∧i<len∧r0.all rf=true:=by
       intro i r hi
       simp only[zQ,List.getElem?_map,Option.map_eq_some_iff] at hi
       obtain ⟨r0,hi,rfl⟩:=hi
       have hm:=List.all_eq_true.1 hrf r0 (List.mem_iff_getElem?.2 ⟨i,hi⟩)
       rw[List.getElem?_take] at hi
       split at hi
       ·rw[List.getElem?_drop] at hi; exact ⟨r0,hi,rfl,by assumption,hm⟩
       ·cases hi
      have:=R0.mk_list (I:=I') (w:=w) (sz:=sz') (m:=.plain) (rows:=zQ ((rows.drop off).take len)) (b:=b) (q:=o+off*sz') (cap:=cp) (by omega) (by simp) (by simp)
       (fun i r hi=>by
        obtain ⟨r0,g1,rfl,_⟩:=hget i r hi
        rw[List.length_map]
        exact (hU.row hl g1).1) (fun i r j' c hi hj=>by
        obtain ⟨r0,g1,rfl,hil,hall⟩:=hget i r hi
        simp only[List.getElem?_map,Option.map_eq_some_iff] at hj
        obtain ⟨c',hj,rfl⟩:=hj
        obtain ⟨g2,g3⟩:=hU.row hl g1
        obtain ⟨u,h1,h3,h4⟩:=g3 j' c' hj
        have hjl:j'<sz':=by have:=(List.getElem?_eq_some_iff.1 hj).1; omega
        have hm:(off+i+1)*sz'≤cap*sz':=Nat.mul_le_mul_right _ (by omega)
        have e:o+off*sz'+i*sz'+j'=o+((off+i)*sz'+j'):=by rw[Nat.add_mul]; omega
        rw[Nat.add_mul _ 1] at hm
        refine ⟨u,?_,?_,h3,(h4.to0 (List.all_eq_true.1 hall _ (List.mem_iff_getElem?.2 ⟨j',hj⟩))).mono hF.sub (fun _ _ _ _ h=>h)⟩
        ·rw[e]; exact hk b o cap _ hl (by omega)
        ·rw[e,← Nat.add_assoc]; exact h1)
      rw[hlen] at this
      exact .base this
    ·exact yv _
   ·exact yv _
  ·exact plain (by simp) (by simp[frz,hjk])
 | list sz m rows =>
  cases m with
  | own l =>
   by_cases hc:l=k∧en.isU=true
   ·simp only[frz,if_pos hc]
    exact .base ((h.to0 rfl).mono hF.sub (fun _ _ _ _ h=>h))
   ·refine plain (fun sz' l' rows' e hU hk=>?_) (by simp only[frz,if_neg hc])
    simp only[AV.list.injEq,Mode.own.injEq] at e
    exact hc ⟨by rw[e.2.1]; exact hk,hU⟩
  | _=>exact plain (by simp) rfl
 | mp j =>
  by_cases hjk:j=k
  ·subst hjk
   simp only[frz,if_true] at hu ⊢
   exact yv _
  ·exact plain (by simp) (by simp[frz,hjk])
 | lit sz rows=>exact yv _
 | raw cells=>exact yv _
 | _=>exact plain (by simp) rfl
theorem UW {k:Nat} {l:List AV} (h:wM k l=false) {j:Nat} {c:AV} (hj:l[j]?=some c):zT k c=false:=lJ h c (List.mem_iff_getElem?.2 ⟨j,hj⟩)
theorem Rq {k:Nat} {en en':zb}:(uf k en en').isU=en'.isU:=by cases en'<;>rfl
theorem Tj {k j:Nat} {en:zb} {l:List (Nat × zb)} {en':zb} (h:lk ((del [k] l).map fun p=>(p.1,uf k en p.2)) j=some en'):∃ en0,lk l j=some en0∧j≠k∧en'=uf k en en0:=by
 rw[sK,tv] at h
 split at h
 ·cases h
 ·rename_i hn
  simp only[Option.map_eq_some_iff] at h
  obtain ⟨en0,h1,rfl⟩:=h
  exact ⟨en0,h1,by simpa using hn,rfl⟩
theorem dW {s:St} {k:Nat} {K:St→Prop} (h:Holds F s a w) (hf:xf k s K):∃ s',K s'∧Holds F s' a w:=by
 unfold xf at hf
 split at hf
 ·rename_i en hen
  obtain ⟨hu,hK⟩:=hf
  obtain ⟨I,β,lam,h⟩:=h
  have look:∀ t,(St.look {s with env:=s.env.map fun p=>(p.1,frz k en p.2),sto:=(del [k] s.sto).map fun p=>(p.1,uf k en p.2),out:=s.out.map fun f=>f.map fun p=>(p.1,frz k en p.2)}) t=(s.look t).map (frz k en):=by
   intro t
   obtain ⟨f,t⟩:=t
   cases f with
   | zero=>exact sK _ _ _
   | succ f =>
    simp only[St.look,List.getElem?_map]
    cases s.out[f]? with
    | none=>rfl
    | some q=>exact sK _ _ _
  have main:∀ (X:Nat→Nat→Prop),(∀ b o,X b o→F.w0.heap.size≤b∧b<w.heap.size∧(∀ k',vd β [k] k'≠some b) ∧
     ∀ l o' len cap sz c,mJ lam en.isU [k] l=some (some ⟨b,o',none⟩,len,cap,sz)→o=o'+c→len*sz≤c→c<cap*sz→False) →
    Kg I (fun b o=>I b o∨X b o) w β lam k en→∃ s',K s'∧Holds F s' a w:=by
   intro X hX hF
   refine ⟨_,hK,_,vd β [k],mJ lam en.isU [k],h.forget X rfl (fun k b hk=>(tl hk).1) (fun l q hq=>(XZ hq).1) hX (fun t x ht=>?_) (fun k' en' hk hU=>?_) (fun l sz rows hk=>?_) (fun k' b hk=>?_)⟩
   ·have hn:=XH hu ht
    rw[look] at ht
    simp only[Option.map_eq_some_iff] at ht
    obtain ⟨x',ht,rfl⟩:=ht
    obtain ⟨v,h1,h2⟩:=h.env t x' ht
    exact ⟨v,h1,MU hF h2 hn⟩
   ·have hn:=jK hu hk
    obtain ⟨en0,h1,h2,rfl⟩:=Tj hk
    rw[Rq] at hU
    obtain ⟨b,hb,hE⟩:=h.sto k' en0 h1 hU
    refine ⟨b,by unfold vd; rw[if_neg (by simpa using h2)]; exact hb,?_⟩
    cases en0 with
    | var cells =>
     intro j c hj
     have hc:=UW hn hj
     simp only[List.getElem?_map,Option.map_eq_some_iff] at hj
     obtain ⟨c',hj,rfl⟩:=hj
     obtain ⟨v,g1,g2,g3,g4⟩:=hE j c' hj
     exact ⟨v,g1,g2,g3,MU hF g4 hc⟩
    | arr sz rows =>
     refine ⟨hE.1,fun i r j c hi hj=>?_⟩
     obtain ⟨v,g1,g2,g3,g4⟩:=hE.2 i r j c hi hj
     exact ⟨v,g1,g2,g3,g4.mono hF.sub (fun _ _ _ _ h=>h)⟩
    | uarr sz rows=>cases hU
    | map es clock=>exact hE
   ·have hn:=jK hu hk
    obtain ⟨en0,h1,h2,e⟩:=Tj hk
    cases en0 with
    | var cells=>cases e
    | arr sz rows=>cases e
    | map es clock=>cases e
    | uarr sz0 rows0 =>
     cases e
     obtain ⟨av,cap,g1,g2,g3,g4⟩:=h.usto l _ _ h1
     refine ⟨av,cap,by unfold mJ; rw[if_neg (by simp[h2])]; exact g1,by simpa using g2,fun i r hi=>?_,fun hne=>?_⟩
     ·simp only[List.getElem?_map,Option.map_eq_some_iff] at hi
      obtain ⟨r0,hi,rfl⟩:=hi
      rw[List.length_map]; exact g3 i r0 hi
     ·obtain ⟨b,q,rfl,g5⟩:=g4 (by intro e; subst e; exact hne rfl)
      refine ⟨b,q,rfl,fun i r j c hi hj=>?_⟩
      have hc:=UW (eR hn r (List.mem_iff_getElem?.2 ⟨i,hi⟩)) hj
      simp only[List.getElem?_map,Option.map_eq_some_iff] at hi
      obtain ⟨r0,hi,rfl⟩:=hi
      simp only[List.getElem?_map,Option.map_eq_some_iff] at hj
      obtain ⟨c',hj,rfl⟩:=hj
      obtain ⟨v,q1,q2,q3⟩:=g5 i r0 j c' hi hj
      exact ⟨v,q1,q2,MU hF q3 hc⟩
   ·obtain ⟨h1,h2⟩:=tl hk
    obtain ⟨en',hen',hU⟩:=h.bdom k' b h1
    refine ⟨uf k en en',?_,by rw[Rq]; exact hU⟩
    simp only
    rw[sK,tv,if_neg (by rw[h2]; simp),hen']
    rfl
  cases hU:en.isU with
  | false =>
   obtain ⟨b,hb,hE⟩:=h.sto k en hen hU
   refine main (fun b' _=>b'=b) ?_ ⟨fun b o hi=>.inl hi,fun _=>⟨b,hb,hE,fun o=>.inr rfl⟩,fun sz rows e=>by subst e; cases hU⟩
   rintro b' o rfl
   obtain ⟨g1,g2,g3⟩:=h.bnew k b' hb
   refine ⟨g1,g2,fun k' hk'=>?_,fun l o' len cap sz c hl _ h1 h2=>?_⟩
   ·obtain ⟨q1,q2⟩:=tl hk'
    have:=h.binj k k' b' hb q1
    subst this
    simp at q2
   ·obtain ⟨b2,o'',e1,_,_,_,_,e6⟩:=h.spare l _ len cap sz (XZ hl).1 c h1 h2
    simp only[Option.some.injEq,Addr.mk.injEq] at e1
    obtain ⟨rfl,_⟩:=e1
    exact e6 k hb
  | true =>
   cases en with
   | var cells=>cases hU
   | arr sz rows=>cases hU
   | map es clock=>cases hU
   | uarr sz rows =>
    have hR:=h.usto k _ _ hen
    refine main (fun b q=>∃ o cap,lam k=some (some ⟨b,o,none⟩,0,cap,sz)∧o≤q∧q<o+cap*sz) ?_
     ⟨fun b o hi=>.inl hi,fun hf=>(by cases hf),fun sz' rows' e=>by cases e; exact ⟨hR,fun b o cap q hl hq=>.inr ⟨o,cap,hl,by omega,by omega⟩⟩⟩
    rintro b q ⟨o,cap,hl,h1,h2⟩
    obtain ⟨g1,g2,g3,_⟩:=h.ublock hl (by omega)
    refine ⟨g1,g2,fun k' hk'=>g3 k' (tl hk').1,fun l o' len cap' sz' c hl' _ q1 q2=>?_⟩
    obtain ⟨q3,q4⟩:=XZ hl'
    have hne:k≠l:=by
     intro e; subst e
     simp[zb.isU] at q4
    exact h.ldis k l b o o' 0 len cap cap' sz sz' hne hl q3 (by omega) (by omega)
 ·exact hf.elim
theorem Inv.opd {s:St} (h:Inv F s.look σ I β lam a w) (x:Operand):R I w β lam (ev s (zm x)) (a.eval x):=by
 cases x with
 | tmp t =>
  simp only[zm,ev]
  cases ht:lk s.env t with
  | none=>exact yv _
  | some y =>
   obtain ⟨v,h1,h2⟩:=h.env (0,t) y ht
   have:a.eval (.tmp t)=v:=by
    simp only[z9.val] at h1
    simp[Act.eval,h1]
   rw[this]
   exact h2
 | const v=>exact Z7 v
 | global g=>exact uh _
 | func f =>
  simp only[zm,ev,Act.eval]
  exact .base (.fn _ _ _ rfl (by simp))
theorem Inv.nodom (h:Inv F e σ I β lam a w) {d:Nat} (hd:σ d=none):β d=none:=by
 cases hb:β d with
 | none=>rfl
 | some b=>obtain ⟨en,h',_⟩:=h.bdom d b hb; rw[hd] at h'; cases h'
theorem Inv.hlm (h:Inv F e σ I β lam a w):∀ l b p cap sz,lam l=some (some ⟨b,p,none⟩,0,cap,sz)→0<cap*sz→b<w.heap.size :=
 fun _ _ _ _ _ hl h0=>(h.ublock hl h0).2.1
theorem nA {s:St} {d:Option Nat} {x:AV} {en:Option zb} :
  ((s.put d x).new d en).look=yd s.look (slot d) (some x)∧lk ((s.put d x).new d en).sto=tQ (lk s.sto) (d.map fun _=>s.base+d.getD 0) en:=by
 cases d with
 | none=>cases en<;>exact ⟨rfl,rfl⟩
 | some d =>
  have hl:=vN (s:=s) (d:=some d) (x:=x)
  cases en with
  | none=>exact ⟨hl,rfl⟩
  | some en=>exact ⟨by rw[← hl]; exact xa,by simp only[St.new,St.put,Option.map_some,Option.getD_some]; rw[wI]; funext j; simp[yd,tQ]⟩
theorem wK {N:Nat} {ops:Array Oper} {ao:zi} (h:v9 P N ops o=some ao) :
  kY P o.type o.op=some (ao.op,ao.xs)∧rF ops o.guard=some ao.guard∧ao.dst=o.dst∧te N o.dst=true:=by
 unfold v9 at h
 split at h
 ·rename_i op xs g h1 h2
  split at h
  ·rename_i h3
   simp only[Option.some.injEq] at h
   subst h
   exact ⟨h1,h2,rfl,h3⟩
  ·cases h
 ·cases h
theorem pV {c:Call} {ty:TypeId} {op:AOp} {xs:List Opd} (h:rS P c ty=some (op,xs)) :
  isE op=true∨(∃ t u e' sz by_ z,op=.append sz by_∧xs=c.args.toList.map zm∧c.callee=.builtin .append∧c.argTypes=#[t,u]∧elT P t=some e'∧szT P e'=some sz∧byT P e'=some by_ ∧
   wL P e'=some z∧z.length=sz∧(uH P u=true∨(elT P u).isSome=true)∧0<sz) ∨
  ∃ t u e' sz,op=.copy sz∧xs=c.args.toList.map zm∧c.callee=.builtin .copy∧c.argTypes=#[t,u]∧elT P t=some e'∧szT P e'=some sz∧(uH P u=true∨(elT P u).isSome=true):=by
 have two:∀ {t u:TypeId},c.argTypes.size=2→c.argTypes[0]?=some t→c.argTypes[1]?=some u→c.argTypes=#[t,u]:=by
  intro t u g1 h0 h1
  apply Array.ext
  ·simpa using g1
  ·intro i hi1 hi2
   have:i=0∨i=1:=by simp at hi2; omega
   rcases this with rfl | rfl
   ·rw[Array.getElem?_eq_getElem hi1] at h0; simpa using h0
   ·rw[Array.getElem?_eq_getElem hi1] at h1; simpa using h1
 unfold rS at h
 split at h
 ·split at h
  ·simp only[Option.some.injEq,Prod.mk.injEq] at h; obtain ⟨rfl,_⟩:=h; exact .inl rfl
  ·cases h
 ·simp only[Option.some.injEq,Prod.mk.injEq] at h; obtain ⟨rfl,_⟩:=h; exact .inl rfl
 ·simp only[Option.some.injEq,Prod.mk.injEq] at h; obtain ⟨rfl,_⟩:=h; exact .inl rfl
 ·split at h
  ·split at h
   ·simp only[Option.some.injEq,Prod.mk.injEq] at h; obtain ⟨rfl,_⟩:=h; exact .inl rfl
   ·simp only[Option.some.injEq,Prod.mk.injEq] at h; obtain ⟨rfl,_⟩:=h; exact .inl rfl
   ·cases h
  ·cases h
 ·simp only[Option.some.injEq,Prod.mk.injEq] at h; obtain ⟨rfl,_⟩:=h; exact .inl rfl
 ·simp only[Option.some.injEq,Prod.mk.injEq] at h; obtain ⟨rfl,_⟩:=h; exact .inl rfl
 ·rename_i hc
  split at h
  ·rename_i t u h0 h1
   split at h
   ·rename_i e' he
    split at h
    ·rename_i n by_ z hn hby hz
     split at h
     ·rename_i hcond
      obtain ⟨g1,⟨g2,g4⟩,g3⟩:=hcond
      simp only[Option.some.injEq,Prod.mk.injEq] at h
      obtain ⟨rfl,rfl⟩:=h
      exact .inr (.inl ⟨t,u,e',n,by_,z,rfl,rfl,hc,two g1 h0 h1,he,hn,hby,hz,g2,g3,g4⟩)
     ·cases h
    ·cases h
   ·cases h
  ·cases h
 ·exact .inr (.inr (pW h))
theorem lh {ty:TypeId} {rop:Op} {op:AOp} {xs:List Opd} (h:kY P ty rop=some (op,xs)) :
  isE op=true∨(∃ t x y n,rop=.store t x y∧op=.store n∧szT P t=some n∧xs=[zm x,zm y])∨(∃ c,rop=.call c∧rS P c ty=some (op,xs))∨(∃ bop t x y t' neg,rop=.binOp bop t x y t'∧RY P bop t y=some neg∧op=.nilS neg∧xs=[zm x]) ∨
  (∃ t m y x,(rop=.mapUpdate t m y x∨rop=.insert t m y x)∧op=.mapset t∧xs=[zm m,zm y,zm x]) ∨
  (∃ s t x,rop=.convert s t x∧So P s t=true∧op=.append 0 0∧xs=[zm x]):=by
 cases rop<;>simp only[kY,reduceCtorEq,Option.some.injEq,Prod.mk.injEq,Option.map_eq_some_iff] at h
 case store t x y =>
  obtain ⟨n,hn,rfl,rfl⟩:=h
  exact .inr (.inl ⟨t,x,y,n,rfl,rfl,hn,rfl⟩)
 case call c=>exact .inr (.inr (.inl ⟨c,rfl,h⟩))
 case binOp bop t x y t' =>
  split at h
  ·rename_i neg hq
   simp only[Option.some.injEq,Prod.mk.injEq] at h
   obtain ⟨rfl,rfl⟩:=h
   exact .inr (.inr (.inr (.inl ⟨bop,t,x,y,t',neg,rfl,hq,rfl,rfl⟩)))
  ·simp only[Option.some.injEq,Prod.mk.injEq] at h
   obtain ⟨rfl,_⟩:=h
   exact .inl rfl
 case makeFunc fn first caps =>
  cases fn<;>simp only[reduceCtorEq] at h
  split at h
  ·simp only[Option.some.injEq,Prod.mk.injEq] at h; obtain ⟨rfl,_⟩:=h; exact .inl rfl
  ·split at h
   ·simp only[Option.some.injEq,Prod.mk.injEq] at h; obtain ⟨rfl,_⟩:=h; exact .inl rfl
   ·cases h
 case mapUpdate t m y x=>obtain ⟨rfl,rfl⟩:=h; exact .inr (.inr (.inr (.inr (.inl ⟨t,m,y,x,.inl rfl,rfl,rfl⟩))))
 case insert t m y x=>obtain ⟨rfl,rfl⟩:=h; exact .inr (.inr (.inr (.inr (.inl ⟨t,m,y,x,.inr rfl,rfl,rfl⟩))))
 case convert s t x =>
  obtain ⟨h,rfl⟩:=h
  split at h
  ·rename_i hs; exact .inr (.inr (.inr (.inr (.inr ⟨s,t,x,rfl,hs,h.symm,rfl⟩))))
  ·subst h; exact .inl rfl
 case makeMap t r =>
  cases r with
  | some r=>simp at h
  | none=>simp only[Option.some.injEq,Prod.mk.injEq] at h; obtain ⟨rfl,_⟩:=h; exact .inl rfl
 case buildSlice t n parts =>
  split at h
  ·split at h
   ·split at h
    ·simp only[Option.some.injEq,Prod.mk.injEq] at h
     obtain ⟨rfl,_⟩:=h
     left; split<;>rfl
    ·cases h
   ·cases h
  ·cases h
 all_goals left
 all_goals first
  | (obtain ⟨rfl,_⟩:=h; rfl)
  | (obtain ⟨_,_,rfl,_⟩:=h; rfl)
  | (split at h<;>first
    | (simp only[Option.some.injEq,Prod.mk.injEq] at h; obtain ⟨rfl,_⟩:=h; rfl)
    | (simp only[Option.map_eq_some_iff,Prod.mk.injEq] at h; obtain ⟨_,_,rfl,_⟩:=h; rfl)
    | (cases h; done)
    | (split at h<;>first
      | (simp only[Option.some.injEq,Prod.mk.injEq] at h; obtain ⟨rfl,_⟩:=h; rfl)
      | (simp only[Option.map_eq_some_iff,Prod.mk.injEq] at h; obtain ⟨_,_,rfl,_⟩:=h; rfl)
      | (cases h; done)
      | (split at h<;>first
        | (simp only[Option.some.injEq,Prod.mk.injEq] at h; obtain ⟨rfl,_⟩:=h; rfl)
        | (cases h; done)
        | (split at h<;>first
          | (simp only[Option.some.injEq,Prod.mk.injEq] at h; obtain ⟨rfl,_⟩:=h; rfl)
          | (cases h; done)))))
theorem SL {draw:Bool} {op op':AOp} (h:lL draw op=op'):op=op'∨(∃ sz b,op=.appendU sz b∧op'=.append sz b)∨(∃ sz n z ps,op=.mksliceU sz n z ps∧op'=.mkslice sz n z ps) ∨
  (∃ f,op=.callI f∧op'=.call f)∨(op=.callvI∧op'=.callv):=by
 subst h
 cases op<;>first
  | exact .inl rfl
  | exact .inr (.inl ⟨_,_,rfl,rfl⟩)
  | (cases draw<;>first
    | exact .inl rfl
    | exact .inr (.inr (.inl ⟨_,_,_,_,rfl,rfl⟩))
    | exact .inr (.inr (.inr (.inl ⟨_,rfl,rfl⟩)))
    | exact .inr (.inr (.inr (.inr ⟨rfl,rfl⟩))))
theorem P1 {c:Call} {ty:TypeId} {f:FuncId} {xs:List Opd} (h:rS P c ty=some (.call f,xs)):c.callee=.value (.func f)∧xs=c.args.toList.map zm:=by
 unfold rS at h
 split at h
 ·rename_i g hc
  split at h
  ·simp only[Option.some.injEq,Prod.mk.injEq,AOp.call.injEq] at h
   obtain ⟨rfl,rfl⟩:=h
   exact ⟨hc,rfl⟩
  ·cases h
 ·simp at h
 ·simp at h
 ·split at h
  ·split at h<;>simp at h
  ·cases h
 ·simp at h
 ·simp at h
 ·split at h
  ·split at h
   ·split at h
    ·split at h<;>simp at h
    ·cases h
   ·cases h
  ·cases h
 ·obtain ⟨_,_,_,_,h,_⟩:=pW h; cases h
theorem Q1 {c:Call} {ty:TypeId} {xs:List Opd} (h:rS P c ty=some (.callv,xs)):∃ t,c.callee=.value (.tmp t)∧xs=.t t::c.args.toList.map zm:=by
 unfold rS at h
 split at h
 ·split at h<;>simp at h
 ·rename_i t hc
  simp only[Option.some.injEq,Prod.mk.injEq,true_and] at h
  exact ⟨t,hc,h.symm⟩
 ·simp at h
 ·split at h
  ·split at h<;>simp at h
  ·cases h
 ·simp at h
 ·simp at h
 ·split at h
  ·split at h
   ·split at h
    ·split at h<;>simp at h
    ·cases h
   ·cases h
  ·cases h
 ·obtain ⟨_,_,_,_,h,_⟩:=pW h; cases h
theorem sY {ty:TypeId} {rop:Op} {op:AOp} {xs:List Opd} (h:kY P ty rop=some (op,xs)) :
  (∀ f,op=.call f→∃ c,rop=.call c∧c.callee=.value (.func f)∧xs=c.args.toList.map zm) ∧
  (op=.callv→∃ c t,rop=.call c∧c.callee=.value (.tmp t)∧xs=.t t::c.args.toList.map zm) ∧
  (∀ sz n z ps,op=.mkslice sz n z ps→∃ t parts e,rop=.buildSlice t n parts∧elT P t=some e∧szT P e=some sz∧wL P e=some z∧n*sz≤16777216∧ps=parts.toList.map (·.1)∧xs=parts.toList.map fun p=>zm p.2):=by
 cases rop<;>simp only[kY,reduceCtorEq,Option.some.injEq,Prod.mk.injEq,Option.map_eq_some_iff] at h
 case call c =>
  refine ⟨fun f hf=>?_,fun hf=>?_,fun sz n z ps hf=>?_⟩
  ·subst hf
   obtain ⟨h1,h2⟩:=P1 h
   exact ⟨c,rfl,h1,h2⟩
  ·subst hf
   obtain ⟨t,h1,h2⟩:=Q1 h
   exact ⟨c,t,rfl,h1,h2⟩
  ·subst hf
   exfalso
   unfold rS at h
   split at h
   ·split at h<;>simp at h
   ·simp at h
   ·simp at h
   ·split at h
    ·split at h<;>simp at h
    ·cases h
   ·simp at h
   ·simp at h
   ·split at h
    ·split at h
     ·split at h
      ·split at h<;>simp at h
      ·cases h
     ·cases h
    ·cases h
   ·obtain ⟨_,_,_,_,h,_⟩:=pW h; cases h
 case buildSlice t n parts =>
  split at h
  ·rename_i e he
   split at h
   ·rename_i sz z hsz hz
    split at h
    ·rename_i hlim
     simp only[Option.some.injEq,Prod.mk.injEq] at h
     obtain ⟨hopp,rfl⟩:=h
     split at hopp
     ·subst hopp
      exact ⟨fun f hf=>(by cases hf),fun hf=>(by cases hf),fun sz' n' z' ps' hf=>(by cases hf)⟩
     ·subst hopp
      refine ⟨fun f hf=>(by cases hf),fun hf=>(by cases hf),fun sz' n' z' ps' hf=>?_⟩
      cases hf
      exact ⟨t,parts,e,rfl,he,hsz,hz,hlim,rfl,rfl⟩
    ·cases h
   ·cases h
  ·cases h
 case makeFunc fn first caps =>
  cases fn<;>simp only[reduceCtorEq] at h
  split at h
  ·simp only[Option.some.injEq,Prod.mk.injEq] at h; obtain ⟨rfl,_⟩:=h
   exact ⟨fun f hf=>(by cases hf),fun hf=>(by cases hf),fun sz n z ps hf=>(by cases hf)⟩
  ·split at h
   ·simp only[Option.some.injEq,Prod.mk.injEq] at h; obtain ⟨rfl,_⟩:=h
    exact ⟨fun f hf=>(by cases hf),fun hf=>(by cases hf),fun sz n z ps hf=>(by cases hf)⟩
   ·cases h
 case makeMap t r =>
  cases r with
  | some r=>simp at h
  | none =>
   simp only[Option.some.injEq,Prod.mk.injEq] at h; obtain ⟨rfl,_⟩:=h
   exact ⟨fun f hf=>(by cases hf),fun hf=>(by cases hf),fun sz n z ps hf=>(by cases hf)⟩
 all_goals
  have hop:(∀ f,op≠.call f)∧op≠.callv∧∀ sz n z ps,op≠.mkslice sz n z ps:=by
   first
    | (obtain ⟨rfl,_⟩:=h; simp; done)
    | (obtain ⟨rfl,_⟩:=h; split<;>simp; done)
    | (obtain ⟨_,_,rfl,_⟩:=h; simp; done)
    | (split at h<;>first
      | (simp only[Option.some.injEq,Prod.mk.injEq] at h; obtain ⟨rfl,_⟩:=h; simp; done)
      | (simp only[Option.map_eq_some_iff,Prod.mk.injEq] at h; obtain ⟨_,_,rfl,_⟩:=h; simp; done)
      | (cases h; done)
      | (split at h<;>first
        | (simp only[Option.some.injEq,Prod.mk.injEq] at h; obtain ⟨rfl,_⟩:=h; simp; done)
        | (simp only[Option.map_eq_some_iff,Prod.mk.injEq] at h; obtain ⟨_,_,rfl,_⟩:=h; simp; done)
        | (cases h; done)
        | (split at h<;>first
          | (simp only[Option.some.injEq,Prod.mk.injEq] at h; obtain ⟨rfl,_⟩:=h; simp; done)
          | (cases h; done)
          | (split at h<;>first
            | (simp only[Option.some.injEq,Prod.mk.injEq] at h; obtain ⟨rfl,_⟩:=h; simp; done)
            | (cases h; done)))))
  exact ⟨fun f hf=>absurd hf (hop.1 f),fun hf=>absurd hf hop.2.1,fun sz n z ps hf=>absurd hf (hop.2.2 sz n z ps)⟩
theorem Q4 {c:Call} {s:St} {X:List AV→Prop} (h:X ((c.args.toList.map zm).map (ev s))) (h2:∀ L,X L→∃ x y,L=[x,y]):∃ xs xx,c.args=#[xs,xx]:=by
 obtain ⟨X,Y,hXY⟩:=h2 _ h
 obtain ⟨l,hl⟩:∃ l,c.args.toList=l:=⟨_,rfl⟩
 rw[hl] at hXY
 match l,hXY with
 | [x,y],_=>exact ⟨x,y,Array.ext' (by simpa using hl)⟩
theorem JV {draw:Bool} {s:St} {ao:zi} {ops:Array Oper} {K:St→Prop} {Kr:Act→World→Prop} (htr:v9 P F.N ops o=some (yl draw ao)) (hH:Holds F s a w) (h:yx P ao s K)
  (hk:∀ s' a' w',K s'→Holds F s' a' w'→Kr a' w'):o.wp P a w Kr Q:=by
 obtain ⟨htr',_,hdst,hdok⟩:=wK htr
 clear htr
 obtain ⟨I,β,lam,hI⟩:=hH
 obtain ⟨dst,op,xs,guard⟩:=ao
 simp only[yl] at htr' hdst
 have htr:=htr'
 clear htr'
 subst hdst
 obtain ⟨op',hop'⟩:∃ op',lL draw op=op':=⟨_,rfl⟩
 rw[hop'] at htr
 have efin:isE op=true→zN P (s.base+o.dst.getD 0) op (xs.map (ev s)) (lk s.sto) (fun x e=>K ((s.put o.dst x).new o.dst e))→op=op'→o.wp P a w Kr Q:=by
  rintro hE h rfl
  obtain ⟨x,en,hK,hn,hY⟩:=fD h
  refine DO htr hE (fun x _=>hI.opd x) hI.hread hI.usto hI.nodom hI.Isub (fun k b hk=>(hI.bnew k b hk).2.1) hI.hlm hY ?_
  rintro x' en' v w' I' β' ⟨rfl,rfl⟩ hEff
  obtain ⟨β'',hI'⟩:=hI.eff hdok hEff fun h=>(hn h).1
  refine hk _ _ _ hK ⟨I',β'',lam,?_⟩
  obtain ⟨e1,e2⟩:=nA (s:=s) (d:=o.dst) (x:=x') (en:=en')
  rw[e1,e2]
  exact hI'
 rcases SL hop' with rfl | ⟨sz,by_,rfl,rfl⟩ | ⟨sz,n,z,ps,rfl,rfl⟩ | ⟨f,rfl,rfl⟩ | ⟨rfl,rfl⟩
 ·rcases lh htr with hE | ⟨t,x,y,n,ho,hop,hn,hxs⟩ | ⟨c,ho,hcall⟩ | ⟨bop,t,x,y,t',neg,ho,hq,hop,hxs⟩ | ⟨t,m,y,x,ho,hop,hxs⟩ | ⟨s1,t1,x1,ho,hs2,hop,hxs⟩
  ·refine efin hE ?_ rfl
   unfold yx at h
   cases op<;>first | exact h | cases hE
  ·unfold yx at h
   simp only[hop,hxs] at h
   refine GQ ho hn hI (hI.opd x) (hI.opd y) h fun s' w' hK hH'=>?_
   exact hk _ _ _ hK hH'
  ·rcases pV hcall with hE | ⟨t,u,e',sz,by_,z,hop,hxs,hc,hts,he,hsz,hby,hz,hzl,hu,hz0⟩ | ⟨t,u,e',sz,hop,hxs,hc,hts,he,hsz,hu⟩
   ·refine efin hE ?_ rfl
    unfold yx at h
    cases op<;>first | exact h | cases hE
   ·unfold yx at h
    simp only[hop,hxs] at h
    obtain ⟨xs,xx,hargs⟩:=Q4 h fun L hL=>by
     match L,hL with
     | [X,Y],_=>exact ⟨X,Y,rfl⟩
     | [],hL=>exact hL.elim
     | [x],hL =>
      cases x with
      | val v=>cases v with
       | string _=>exact absurd hL.1 (by omega)
       | _=>exact hL.elim
      | _=>exact hL.elim
     | x::_::_::_,hL =>
      cases x with
      | val v=>cases v<;>exact hL.elim
      | _=>exact hL.elim
    rw[hargs] at h
    exact LD ho hc hargs hts he hsz hby hz hzl hu hI hdok (hI.opd xs) (hI.opd xx) h hk
   ·unfold yx at h
    simp only[hop,hxs] at h
    obtain ⟨xs,xx,hargs⟩:=Q4 h fun L hL=>by
     match L,hL with
     | [X,Y],_=>exact ⟨X,Y,rfl⟩
     | [],hL=>exact hL.elim
     | [x],hL=>cases x<;>exact hL.elim
     | x::_::_::_,hL=>cases x<;>exact hL.elim
    rw[hargs] at h
    exact DR ho hc hargs hts he hsz hu hI hdok (hI.opd xs) (hI.opd xx) h hk
  ·unfold yx at h
   simp only[hop,hxs] at h
   exact DX ho hq hI hdok (hI.opd x) h hk
  ·unfold yx at h
   simp only[hop,hxs] at h
   exact LK ho hI hdok (hI.opd m) (hI.opd y) (hI.opd x) h hk
  ·unfold yx at h
   simp only[hop,hxs] at h
   exact AM ho hs2 hI hdok (hI.opd x1) h hk
 ·rcases lh htr with hE | ⟨t,x,y,n,ho,hop,hn,hxs⟩ | ⟨c,ho,hcall⟩ | ⟨bop,t,x,y,t',neg,ho,hq,hop,hxs⟩ | ⟨_,_,_,_,_,hop,_⟩ | ⟨_,_,_,_,_,hop,hxs⟩
  ·cases hE
  ·cases hop
  ·rcases pV hcall with hE | ⟨t,u,e',sz,by_,z,hop,hxs,hc,hts,he,hsz,hby,hz,hzl,hu,hz0⟩ | ⟨t,u,e',sz,hop,_⟩
   ·cases hE
   ·cases hop
    unfold yx at h
    simp only[hxs] at h
    obtain ⟨xs,xx,hargs⟩:=Q4 h fun L hL=>by
     match L,hL with
     | [X,Y],_=>exact ⟨X,Y,rfl⟩
     | [],hL=>exact hL.elim
     | [x],hL =>
      cases x with
      | list sz m rows=>cases m<;>exact hL.elim
      | _=>exact hL.elim
     | x::_::_::_,hL =>
      cases x with
      | list sz m rows=>cases m<;>exact hL.elim
      | _=>exact hL.elim
    rw[hargs] at h
    exact PP ho hc hargs hts he hsz hby hz hzl hu hI hdok (hI.opd xs) (hI.opd xx) h hk
   ·cases hop
  ·cases hop
  ·cases hop
  ·cases hop
   unfold yx at h
   simp only[hxs] at h
   exfalso
   simp only[List.map_cons,List.map_nil] at h
   generalize ev s (zm _)=X at h
   cases X with
   | list sz m rows=>cases m<;>exact h.elim
   | _=>exact h.elim
 ·obtain ⟨t,parts,e,ho,he,hsz,hz,hlim,rfl,rfl⟩:=(sY htr).2.2 _ _ _ _ rfl
  unfold yx at h
  exact Qy ho he hsz hz hlim hI hdok (fun p _=>hI.opd p.2) h hk
 ·obtain ⟨c,ho,hc,rfl⟩:=(sY htr).1 _ rfl
  unfold yx at h
  exact GG ho hc h.1 (fun x _=>hI.opd x) hI hdok h.2 hk
 ·obtain ⟨c,t,ho,hc,rfl⟩:=(sY htr).2.1 rfl
  unfold yx at h
  simp only[List.map_cons] at h
  split at h
  ·rename_i f caps ys heq
   simp only[List.cons.injEq] at heq
   obtain ⟨hv,rfl⟩:=heq
   refine LF ho hc h.1 ?_ (fun x _=>hI.opd x) hI hdok h.2 hk
   have:=hI.opd (.tmp t)
   simp only[zm] at this
   rw[hv] at this
   exact this
  ·exact h.elim
end
section
variable {P:Program} {F:z9} {w:World} {a:Act} {o:Oper} {Q:Exit→Act→World→Prop} {s:St}
theorem da:∀ (ks:List Nat) {s:St} {K:St→Prop},Holds F s a w→tF ks s K→∃ s',K s'∧Holds F s' a w:=by
 intro ks
 induction ks with
 | nil=>intro s K h hf; exact ⟨s,hf,h⟩
 | cons k ks ih =>
  intro s K h hf
  obtain ⟨s',h1,h2⟩:=dW h hf
  exact ih h2 h1
theorem dV {ops:Array Oper} {e:Nat × Nat→Option AV} {σ:Nat→Option zb} {I:Nat→Nat→Prop} {β:zR} {lam:ya} {g:Option (Nat × Bool)} (hg:rF ops o.guard=some g) (hI:Inv F e σ I β lam a w) :
  (g=none→Region.wanted o (yielded ops a.tmps)=true) ∧
  (∀ d b c,g=some (d,b)→e (0,d)=some (.val (.bool c))→Region.wanted o (yielded ops a.tmps)=(c == b)) ∧
  (∀ d b v,g=some (d,b)→e (0,d)=some (.val v)→(∀ c,v≠.bool c)→Region.wanted o (yielded ops a.tmps)=false):=by
 unfold rF at hg
 split at hg
 ·rename_i ho
  simp only[Option.some.injEq] at hg
  subst hg
  refine ⟨fun _=>by simp[Region.wanted,ho],?_,?_⟩
  ·intro d b c h; cases h
  ·intro d b v h; cases h
 ·rename_i j b ho
  split at hg
  ·rename_i d hd
   simp only[Option.some.injEq] at hg
   subst hg
   refine ⟨(fun h=>by cases h),?_,?_⟩
   ·intro d' b' c h hc
    cases h
    obtain ⟨v,h1,h2⟩:=hI.env _ _ hc
    have:=h2.val_eq
    subst this
    simp only[z9.val] at h1
    simp only[Region.wanted,ho,yielded,hd,Option.bind_some,h1]
    cases c<;>cases b<;>rfl
   ·intro d' b' v h hc hv
    cases h
    obtain ⟨u,h1,h2⟩:=hI.env _ _ hc
    have:=h2.val_eq
    subst this
    simp only[z9.val] at h1
    simp only[Region.wanted,ho,yielded,hd,Option.bind_some,h1]
    split
    ·rename_i c hc'; simp only[Option.some.injEq] at hc'; exact absurd hc' (hv c)
    ·simp
  ·cases hg
theorem nu {n:Nat} {x:AV} (h:s.get n=x) (hx:x≠.undef):lk s.env n=some x:=by
 unfold St.get at h
 cases hl:lk s.env n with
 | none=>rw[hl] at h; exact absurd h.symm hx
 | some y=>rw[hl] at h; simp at h; rw[h]
theorem nE {draw:Bool} {ao:zi} {ops:Array Oper} {K:St→Prop} {Kr:Act→World→Prop} (htr:v9 P F.N ops o=some (yl draw ao)) (hH:Holds F s a w) (h:xo P ao s K)
  (hk:∀ s' a' w',K s'→Holds F s' a' w'→Kr a' w'):if Region.wanted o (yielded ops a.tmps) then o.wp P a w Kr Q else Kr (a.put o.dst undef) w:=by
 obtain ⟨_,hg,hdst,hdok⟩:=wK htr
 have hg:rF ops o.guard=some ao.guard:=hg
 obtain ⟨I,β,lam,hI⟩:=hH
 obtain ⟨g1,g2,g3⟩:=dV hg hI
 have skip:K (s.put ao.dst (.val undef))→Kr (a.put o.dst undef) w:=by
  intro hK
  refine hk _ _ _ hK ⟨I,β,lam,?_⟩
  have:=hI.put hdok (x:=.val undef) (v:=undef) (uh _)
  have hdst':ao.dst=o.dst:=hdst
  rw[hdst',vN]
  have e2:(s.put o.dst (.val undef)).sto=s.sto:=by cases o.dst<;>rfl
  rw[e2]
  exact this
 unfold xo at h
 split at h
 ·rename_i hn
  rw[g1 hn]
  exact JV htr ⟨I,β,lam,hI⟩ h hk
 ·rename_i d b hgd
  split at h
  ·rename_i c hc
   rw[g2 d b c hgd (nu hc (by simp))]
   by_cases e:c=b
   ·subst e
    simp only[beq_self_eq_true,if_true]
    exact JV htr ⟨I,β,lam,hI⟩ (h.1 rfl) hk
   ·have:(c == b)=false:=by simpa using e
    rw[this]
    simp only[Bool.false_eq_true,if_false]
    exact skip (h.2 (by cases c<;>cases b<;>simp_all))
  ·rename_i v hnb hv
   rw[g3 d b v hgd (nu hv (by simp)) (fun c e=>by subst e; exact hnb c rfl)]
   simp only[Bool.false_eq_true,if_false]
   exact skip h
  ·exact h.elim
theorem LB {draw:Bool} (ops:Array Oper):∀ (rl:List Oper) (l:List zi) {s:St} {a:Act} {w:World} {K:St→Prop},xU P F.N ops rl=some (l.map (yl draw))→Holds F s a w→zj P l s K →
  (∀ s' a' w',K s'→Holds F s' a' w'→Q .normal a' w')→wpList P ops Q rl a w:=by
 intro rl
 induction rl with
 | nil =>
  intro l s a w K htr hH h hk
  simp only[xU,Option.some.injEq] at htr
  have htr:=List.map_eq_nil_iff.1 htr.symm
  subst htr
  exact hk _ _ _ h hH
 | cons o rl ih =>
  intro l s a w K htr hH h hk
  simp only[xU] at htr
  split at htr
  ·rename_i x y hx hy
   simp only[Option.some.injEq] at htr
   obtain ⟨x',l',rfl,e1,e2⟩:=List.map_eq_cons_iff.1 htr.symm
   rw[← e1] at hx
   rw[← e2] at hy
   simp only[zj] at h
   refine wpList_step fun Kr hKr=>?_
   exact nE hx hH h fun s' a' w' hK hH'=>hKr _ _ (ih _ hy hH' hK hk)
  ·cases htr
def kL (acc:Array Nat) (o:Oper):Nat:=o.after.foldl (fun s e=>if Region.binds .any e then s ||| 2^e.on ||| acc.getD e.on 0 else s) 0
theorem EQ {acc:Array Nat} {o:Oper} {j:Nat} (h:(kL acc o).testBit j=true):∃ e∈o.after.toList,Region.binds .any e=true∧(e.on=j∨(acc.getD e.on 0).testBit j=true):=by
 unfold kL at h
 rw[← Array.foldl_toList] at h
 have:∀ (l:List Edge) (s:Nat),(l.foldl (fun s e=>if Region.binds .any e then s ||| 2^e.on ||| acc.getD e.on 0 else s) s).testBit j=true →
   s.testBit j=true∨∃ e∈l,Region.binds .any e=true∧(e.on=j∨(acc.getD e.on 0).testBit j=true):=by
  intro l
  induction l with
  | nil=>intro s h; exact .inl h
  | cons e l ih =>
   intro s h
   simp only[List.foldl_cons] at h
   rcases ih _ h with h | ⟨e',he',h⟩
   ·split at h
    ·rename_i hb
     rw[Nat.testBit_or,Nat.testBit_or,Bool.or_eq_true,Bool.or_eq_true] at h
     rcases h with (h | h) | h
     ·exact .inl h
     ·refine .inr ⟨e,by simp,hb,.inl ?_⟩
      rw[Nat.testBit_two_pow] at h
      simpa using h
     ·exact .inr ⟨e,by simp,hb,.inr h⟩
    ·exact .inl h
   ·exact .inr ⟨e',by simp[he'],h⟩
 rcases this _ _ h with h | h
 ·simp at h
 ·exact h
theorem am (ops:Array Oper) {i:Nat} {o:Oper} (hi:ops[i]?=some o) {j:Nat} (h:((Region.before ops).getD i 0).testBit j=true) :
  ∃ e∈o.after.toList,Region.binds .any e=true∧(e.on=j∨(e.on<i∧((Region.before ops).getD e.on 0).testBit j=true)):=by
 have key:∀ (l:List Oper) (acc:Array Nat),let R:=l.foldl (fun acc o=>acc.push (kL acc o)) acc
   (∀ k,k<acc.size→R.getD k 0=acc.getD k 0) ∧
   ∀ k o,l[k]?=some o→∃ acc':Array Nat,acc'.size=acc.size+k∧R.getD (acc.size+k) 0=kL acc' o∧∀ q,q<acc'.size→acc'.getD q 0=R.getD q 0:=by
  intro l
  induction l with
  | nil=>intro acc; exact ⟨fun _ _=>rfl,fun k o h=>by simp at h⟩
  | cons x l ih =>
   intro acc
   simp only[List.foldl_cons]
   obtain ⟨h1,h2⟩:=ih (acc.push (kL acc x))
   have hp:∀ k,k<acc.size→(acc.push (kL acc x)).getD k 0=acc.getD k 0:=fun k hk=>by
    simp[Array.getElem?_push,Nat.ne_of_lt hk]
   refine ⟨fun k hk=>by rw[h1 k (by simp; omega),hp k hk],fun k o hk=>?_⟩
   cases k with
   | zero =>
    simp at hk
    subst hk
    refine ⟨acc,by simp,?_,fun q hq=>?_⟩
    ·rw[Nat.add_zero,h1 acc.size (by simp)]
     simp
    ·rw[h1 q (by simp; omega),hp q hq]
   | succ k =>
    simp at hk
    obtain ⟨acc',e1,e2,e3⟩:=h2 k o hk
    refine ⟨acc',by rw[e1]; simp; omega,?_,e3⟩
    rw[← e2]
    congr 1
    simp
    omega
 have hR:Region.before ops=ops.toList.foldl (fun acc o=>acc.push (kL acc o)) #[]:=by
  unfold Region.before
  rw[← Array.foldl_toList]
  rfl
 obtain ⟨_,h2⟩:=key ops.toList #[]
 rw[← hR] at h2
 obtain ⟨acc',e1,e2,e3⟩:=h2 i o (by simpa using hi)
 simp only[List.size_toArray,List.length_nil,Nat.zero_add] at e1 e2
 rw[e2] at h
 obtain ⟨e,he,hb,hj⟩:=EQ h
 refine ⟨e,he,hb,hj.imp id fun hj=>?_⟩
 by_cases hlt:e.on<i
 ·refine ⟨hlt,?_⟩
  rw[← e3 e.on (by omega)]
  exact hj
 ·exfalso
  have:acc'.getD e.on 0=0:=by
   have:acc'.size≤e.on:=by omega
   simp[this]
  rw[this] at hj
  simp at hj
def Ld (L:Array Bool) (j:Nat):Prop:=L.getD j false=true
def Closed (ops:Array Oper) (L:Array Bool):Prop:=∀ (i:Nat) (o:Oper),ops[i]?=some o→Ld L i→∀ e∈o.after.toList,Region.binds .any e=true→Ld L e.on
theorem pX {ops:Array Oper} {L:Array Bool} (hc:Closed ops L) {i:Nat} {o:Oper} (hi:ops[i]?=some o) (hr:∀ e∈o.after.toList,Region.binds .any e=true→Ld L e.on) {j:Nat}
  (h:((Region.before ops).getD i 0).testBit j=true):Ld L j:=by
 have:∀ (n i:Nat) (o:Oper),i≤n→ops[i]?=some o→(∀ e∈o.after.toList,Region.binds .any e=true→Ld L e.on)→((Region.before ops).getD i 0).testBit j=true→Ld L j:=by
  intro n
  induction n with
  | zero =>
   intro i o hin hi hr h
   obtain ⟨e,he,hb,hj⟩:=am ops hi h
   rcases hj with rfl | ⟨hlt,_⟩
   ·exact hr e he hb
   ·omega
  | succ n ih =>
   intro i o hin hi hr h
   obtain ⟨e,he,hb,hj⟩:=am ops hi h
   rcases hj with rfl | ⟨hlt,hj⟩
   ·exact hr e he hb
   ·have hle:e.on<ops.size:=by
     have:=(Array.getElem?_eq_some_iff.1 hi).1
     omega
    exact ih e.on ops[e.on] (by omega) (by simp[hle]) (hc e.on _ (by simp[hle]) (hr e he hb)) hj
 exact this i i o (Nat.le_refl _) hi hr h
theorem jM {ops:Array Oper} {i:Nat} (h:waits ops i=true) {j:Nat} (hj:j<i):((Region.before ops).getD i 0).testBit j=true:=by
 unfold waits at h
 have h':Nat.land ((Region.before ops).getD i 0) (2^i-1)=2^i-1:=by simpa using h
 have:(Nat.land ((Region.before ops).getD i 0) (2^i-1)).testBit j=true:=by
  rw[h',Nat.testBit_two_pow_sub_one]
  simpa using hj
 have h2:(((Region.before ops).getD i 0) &&& (2^i-1)).testBit j=true:=this
 rw[Nat.testBit_and,Bool.and_eq_true] at h2
 exact h2.1
theorem cg (ops:Array Oper):∀ n,zO ops n≤n:=by
 intro n
 induction n with
 | zero=>simp[zO]
 | succ n ih =>
  simp only[zO]
  split
  ·omega
  ·omega
theorem t0 (ops:Array Oper):∀ n i,zO ops n≤i→i<n→waits ops i=true:=by
 intro n
 induction n with
 | zero=>intro i _ h; omega
 | succ n ih =>
  intro i h1 h2
  simp only[zO] at h1
  split at h1
  ·rename_i hw
   by_cases e:i=n
   ·subst e; exact hw
   ·exact ih i h1 (by omega)
  ·omega
theorem mz {ops:Array Oper} {L:Array Bool} {i:Nat}:i∈Region.ready .any ops L↔∃ o,ops[i]?=some o∧L.getD i true=false∧∀ e∈o.after.toList,Region.binds .any e=true→Ld L e.on:=by
 unfold Region.ready
 simp only[List.mem_filter,List.mem_range,Bool.and_eq_true,Bool.not_eq_true']
 constructor
 ·rintro ⟨h1,h2,h3⟩
  cases ho:ops[i]? with
  | none=>simp[ho] at h3
  | some o =>
   refine ⟨o,rfl,h2,fun e he hb=>?_⟩
   simp only[ho,Option.map_some,Option.getD_some] at h3
   have:=Array.all_eq_true'.1 h3 e (by simpa using he)
   simp only[hb,Bool.not_true,Bool.false_or] at this
   exact this
 ·rintro ⟨o,ho,h2,h3⟩
  refine ⟨(Array.getElem?_eq_some_iff.1 ho).1,h2,?_⟩
  simp only[ho,Option.map_some,Option.getD_some]
  refine Array.all_eq_true'.2 fun e he=>?_
  cases hb:Region.binds .any e with
  | false=>rfl
  | true =>
   have:=h3 e (by simpa using he) hb
   simpa [Ld] using this
end
section
variable {P:Program} {F:z9} {Q:Exit→Act→World→Prop}
def tU (P:Program) (ao:zi) (s:St) (x:AV) (en:Option zb):Prop :=
 match ao.guard with
 | none=>Yields P (s.base+ao.dst.getD 0) ao.op (ao.xs.map (ev s)) (lk s.sto) x en
 | some (g,b)=>match s.get g with
  | .val (.bool c)=>(c=b→Yields P (s.base+ao.dst.getD 0) ao.op (ao.xs.map (ev s)) (lk s.sto) x en)∧(c=!b→x=.val undef∧en=none)
  | .val _=>x=.val undef∧en=none
  | _=>False
theorem C2 {ao:zi} {s:St} {K:St→Prop} (hE:isE ao.op=true) (h:yx P ao s K) :
  zN P (s.base+ao.dst.getD 0) ao.op (ao.xs.map (ev s)) (lk s.sto) (fun x e=>K ((s.put ao.dst x).new ao.dst e)):=by
 unfold yx at h
 cases hop:ao.op<;>rw[hop] at h hE<;>first | exact h | cases hE
theorem Ca {ao:zi} {s:St} {K:St→Prop} (hE:isE ao.op=true) (h:xo P ao s K) :
  ∃ x en,tU P ao s x en∧(en≠none→lk s.sto (s.base+ao.dst.getD 0)=none∧uI en=false)∧K ((s.put ao.dst x).new ao.dst en):=by
 have run:yx P ao s K→∃ x en,Yields P (s.base+ao.dst.getD 0) ao.op (ao.xs.map (ev s)) (lk s.sto) x en∧(en≠none→lk s.sto (s.base+ao.dst.getD 0)=none∧uI en=false)∧K ((s.put ao.dst x).new ao.dst en):=by
  intro h
  obtain ⟨x,en,h1,h2,h3⟩:=fD (C2 hE h)
  exact ⟨x,en,h3,h2,h1⟩
 have skip:K (s.put ao.dst (.val undef))→K ((s.put ao.dst (.val undef)).new ao.dst none):=by
  intro h
  have:(s.put ao.dst (.val undef)).new ao.dst none=s.put ao.dst (.val undef):=by cases ao.dst<;>rfl
  rw[this]; exact h
 unfold xo at h
 unfold tU
 cases hg:ao.guard with
 | none=>rw[hg] at h; exact run h
 | some gb =>
  obtain ⟨g,b⟩:=gb
  rw[hg] at h
  simp only at h ⊢
  split at h
  ·rename_i c hc
   rw[hc]
   simp only
   by_cases e:c=b
   ·obtain ⟨x,en,h1,h2,h3⟩:=run (h.1 e)
    exact ⟨x,en,⟨fun _=>h1,fun h=>by subst e; cases c<;>cases h⟩,h2,h3⟩
   ·have e':c=!b:=by cases c<;>cases b<;>simp_all
    exact ⟨.val undef,none,⟨fun h=>absurd h e,fun _=>⟨rfl,rfl⟩⟩,fun h=>absurd rfl h,skip (h.2 e')⟩
  ·rename_i v hnb hv
   rw[hv]
   refine ⟨.val undef,none,?_,fun h=>absurd rfl h,skip h⟩
   cases v<;>first | exact ⟨rfl,rfl⟩ | exact absurd rfl (hnb _)
  ·exact h.elim
inductive Trace (P:Program):List zi→St→List (AV × Option zb)→St→Prop where
 | nil (s:St):Trace P [] s [] s
 | cons {ao:zi} {l:List zi} {s s':St} {x:AV} {en:Option zb} {tr:List (AV × Option zb)} (h:tU P ao s x en) (hn:en≠none→lk s.sto (s.base+ao.dst.getD 0)=none∧uI en=false)
   (ht:Trace P l ((s.put ao.dst x).new ao.dst en) tr s'):Trace P (ao::l) s ((x,en)::tr) s'
theorem Q3:∀ (l l2:List zi) {s:St} {K:St→Prop},(∀ ao∈l,isE ao.op=true)→zj P (l++l2) s K→∃ tr s',Trace P l s tr s'∧zj P l2 s' K:=by
 intro l
 induction l with
 | nil=>intro l2 s K _ h; exact ⟨[],s,.nil s,h⟩
 | cons ao l ih =>
  intro l2 s K hE h
  simp only[List.cons_append,zj] at h
  obtain ⟨x,en,h1,h2,h3⟩:=Ca (hE ao (by simp)) h
  obtain ⟨tr,s',h4,h5⟩:=ih l2 (fun ao h=>hE ao (by simp[h])) h3
  exact ⟨_,s',.cons h1 h2 h4,h5⟩
theorem Cu:∀ {l:List zi} {s s':St} {tr:List (AV × Option zb)},Trace P l s tr s'→tr.length=l.length ∧
  ∀ i ao,l[i]?=some ao→∃ si x en,tr[i]?=some (x,en)∧tU P ao si x en∧(en≠none→lk si.sto (si.base+ao.dst.getD 0)=none∧uI en=false)∧Trace P (l.take i) s (tr.take i) si:=by
 intro l s s' tr h
 induction h with
 | nil s=>exact ⟨rfl,fun i ao h=>by simp at h⟩
 | @cons ao l s s' x en tr h hn ht ih =>
  obtain ⟨h1,h2⟩:=ih
  refine ⟨by simp[h1],fun i ao' hi=>?_⟩
  cases i with
  | zero =>
   simp at hi
   subst hi
   exact ⟨s,x,en,rfl,h,hn,.nil s⟩
  | succ i =>
   simp at hi
   obtain ⟨si,x',en',g1,g2,g3,g4⟩:=h2 i ao' hi
   exact ⟨si,x',en',by simpa using g1,g2,g3,by simpa using Trace.cons h hn g4⟩
theorem kO {s:St} {d:Option Nat} {x:AV} {en:Option zb}:((s.put d x).new d en).base=s.base:=by cases d<;>cases en<;>rfl
theorem ua {l:List zi} {s s':St} {tr:List (AV × Option zb)} (h:Trace P l s tr s'):s'.base=s.base:=by
 induction h with
 | nil s=>rfl
 | cons h hn ht ih=>rw[ih,kO]
theorem B2 {s:St} {d:Option Nat} {x:AV} {en:Option zb}:((s.put d x).new d en).out=s.out:=by cases d<;>cases en<;>rfl
theorem TP {l:List zi} {s s':St} {tr:List (AV × Option zb)} (h:Trace P l s tr s'):s'.out=s.out:=by
 induction h with
 | nil s=>rfl
 | cons h hn ht ih=>rw[ih,B2]
theorem Uk {s:St} {d:Option Nat} {x:AV} {en:Option zb}:lk ((s.put d x).new d en).env=fun t=>yd s.look (slot d) (some x) (0,t):=by
 funext t
 have:=congrFun (nA (s:=s) (d:=d) (x:=x) (en:=en)).1 (0,t)
 exact this
theorem cU:∀ {l:List zi} {s s':St} {tr:List (AV × Option zb)},Trace P l s tr s'→(∀ (i j:Nat) (x y:zi) (t:Nat),l[i]?=some x→l[j]?=some y→x.dst=some t→y.dst=some t→i=j) →
  (∀ t,(∃ (i:Nat) (ao:zi) (x:AV) (en:Option zb),l[i]?=some ao∧tr[i]?=some (x,en)∧ao.dst=some t∧lk s'.env t=some x)∨((∀ (i:Nat) (ao:zi),l[i]?=some ao→ao.dst≠some t)∧lk s'.env t=lk s.env t)) ∧
  (∀ k,(∃ (i:Nat) (ao:zi) (x:AV) (en:zb) (d:Nat),l[i]?=some ao∧tr[i]?=some (x,some en)∧ao.dst=some d∧k=s.base+d∧lk s'.sto k=some en∧lk s.sto k=none) ∨
   ((∀ (i:Nat) (ao:zi) (x:AV) (en:Option zb) (d:Nat),l[i]?=some ao→tr[i]?=some (x,en)→ao.dst=some d→k=s.base+d→en=none)∧lk s'.sto k=lk s.sto k)):=by
 intro l s s' tr h
 induction h with
 | nil s=>exact fun _=>⟨fun t=>.inr ⟨fun i ao h=>by simp at h,rfl⟩,fun k=>.inr ⟨fun i ao x en d h=>by simp at h,rfl⟩⟩
 | @cons ao l s s' x en tr h hn ht ih =>
  intro hu
  have hu':∀ (i j:Nat) (x y:zi) (t:Nat),l[i]?=some x→l[j]?=some y→x.dst=some t→y.dst=some t→i=j:=fun i j x y t h1 h2 h3 h4=>by
   have:=hu (i+1) (j+1) x y t (by simpa using h1) (by simpa using h2) h3 h4
   omega
  have hne:∀ (i:Nat) (y:zi) (t:Nat),l[i]?=some y→y.dst=some t→ao.dst≠some t:=fun i y t h1 h2 h3=>by
   have:=hu 0 (i+1) ao y t rfl (by simpa using h1) h3 h2
   omega
  obtain ⟨g1,g2⟩:=ih hu'
  have e1:=Uk (s:=s) (d:=ao.dst) (x:=x) (en:=en)
  obtain ⟨_,e2⟩:=nA (s:=s) (d:=ao.dst) (x:=x) (en:=en)
  have e3:=kO (s:=s) (d:=ao.dst) (x:=x) (en:=en)
  refine ⟨fun t=>?_,fun k=>?_⟩
  ·rcases g1 t with ⟨i,ao',x',en',a1,a2,a3,a4⟩ | ⟨a1,a2⟩
   ·exact .inl ⟨i+1,ao',x',en',by simpa using a1,by simpa using a2,a3,a4⟩
   ·rw[e1] at a2
    by_cases hd:ao.dst=some t
    ·refine .inl ⟨0,ao,x,en,rfl,rfl,hd,?_⟩
     rw[a2,hd]
     simp[yd,slot]
    ·refine .inr ⟨fun i y hi=>?_,?_⟩
     ·cases i with
      | zero=>simp at hi; subst hi; exact hd
      | succ i=>simp at hi; exact a1 i y hi
     ·rw[a2]
      cases hda:ao.dst with
      | none=>rfl
      | some d =>
       simp only[yd,slot]
       rw[if_neg (fun e=>hd (by rw[hda]; simp only[Prod.mk.injEq] at e; rw[e.2]))]
       rfl
  ·rcases g2 k with ⟨i,ao',x',en',d',a1,a2,a3,a3',a4,a5⟩ | ⟨a1,a2⟩
   ·refine .inl ⟨i+1,ao',x',en',d',by simpa using a1,by simpa using a2,a3,by rw[a3',e3],a4,?_⟩
    have hd:=hne i ao' d' a1 a3
    rw[e2] at a5
    cases en with
    | none=>exact a5
    | some en0 =>
     cases hda:ao.dst with
     | none=>rw[hda] at a5; exact a5
     | some d =>
      rw[hda] at a5
      simp only[tQ,yd,Option.map_some,Option.getD_some] at a5
      split at a5
      ·cases a5
      ·exact a5
   ·rw[e2] at a2
    by_cases hd:(∃ d,ao.dst=some d∧k=s.base+d)∧en≠none
    ·obtain ⟨⟨d,hd,hk⟩,hen⟩:=hd
     cases en with
     | none=>exact absurd rfl hen
     | some en0 =>
      refine .inl ⟨0,ao,x,en0,d,rfl,rfl,hd,hk,?_,?_⟩
      ·rw[a2,hd]; simp[tQ,yd,hk]
      ·have:=(hn (by simp)).1
       rw[hd] at this
       rw[hk]
       exact this
    ·refine .inr ⟨fun i y x' en' d hi ht' hdy hk=>?_,?_⟩
     ·cases i with
      | zero =>
       simp at hi ht'
       subst hi
       obtain ⟨_,rfl⟩:=ht'
       cases hen:en with
       | none=>rfl
       | some en0=>exact absurd ⟨⟨d,hdy,hk⟩,by rw[hen]; simp⟩ hd
      | succ i=>simp at hi ht'; exact a1 i y x' en' d hi ht' hdy (by rw[e3]; exact hk)
     ·rw[a2]
      cases en with
      | none=>rfl
      | some en0 =>
       cases hda:ao.dst with
       | none=>rfl
       | some d =>
        simp only[tQ,yd,Option.map_some,Option.getD_some]
        rw[if_neg (fun e=>hd ⟨⟨d,hda,e⟩,by simp⟩)]
end
section
variable {P:Program} {F:z9} {Q:Exit→Act→World→Prop} {ops:Array Oper}
theorem tI {N:Nat}:∀ (rl:List Oper) (l:List zi),xU P N ops rl=some l→l.length=rl.length∧∀ (i:Nat) (o:Oper),rl[i]?=some o→∃ ao,l[i]?=some ao∧v9 P N ops o=some ao:=by
 intro rl
 induction rl with
 | nil=>intro l h; simp only[xU,Option.some.injEq] at h; subst h; simp
 | cons o rl ih =>
  intro l h
  simp only[xU] at h
  split at h
  ·rename_i x y hx hy
   simp only[Option.some.injEq] at h
   subst h
   obtain ⟨h1,h2⟩:=ih y hy
   refine ⟨by simp[h1],fun i o' hi=>?_⟩
   cases i with
   | zero=>simp at hi; subst hi; exact ⟨x,rfl,hx⟩
   | succ i=>simp at hi; simpa using h2 i o' hi
  ·cases h
def Part (F:z9) (l:List zi) (n:Nat) (tr:List (AV × Option zb)) (s:St) (L:Array Bool) (a:Act) (w:World):Prop :=
 ∃ I β lam e σ,Inv F e σ I β lam a w ∧
  (∀ t,(∃ (i:Nat) (ao:zi) (x:AV) (en:Option zb),i<n∧l[i]?=some ao∧tr[i]?=some (x,en)∧ao.dst=some t∧Ld L i∧e (0,t)=some x) ∨
   ((∀ (i:Nat) (ao:zi),i<n→l[i]?=some ao→Ld L i→ao.dst≠some t)∧e (0,t)=lk s.env t))∧(∀ d t,e (d+1,t)=s.look (d+1,t)) ∧
  (∀ k,(∃ (i:Nat) (ao:zi) (x:AV) (en:zb) (d:Nat),i<n∧l[i]?=some ao∧tr[i]?=some (x,some en)∧ao.dst=some d∧k=s.base+d∧Ld L i∧σ k=some en) ∨
   ((∀ (i:Nat) (ao:zi) (x:AV) (en:Option zb) (d:Nat),i<n→l[i]?=some ao→tr[i]?=some (x,en)→Ld L i→ao.dst=some d→k=s.base+d→en=none)∧σ k=lk s.sto k))
theorem y4 {L:Array Bool} {i j:Nat} (hi:i<L.size):Ld (L.setIfInBounds i true) j↔Ld L j∨j=i:=by
 unfold Ld
 by_cases e:i=j
 ·subst e; simp[hi]
 ·simp[e,Ne.symm e]
theorem pC {n i:Nat} (h:gz P ops n i=true):∃ o op xs,ops[i]?=some o∧kY P o.type o.op=some (op,xs)∧(isE op=true∧∃ d,o.dst=some d) ∧
  (∀ (d j:Nat) (q:Oper),o.dst=some d→j<n→ops[j]?=some q→q.dst=some d→j=i) ∧
  (∀ (t j:Nat) (q:Oper),t∈o.looksAt ops→j<n→ops[j]?=some q→q.dst=some t→j<i∧∃ e∈o.after.toList,e.on=j∧Region.binds .any e=true):=by
 unfold gz at h
 split at h
 ·cases h
 ·rename_i o ho
  simp only[Bool.and_eq_true] at h
  obtain ⟨⟨h1,h2⟩,h3⟩:=h
  split at h1
  ·rename_i op xs htr
   refine ⟨o,op,xs,ho,htr,⟨h1,by cases hd:o.dst with | none=>rw[hd] at h2; cases h2 | some d=>exact ⟨d,rfl⟩⟩,fun d j q hd hj hq hqd=>?_,fun t j q ht hj hq hqd=>?_⟩
   ·rw[hd] at h2
    have:=List.all_eq_true.1 h2 j (by simpa using hj)
    simp only[hq,Option.map_some,Option.getD_some,hqd,bne_self_eq_false,Bool.or_false,beq_iff_eq] at this
    exact this
   ·have:=List.all_eq_true.1 (List.all_eq_true.1 h3 t ht) j (by simpa using hj)
    simp only[hq,Option.map_some,Option.getD_some,hqd,bne_self_eq_false,Bool.false_or,Bool.and_eq_true,decide_eq_true_eq] at this
    refine ⟨this.1,?_⟩
    obtain ⟨e,he,heq⟩:=Array.any_eq_true'.1 this.2
    simp only[Bool.and_eq_true,beq_iff_eq] at heq
    exact ⟨e,by simpa using he,heq.1,heq.2⟩
  ·cases h1
theorem SO {c b:Bool} (h:c≠b):c=!b:=by
 cases c<;>cases b<;>first | rfl | exact absurd rfl h

theorem Ga {l:List zi} {n:Nat} {tr:List (AV × Option zb)} {s sn:St} {L:Array Bool} {a:Act} {w:World} {i:Nat} {o:Oper} {Kr:Act→World→Prop}
  (hl:xU P F.N ops ops.toList=some (l.map (yl true))) (hfree:∀ j,j<n→gz P ops n j=true) (htr:Trace P (l.take n) s tr sn) (hsz:L.size=ops.size)
  (hi:i<n) (ho:ops[i]?=some o) (hLi:¬ Ld L i) (hdep:∀ e∈o.after.toList,Region.binds .any e=true→Ld L e.on) (hP:Part F l n tr s L a w)
  (hk:∀ a' w',Part F l n tr s (L.setIfInBounds i true) a' w'→Kr a' w'):if Region.wanted o (yielded ops a.tmps) then o.wp P a w Kr Q else Kr (a.put o.dst undef) w:=by
 obtain ⟨hlen,hget⟩:=tI _ _ hl
 rw[List.length_map] at hlen
 have hget':∀ (i:Nat) (o:Oper),ops[i]?=some o→∃ ao,l[i]?=some ao∧v9 P F.N ops o=some (yl true ao):=fun i o h=>by
  obtain ⟨ao,h1,h2⟩:=hget i o (by simpa using h)
  simp only[List.getElem?_map,Option.map_eq_some_iff] at h1
  obtain ⟨ao',h1,rfl⟩:=h1
  exact ⟨ao',h1,h2⟩
 have hget2:∀ (i:Nat) (ao:zi),l[i]?=some ao→∃ o,ops[i]?=some o∧v9 P F.N ops o=some (yl true ao):=fun i ao h=>by
  have hlt:i<ops.size:=by
   have:=(List.getElem?_eq_some_iff.1 h).1
   simpa [hlen] using this
  obtain ⟨ao',h1,h2⟩:=hget' i ops[i] (by simp[hlt])
  rw[h] at h1
  cases h1
  exact ⟨ops[i],by simp[hlt],h2⟩
 obtain ⟨ao,hao,htro⟩:=hget' i o ho
 obtain ⟨h1,hg,hdst,hdok⟩:=wK htro
 have hdst:ao.dst=o.dst:=hdst
 have hg:rF ops o.guard=some ao.guard:=hg
 have hdst2:∀ {q:Oper} {z:zi},v9 P F.N ops q=some (yl true z)→z.dst=q.dst:=fun {q z} h=>(wK h).2.2.1
 obtain ⟨o',op,xs,ho',htrop,⟨hE,d0,hd0⟩,huniq,hlook⟩:=pC (hfree i hi)
 rw[ho] at ho'
 cases ho'
 rw[h1] at htrop
 simp only[Option.some.injEq,Prod.mk.injEq] at htrop
 obtain ⟨hop,hxs⟩:=htrop
 have hE0:isE (yl true ao).op=true:=by rw[hop]; exact hE
 have hbare:(yl true ao).op=ao.op:=by
  simp only[yl] at hE0 ⊢
  cases hao2:ao.op<;>rw[hao2] at hE0<;>first | rfl | cases hE0
 have hE':isE ao.op=true:=by rw[← hbare]; exact hE0
 rw[hbare] at h1
 have h1:kY P o.type o.op=some (ao.op,ao.xs):=h1
 -- the state of the text before it
 obtain ⟨htl,hat⟩:=Cu htr
 have htake:(l.take n)[i]?=some ao:=by rw[List.getElem?_take,if_pos hi]; exact hao
 obtain ⟨si,x,en,hxi,hstep,hnone,hti⟩:=hat i ao htake
 have huq:∀ (i' j:Nat) (x y:zi) (t:Nat),((l.take n).take i)[i']?=some x→((l.take n).take i)[j]?=some y→x.dst=some t→y.dst=some t→i'=j:=by
  intro i' j x y t h1 h2 h3 h4
  have g:∀ {q:Nat} {z:zi},((l.take n).take i)[q]?=some z→q<i∧q<n∧l[q]?=some z:=by
   intro q z hq
   rw[List.getElem?_take] at hq
   split at hq
   ·rename_i hqi
    rw[List.getElem?_take] at hq
    split at hq
    ·rename_i hqn; exact ⟨hqi,hqn,hq⟩
    ·cases hq
   ·cases hq
  obtain ⟨_,a2,a3⟩:=g h1
  obtain ⟨_,b2,b3⟩:=g h2
  obtain ⟨o1,c1,c2⟩:=hget2 _ _ a3
  obtain ⟨o2,d1,d2⟩:=hget2 _ _ b3
  have c3:=hdst2 c2
  have d3:=hdst2 d2
  obtain ⟨o3,_,_,e1,_,_,e2,_⟩:=pC (hfree j b2)
  rw[d1] at e1
  cases e1
  exact e2 t i' o1 (by rw[← d3]; exact h4) a2 c1 (by rw[← c3]; exact h3)
 obtain ⟨henv,hsto⟩:=cU hti huq
 have pre:∀ {q:Nat} {z:zi},((l.take n).take i)[q]?=some z→q<i∧q<n∧l[q]?=some z:=by
  intro q z hq
  rw[List.getElem?_take] at hq
  split at hq
  ·rename_i hqi
   rw[List.getElem?_take] at hq
   split at hq
   ·rename_i hqn; exact ⟨hqi,hqn,hq⟩
   ·cases hq
  ·cases hq
 have pre2:∀ {q:Nat} {z:AV × Option zb},(tr.take i)[q]?=some z→tr[q]?=some z:=by
  intro q z hq
  rw[List.getElem?_take] at hq
  split at hq
  ·exact hq
  ·cases hq
 have mk1:∀ {q:Nat} {z:zi},q<i→l[q]?=some z→((l.take n).take i)[q]?=some z:=fun {q z} hq hz=>by
  rw[List.getElem?_take,if_pos hq,List.getElem?_take,if_pos (by omega)]; exact hz
 have mk2:∀ {q:Nat} {z:AV × Option zb},q<i→tr[q]?=some z→(tr.take i)[q]?=some z:=fun {q z} hq hz=>by
  rw[List.getElem?_take,if_pos hq]; exact hz
 have dstOf:∀ {q:Nat} {z:zi},l[q]?=some z→∃ oq,ops[q]?=some oq∧z.dst=oq.dst:=fun {q z} hz=>by
  obtain ⟨oq,c1,c2⟩:=hget2 _ _ hz
  exact ⟨oq,c1,hdst2 c2⟩
 have uniqd:∀ {q q':Nat} {z z':zi} {t:Nat},q<n→q'<n→l[q]?=some z→l[q']?=some z'→z.dst=some t→z'.dst=some t→q=q':=by
  intro q q' z z' t hq hq' hz hz' hd hd'
  obtain ⟨o1,c1,c2⟩:=dstOf hz
  obtain ⟨o2,d1,d2⟩:=dstOf hz'
  obtain ⟨o3,_,_,e1,_,_,e2,_⟩:=pC (hfree q' hq')
  rw[d1] at e1
  cases e1
  exact e2 t q o1 (by rw[← d2]; exact hd') hq c1 (by rw[← c2]; exact hd)
 obtain ⟨I,β,lam,e,σ,hI,hPe,hPo,hPs⟩:=hP
 have hbase:=ua hti
 -- the slots that it looks at hold what they hold in the text's order
 have hsame:∀ t,t∈o.looksAt ops→lk si.env t=e (0,t):=by
  intro t ht
  rcases henv t with ⟨q,z,x',en',a1,a2,a3,a4⟩ | ⟨a1,a2⟩
  ·obtain ⟨hqi,hqn,hzq⟩:=pre a1
   obtain ⟨oq,c1,c2⟩:=dstOf hzq
   obtain ⟨_,ed,hed,heq,hbd⟩:=hlook t q oq ht hqn c1 (by rw[← c2]; exact a3)
   have hLq:Ld L q:=by rw[← heq]; exact hdep ed hed hbd
   rcases hPe t with ⟨q',z',x'',en'',b0,b1,b2,b3,b4,b5⟩ | ⟨b1,b2⟩
   ·have:=uniqd hqn b0 hzq b1 a3 b3
    subst this
    rw[pre2 a2] at b2
    cases b2
    rw[a4,b5]
   ·exact absurd a3 (b1 q z hqn hzq hLq)
  ·rcases hPe t with ⟨q',z',x'',en'',b0,b1,b2,b3,b4,b5⟩ | ⟨b1,b2⟩
   ·obtain ⟨oq,c1,c2⟩:=dstOf b1
    obtain ⟨hlt,_⟩:=hlook t q' oq ht b0 c1 (by rw[← c2]; exact b3)
    exact absurd b3 (a1 q' z' (mk1 hlt b1))
   ·rw[a2,b2]
 -- its variables
 have agree:∀ k en' en'',lk si.sto k=some en'→σ k=some en''→en''=en':=by
  intro k en' en'' hk1 hσ
  rcases hPs k with ⟨q,z,x',en1,d,b0,b1,b2,b3,bk,b4,b5⟩ | ⟨b1,b2⟩
  ·rw[hσ] at b5
   cases b5
   -- the variable is one of the region's own
   obtain ⟨sq,xq,enq,q1,_,q3,q4⟩:=hat q z (by rw[List.getElem?_take,if_pos b0]; exact b1)
   rw[b2] at q1
   cases q1
   have hfreeq:lk s.sto k=none:=by
    have h0:=(q3 (by simp)).1
    rw[b3,ua q4] at h0
    simp only[Option.getD_some] at h0
    rw[← bk] at h0
    have huq':∀ (i' j:Nat) (x y:zi) (t:Nat),((l.take n).take q)[i']?=some x→((l.take n).take q)[j]?=some y→x.dst=some t→y.dst=some t→i'=j:=by
     intro i' j x y t h1 h2 h3 h4
     have g:∀ {p:Nat} {z:zi},((l.take n).take q)[p]?=some z→p<n∧l[p]?=some z:=by
      intro p z hp
      rw[List.getElem?_take] at hp
      split at hp
      ·rw[List.getElem?_take] at hp
       split at hp
       ·rename_i hpn; exact ⟨hpn,hp⟩
       ·cases hp
      ·cases hp
     exact uniqd (g h1).1 (g h2).1 (g h1).2 (g h2).2 h3 h4
    rcases (cU q4 huq').2 k with ⟨p,zp,xp,enp,dp,p1,_,p3,_,p4,_⟩ | ⟨_,p2⟩
    ·rw[h0] at p4; cases p4
    ·rw[← p2]; exact h0
   rcases hsto k with ⟨p,zp,xp,enp,dp,p1,p2,p3,pk,p4,p5⟩ | ⟨_,p2⟩
   ·obtain ⟨hpi,hpn,hzp⟩:=pre p1
    have hdd:dp=d:=by omega
    subst hdd
    have:=uniqd hpn b0 hzp b1 p3 b3
    subst this
    rw[pre2 p2] at b2
    cases b2
    rw[p4] at hk1
    cases hk1
    rfl
   ·rw[p2,hfreeq] at hk1
    cases hk1
  ·rcases hsto k with ⟨p,zp,xp,enp,dp,p1,p2,p3,pk,p4,p5⟩ | ⟨_,p2⟩
   ·rw[b2,p5] at hσ
    cases hσ
   ·rw[p2,← b2,hσ] at hk1
    cases hk1
    rfl
 have hread:∀ k en b,lk si.sto k=some en→β k=some b→RE I w β lam b en:=by
  intro k en' b hk1 hk2
  obtain ⟨en'',hσ,_⟩:=hI.bdom k b hk2
  have:=agree k en' en'' hk1 hσ
  subst this
  exact hI.hread _ _ _ hσ hk2
 have hυ:∀ k sz rows,lk si.sto k=some (.uarr sz rows)→RU I w β lam k sz rows:=by
  intro k sz rows hk1
  have:∃ en'',σ k=some en'':=by
   rcases hPs k with ⟨q,z,x',en1,d,b0,b1,b2,b3,bk,b4,b5⟩ | ⟨b1,b2⟩
   ·exact ⟨_,b5⟩
   ·rcases hsto k with ⟨p,zp,xp,enp,dp,p1,p2,p3,pk,p4,p5⟩ | ⟨_,p2⟩
    ·exfalso
     rw[p4] at hk1
     cases hk1
     obtain ⟨hpi,hpn,hzp⟩:=pre p1
     obtain ⟨sp,xp',enp',q1,_,q3,_⟩:=hat p zp (by rw[List.getElem?_take,if_pos hpn]; exact hzp)
     rw[pre2 p2] at q1
     cases q1
     have:=(q3 (by simp)).2
     cases this
    ·exact ⟨_,by rw[b2,← p2]; exact hk1⟩
  obtain ⟨en'',hσ⟩:=this
  have:=agree k _ en'' hk1 hσ
  subst this
  exact hI.usto _ _ _ hσ
 have hnew:∀ d,o.dst=some d→lk si.sto (si.base+d)=none→σ (si.base+d)=none:=by
  intro d hd hn
  rcases hPs (si.base+d) with ⟨q,z,x',en1,d',b0,b1,b2,b3,bk,b4,b5⟩ | ⟨b1,b2⟩
  ·have hdd:d'=d:=by omega
   subst hdd
   have:=uniqd b0 hi b1 hao b3 (by rw[hdst]; exact hd)
   subst this
   exact absurd b4 hLi
  ·rcases hsto (si.base+d) with ⟨p,zp,xp,enp,dp,p1,p2,p3,pk,p4,p5⟩ | ⟨_,p2⟩
   ·rw[hn] at p4; cases p4
   ·rw[b2,← p2]; exact hn
 have hils:i<L.size:=by
  rw[hsz]
  exact (Array.getElem?_eq_some_iff.1 ho).1
 -- behind it
 have after:∀ {v:Value} {w':World} {I':Nat→Nat→Prop} {β':zR},Inv F (yd e (slot o.dst) (some x)) (tQ σ (o.dst.map fun _=>s.base+o.dst.getD 0) en) I' β' lam (a.put o.dst v) w' →
   Part F l n tr s (L.setIfInBounds i true) (a.put o.dst v) w':=by
  intro v w' I' β' hI'
  refine ⟨I',β',lam,_,_,hI',fun t=>?_,fun d t=>?_,fun k=>?_⟩
  ·by_cases hd:o.dst=some t
   ·refine .inl ⟨i,ao,x,en,hi,hao,hxi,by rw[hdst]; exact hd,(y4 hils).2 (.inr rfl),?_⟩
    rw[hd]; simp[yd,slot]
   ·have e1:yd e (slot o.dst) (some x) (0,t)=e (0,t):=by
     cases hdo:o.dst with
     | none=>rfl
     | some d =>
      simp only[yd,slot]
      rw[if_neg (fun h=>hd (by rw[hdo]; simp only[Prod.mk.injEq] at h; rw[h.2]))]
    rw[e1]
    rcases hPe t with ⟨q',z',x'',en'',b0,b1,b2,b3,b4,b5⟩ | ⟨b1,b2⟩
    ·exact .inl ⟨q',z',x'',en'',b0,b1,b2,b3,(y4 hils).2 (.inl b4),b5⟩
    ·refine .inr ⟨fun q z hq hz hLq=>?_,b2⟩
     rcases (y4 hils).1 hLq with hLq | rfl
     ·exact b1 q z hq hz hLq
     ·rw[hao] at hz
      cases hz
      rw[hdst]; exact hd
  ·rw[← hPo d t]
   cases o.dst with
   | none=>rfl
   | some d'=>simp[yd,slot]
  ·by_cases hd:(∃ d,o.dst=some d∧k=s.base+d)∧en≠none
   ·obtain ⟨⟨d,hd,hk'⟩,hen⟩:=hd
    cases hen':en with
    | none=>exact absurd hen' hen
    | some en0 =>
     refine .inl ⟨i,ao,x,en0,d,hi,hao,by rw[hxi,hen'],by rw[hdst]; exact hd,hk',(y4 hils).2 (.inr rfl),?_⟩
     rw[hd]; simp[tQ,yd,hk']
   ·have e1:(tQ σ (o.dst.map fun _=>s.base+o.dst.getD 0) en) k=σ k:=by
     cases hen':en with
     | none=>rfl
     | some en0 =>
      cases hdo:o.dst with
      | none=>rfl
      | some d =>
       simp only[tQ,yd,Option.map_some,Option.getD_some]
       rw[if_neg (fun h=>hd ⟨⟨d,hdo,h⟩,by rw[hen']; simp⟩)]
    rw[e1]
    rcases hPs k with ⟨q',z',x'',en'',d',b0,b1,b2,b3,bk,b4,b5⟩ | ⟨b1,b2⟩
    ·exact .inl ⟨q',z',x'',en'',d',b0,b1,b2,b3,bk,(y4 hils).2 (.inl b4),b5⟩
    ·refine .inr ⟨fun q z x' en' d' hq hz ht' hLq hdz hk'=>?_,b2⟩
     rcases (y4 hils).1 hLq with hLq | rfl
     ·exact b1 q z x' en' d' hq hz ht' hLq hdz hk'
     ·rw[hao] at hz
      cases hz
      rw[hxi] at ht'
      cases ht'
      cases hen':en with
      | none=>rfl
      | some en0=>exact absurd ⟨⟨d',by rw[← hdst]; exact hdz,hk'⟩,by rw[hen']; simp⟩ hd
 have run:Yields P (si.base+ao.dst.getD 0) ao.op (ao.xs.map (ev si)) (lk si.sto) x en→o.wp P a w Kr Q:=by
  intro hY
  rw[hdst] at hY
  refine DO h1 hE' (fun y hy=>?_) hread hυ (fun hn=>?_) hI.Isub (fun k b hk=>(hI.bnew k b hk).2.1) hI.hlm hY ?_
  ·cases y with
   | tmp t =>
    have ht:t∈o.looksAt ops:=by
     unfold Oper.looksAt
     refine List.mem_append_left _ (List.mem_filterMap.2 ⟨.tmp t,hy,rfl⟩)
    simp only[zm,ev]
    rw[hsame t ht]
    cases het:e (0,t) with
    | none=>exact yv _
    | some y' =>
     obtain ⟨v,g1,g2⟩:=hI.env (0,t) y' het
     have:a.eval (.tmp t)=v:=by
      simp only[z9.val] at g1
      simp[Act.eval,g1]
     rw[this]
     exact g2
   | const v=>exact Z7 v
   | global g=>exact uh _
   | func f =>
    simp only[zm,ev,Act.eval]
    exact .base (.fn _ _ _ rfl (by simp))
  ·rw[hd0] at hn
   rw[hd0]
   exact hI.nodom (hnew d0 hd0 hn)
  ·rintro x' en' v w' I' β' ⟨rfl,rfl⟩ hEff
   obtain ⟨β'',hI'⟩:=hI.eff hdok hEff (fun hen=>by
    have hn:=(hnone hen).1
    rw[hdst] at hn
    rw[hd0] at hn ⊢
    exact hnew d0 hd0 hn)
   rw[hbase] at hI'
   exact hk _ _ (after hI')
 have skip:x=.val undef∧en=none→Kr (a.put o.dst undef) w:=by
  rintro ⟨hx,hen⟩
  refine hk _ _ (after (I':=I) (β':=β) ?_)
  have:=hI.put hdok (x:=.val undef) (v:=undef) (uh _)
  rw[hx,hen]
  exact this
 -- the guard
 obtain ⟨g1,g2,g3⟩:=dV hg hI
 unfold tU at hstep
 cases hgd:ao.guard with
 | none =>
  rw[hgd] at hstep
  rw[g1 hgd]
  exact run hstep
 | some gb =>
  obtain ⟨g,b⟩:=gb
  rw[hgd] at hstep
  have hgl:g∈o.looksAt ops:=by
   rw[hgd] at hg
   unfold rF at hg
   split at hg
   ·cases hg
   ·rename_i j b' ho'
    split at hg
    ·rename_i d hd
     simp only[Option.some.injEq,Prod.mk.injEq] at hg
     obtain ⟨rfl,rfl⟩:=hg
     unfold Oper.looksAt
     refine List.mem_append_right _ ?_
     rw[ho']
     simp[hd]
    ·cases hg
  simp only at hstep
  split at hstep
  ·rename_i c hc
   have hc':=nu hc (by simp)
   rw[hsame g hgl] at hc'
   rw[g2 g b c hgd hc']
   by_cases ec:c=b
   ·subst ec
    simp only[beq_self_eq_true,if_true]
    exact run (hstep.1 rfl)
   ·have:(c == b)=false:=by simpa using ec
    rw[this]
    simp only[Bool.false_eq_true,if_false]
    exact skip (hstep.2 (SO ec))
  ·rename_i v hnb hv
   have hv':=nu hv (by simp)
   rw[hsame g hgl] at hv'
   rw[g3 g b v hgd hv' (fun c ec=>by subst ec; exact hnb c rfl)]
   simp only[Bool.false_eq_true,if_false]
   exact skip hstep
  ·exact hstep.elim
end
section
variable {P:Program} {F:z9} {Q:Exit→Act→World→Prop} {ops:Array Oper}
def tY (L:Array Bool):Nat:=L.toList.count false
theorem KN:∀ (l:List Bool) (i:Nat),l[i]?=some false→(l.set i true).count false+1=l.count false:=by
 intro l
 induction l with
 | nil=>intro i h; simp at h
 | cons b l ih =>
  intro i h
  cases i with
  | zero=>simp at h; subst h; simp
  | succ i =>
   simp at h
   have:=ih i h
   simp only[List.set_cons_succ,List.count_cons]
   omega
theorem Ti {L:Array Bool} {i:Nat} (hi:i<L.size) (h:¬ Ld L i):tY (L.setIfInBounds i true)+1=tY L:=by
 unfold tY
 rw[Array.toList_setIfInBounds]
 refine KN _ _ ?_
 unfold Ld at h
 have h1:L.toList[i]?=some L[i]:=by simp[hi]
 rw[h1]
 simp[hi] at h
 rw[h]
theorem YN {L:Array Bool} (h:tY L=0) {i:Nat} (hi:i<L.size):Ld L i:=by
 unfold tY at h
 have:=List.count_eq_zero.1 h
 unfold Ld
 simp only[hi,Array.getD_eq_getD_getElem?,Array.getElem?_eq_getElem,Option.getD_some]
 cases hb:L[i] with
 | true=>rfl
 | false=>exact absurd (by rw[← hb]; simp) this
theorem Jw {L:Array Bool} (h:tY L≠0):∃ i,i<L.size∧¬ Ld L i:=by
 unfold tY at h
 have:false∈L.toList:=by
  refine Classical.byContradiction fun hn=>h (List.count_eq_zero.2 hn)
 obtain ⟨i,hi,hv⟩:=List.getElem_of_mem this
 have hi':i<L.size:=by simpa using hi
 refine ⟨i,hi',?_⟩
 unfold Ld
 simp at hv
 simp[hi',hv]
theorem Qi {L:Array Bool} (hb:qO ops=true) (hsz:L.size=ops.size) (h:tY L≠0):Region.ready .any ops L≠[]:=by
 have hex:=Jw h
 -- the least that has not come up
 have:∀ n,(∃ i,i≤n∧i<L.size∧¬ Ld L i)→∃ i,i<L.size∧¬ Ld L i∧∀ j,j<i→Ld L j:=by
  intro n
  induction n with
  | zero =>
   rintro ⟨i,h1,h2,h3⟩
   exact ⟨i,h2,h3,fun j hj=>by omega⟩
  | succ n ih =>
   rintro ⟨i,h1,h2,h3⟩
   by_cases hc:∃ i,i≤n∧i<L.size∧¬ Ld L i
   ·exact ih hc
   ·refine ⟨i,h2,h3,fun j hj=>Classical.byContradiction fun hn=>hc ⟨j,by omega,by omega,hn⟩⟩
 obtain ⟨i0,g1,g2⟩:=hex
 obtain ⟨i,h1,h2,h3⟩:=this i0 ⟨i0,Nat.le_refl _,g1,g2⟩
 have hi:i<ops.size:=by omega
 have:i∈Region.ready .any ops L:=by
  refine mz.2 ⟨ops[i],by simp[hi],?_,fun e he hbd=>?_⟩
  ·unfold Ld at h2
   have hv:L[i]=false:=by simpa [h1] using h2
   simp[h1,hv]
  ·unfold qO at hb
   have:=List.all_eq_true.1 hb i (by simpa using hi)
   simp only[hi,Array.getElem?_eq_getElem] at this
   have:=Array.all_eq_true'.1 this e (by simpa using he)
   simp only[hbd,Bool.not_true,Bool.false_or,decide_eq_true_eq] at this
   exact h3 _ this
 intro hnil
 rw[hnil] at this
 cases this
theorem Y3 {L:Array Bool} {i:Nat} (hi:i<L.size) (h:L.getD i true=false):¬ Ld L i:=by
 unfold Ld
 have hv:L[i]=false:=by simpa [hi] using h
 simp[hi,hv]
theorem Yy {L:Array Bool} (hc:Closed ops L) (hsz:L.size=ops.size) {i:Nat} {o:Oper} (ho:ops[i]?=some o) (hd:∀ e∈o.after.toList,Region.binds .any e=true→Ld L e.on):Closed ops (L.setIfInBounds i true):=by
 have hi:i<L.size:=by rw[hsz]; exact (Array.getElem?_eq_some_iff.1 ho).1
 intro j q hq hLj e he hb
 rcases (y4 hi).1 hLj with h | rfl
 ·exact (y4 hi).2 (.inl (hc j q hq h e he hb))
 ·rw[ho] at hq
  cases hq
  exact (y4 hi).2 (.inl (hd e he hb))
theorem KU {l:List zi} {tr:List (AV × Option zb)} {s sn:St} {K:St→Prop} (hl:xU P F.N ops ops.toList=some (l.map (yl true))) (hb:qO ops=true)
  (hfree:∀ j,j<zO ops ops.size→gz P ops (zO ops ops.size) j=true) (htr:Trace P (l.take (zO ops ops.size)) s tr sn) (hrest:zj P (l.drop (zO ops ops.size)) sn K)
  (hk:∀ s' a' w',K s'→Holds F s' a' w'→Q .normal a' w') :
  ∀ (fuel:Nat) (L:Array Bool) (a:Act) (w:World),L.size=ops.size→Closed ops L→tY L=fuel →
   ((Part F l (zO ops ops.size) tr s L a w∧∀ j,zO ops ops.size≤j→¬ Ld L j) ∨
    ∃ i si,zO ops ops.size≤i∧(∀ j,j<i→Ld L j)∧(∀ j,i≤j→¬ Ld L j)∧Holds F si a w∧zj P (l.drop i) si K) →
   wpAny P .any ops Q fuel L a w:=by
 obtain ⟨hlen,hget0⟩:=tI _ _ hl
 have hlen':l.length=ops.size:=by simpa using hlen
 have hget:∀ (i:Nat) (o:Oper),ops.toList[i]?=some o→∃ ao,l[i]?=some ao∧v9 P F.N ops o=some (yl true ao):=fun i o h=>by
  obtain ⟨ao,h1,h2⟩:=hget0 i o h
  simp only[List.getElem?_map,Option.map_eq_some_iff] at h1
  obtain ⟨ao',h1,rfl⟩:=h1
  exact ⟨ao',h1,h2⟩
 have hpl:=cg ops ops.size
 generalize hn:zO ops ops.size=n at *
 -- where all of the first part have come up
 have turn:∀ {L:Array Bool} {a:Act} {w:World},Part F l n tr s L a w→(∀ j,j<n→Ld L j)→Holds F sn a w:=by
  rintro L a w ⟨I,β,lam,e,σ,hI,hPe,hPo,hPs⟩ hall
  have huq:∀ (i j:Nat) (x y:zi) (t:Nat),(l.take n)[i]?=some x→(l.take n)[j]?=some y→x.dst=some t→y.dst=some t→i=j:=by
   intro i j x y t h1 h2 h3 h4
   have g:∀ {p:Nat} {z:zi},(l.take n)[p]?=some z→p<n∧l[p]?=some z:=by
    intro p z hp
    rw[List.getElem?_take] at hp
    split at hp
    ·rename_i hpn; exact ⟨hpn,hp⟩
    ·cases hp
   obtain ⟨a1,a2⟩:=g h1
   obtain ⟨b1,b2⟩:=g h2
   have dstOf:∀ {q:Nat} {z:zi},l[q]?=some z→∃ oq,ops[q]?=some oq∧z.dst=oq.dst:=fun {q z} hz=>by
    have hlt:q<ops.size:=by
     have:=(List.getElem?_eq_some_iff.1 hz).1
     omega
    obtain ⟨ao',h1,h2⟩:=hget q ops[q] (by simp[hlt])
    rw[hz] at h1
    cases h1
    exact ⟨ops[q],by simp[hlt],(wK h2).2.2.1⟩
   obtain ⟨o1,c1,c2⟩:=dstOf a2
   obtain ⟨o2,d1,d2⟩:=dstOf b2
   obtain ⟨o3,_,_,e1,_,_,e2,_⟩:=pC (hfree j b1)
   rw[d1] at e1
   cases e1
   exact e2 t i o1 (by rw[← d2]; exact h4) a1 c1 (by rw[← c2]; exact h3)
  obtain ⟨henv,hsto⟩:=cU htr huq
  have mk1:∀ {q:Nat} {z:zi},q<n→l[q]?=some z→(l.take n)[q]?=some z:=fun {q z} hq hz=>by rw[List.getElem?_take,if_pos hq]; exact hz
  have g:∀ {p:Nat} {z:zi},(l.take n)[p]?=some z→p<n∧l[p]?=some z:=by
   intro p z hp
   rw[List.getElem?_take] at hp
   split at hp
   ·rename_i hpn; exact ⟨hpn,hp⟩
   ·cases hp
  have e1:e=sn.look:=by
   funext t
   obtain ⟨d,t⟩:=t
   cases d with
   | succ d =>
    rw[hPo d t]
    simp only[St.look,TP htr]
   | zero =>
    simp only[St.look]
    rcases hPe t with ⟨i,ao,x,en,b0,b1,b2,b3,b4,b5⟩ | ⟨b1,b2⟩
    ·rcases henv t with ⟨i',ao',x',en',c1,c2,c3,c4⟩ | ⟨c1,c2⟩
     ·have:=huq i i' ao ao' t (mk1 b0 b1) c1 b3 c3
      subst this
      rw[b2] at c2
      cases c2
      rw[b5,c4]
     ·exact absurd b3 (c1 i ao (mk1 b0 b1))
    ·rcases henv t with ⟨i',ao',x',en',c1,c2,c3,c4⟩ | ⟨c1,c2⟩
     ·obtain ⟨d1,d2⟩:=g c1
      exact absurd c3 (b1 i' ao' d1 d2 (hall _ d1))
     ·rw[b2,c2]
  have e2:σ=lk sn.sto:=by
   funext k
   rcases hPs k with ⟨i,ao,x,en,d,b0,b1,b2,b3,bk,b4,b5⟩ | ⟨b1,b2⟩
   ·rcases hsto k with ⟨i',ao',x',en',d',c1,c2,c3,ck,c4,_⟩ | ⟨c1,c2⟩
    ·have hdd:d=d':=by omega
     subst hdd
     have:=huq i i' ao ao' d (mk1 b0 b1) c1 b3 c3
     subst this
     rw[b2] at c2
     cases c2
     rw[b5,c4]
    ·have:=c1 i ao x _ d (mk1 b0 b1) b2 b3 bk
     cases this
   ·rcases hsto k with ⟨i',ao',x',en',d',c1,c2,c3,ck,c4,_⟩ | ⟨c1,c2⟩
    ·obtain ⟨d1,d2⟩:=g c1
     have:=b1 i' ao' x' _ d' d1 d2 c2 (hall _ d1) c3 ck
     cases this
    ·rw[b2,c2]
  exact ⟨I,β,lam,by rw[← e1,← e2]; exact hI⟩
 -- where all have come up
 have fin:∀ {i:Nat} {si:St} {a:Act} {w:World},ops.size≤i→Holds F si a w→zj P (l.drop i) si K→Q .normal a w:=by
  intro i si a w hi hH h
  have hnil:l.drop i=[]:=List.eq_nil_of_length_eq_zero (by simp; omega)
  rw[hnil] at h
  exact hk _ _ _ h hH
 intro fuel
 induction fuel with
 | zero =>
  intro L a w hsz hc hf h
  have hall:∀ j,j<ops.size→Ld L j:=fun j hj=>YN hf (by omega)
  refine ⟨?_,?_⟩
  ·refine List.eq_nil_iff_forall_not_mem.2 fun i hi=>?_
   obtain ⟨o,ho,h2,_⟩:=mz.1 hi
   have hlt:i<ops.size:=(Array.getElem?_eq_some_iff.1 ho).1
   exact Y3 (by omega) h2 (hall i hlt)
  ·rcases h with ⟨hP,hno⟩ | ⟨i,si,h1,h2,h3,h4,h5⟩
   ·have hn':n=ops.size:=by
     rcases Nat.lt_or_ge n ops.size with hlt | hge
     ·exact absurd (hall n hlt) (hno n (Nat.le_refl _))
     ·omega
    exact fin (i:=n) (by omega) (turn hP (fun j hj=>hall j (by omega))) hrest
   ·have:ops.size≤i:=by
     rcases Nat.lt_or_ge i ops.size with hlt | hge
     ·exact absurd (hall i hlt) (h3 i (Nat.le_refl _))
     ·exact hge
    exact fin this h4 h5
 | succ fuel ih =>
  intro L a w hsz hc hf h
  refine ⟨fun hnil=>absurd hnil (Qi hb hsz (by omega)),fun i hi=>?_⟩
  obtain ⟨o,ho,hL,hdep⟩:=mz.1 hi
  have hlt:i<ops.size:=(Array.getElem?_eq_some_iff.1 ho).1
  have hnl:=Y3 (L:=L) (by omega) hL
  have hleft:tY (L.setIfInBounds i true)=fuel:=by
   have:=Ti (L:=L) (by omega) hnl
   omega
  have hc':=Yy hc hsz ho hdep
  have hsz':(L.setIfInBounds i true).size=ops.size:=by simpa using hsz
  unfold wpOp
  rw[ho]
  simp only
  -- both ways of 'wanted'
  have both:(if Region.wanted o (yielded ops a.tmps) then o.wp P a w (wpAny P .any ops Q fuel (L.setIfInBounds i true)) Q else wpAny P .any ops Q fuel (L.setIfInBounds i true) (a.put o.dst undef) w) →
    (if Region.wanted o (yielded ops a.tmps) then o.wp P a w (wpAny P .any ops Q fuel (L.setIfInBounds i true)) Q∨(o.asks P a w∧LetsOut Q) else wpAny P .any ops Q fuel (L.setIfInBounds i true) (a.put o.dst undef) w):=by
   intro h
   split at h
   ·rename_i hw; rw[if_pos hw]; exact .inl h
   ·rename_i hw; rw[if_neg hw]; exact h
  refine both ?_
  -- the second part
  have second:∀ {si:St},n≤i→(∀ j,j<i→Ld L j)→(∀ j,i≤j→¬ Ld L j)→Holds F si a w→zj P (l.drop i) si K →
    (if Region.wanted o (yielded ops a.tmps) then o.wp P a w (wpAny P .any ops Q fuel (L.setIfInBounds i true)) Q else wpAny P .any ops Q fuel (L.setIfInBounds i true) (a.put o.dst undef) w):=by
   intro si h1 h2 h3 h4 h5
   obtain ⟨ao,hao,htro⟩:=hget i o (by simpa using ho)
   have hdrop:l.drop i=ao::l.drop (i+1):=by
    have hil:i<l.length:=by omega
    rw[List.drop_eq_getElem_cons hil]
    rw[List.getElem?_eq_getElem hil] at hao
    simp only[Option.some.injEq] at hao
    rw[hao]
   rw[hdrop] at h5
   simp only[zj] at h5
   refine nE htro h4 h5 fun s' a' w' hK hH=>ih _ _ _ hsz' hc' hleft (.inr ⟨i+1,s',by omega,fun j hj=>?_,fun j hj hLj=>?_,hH,hK⟩)
   ·rcases Nat.lt_or_ge j i with hji | hji
    ·exact (y4 (by omega)).2 (.inl (h2 j hji))
    ·exact (y4 (by omega)).2 (.inr (by omega))
   ·rcases (y4 (by omega)).1 hLj with h | h
    ·exact h3 j (by omega) h
    ·omega
  rcases h with ⟨hP,hno⟩ | ⟨q,si,h1,h2,h3,h4,h5⟩
  ·by_cases hin:i<n
   ·refine Ga hl hfree htr hsz hin ho hnl hdep hP fun a' w' hP'=>ih _ _ _ hsz' hc' hleft (.inl ⟨hP',fun j hj hLj=>?_⟩)
    rcases (y4 (by omega)).1 hLj with h | h
    ·exact hno j hj h
    ·omega
   ·have hw:waits ops i=true:=t0 ops ops.size i (by omega) hlt
    have hall:∀ j,j<i→Ld L j:=fun j hj=>pX hc ho hdep (jM hw hj)
    have hin':i=n:=by
     rcases Nat.lt_or_ge n i with hlt' | hge
     ·exact absurd (hall n hlt') (hno n (Nat.le_refl _))
     ·omega
    subst hin'
    exact second (Nat.le_refl _) hall hno (turn hP hall) hrest
  ·have hiq:i=q:=by
    rcases Nat.lt_trichotomy i q with hlt' | he | hgt
    ·exact absurd (h2 i hlt') hnl
    ·exact he
    ·have hw:waits ops i=true:=t0 ops ops.size i (by omega) hlt
     exact absurd (pX hc ho hdep (jM hw hgt)) (h3 q (Nat.le_refl _))
   subst hiq
   exact second h1 h2 h3 h4 h5
theorem S7 {id:Nat} {l:List zi} {s:St} {a:Act} {w:World} {K:St→Prop} (hl:xU P F.N ops ops.toList=some (l.map (yl true))) (hd:S6 P ops=true) (hH:Holds F s a w) (h:zj P l s K)
  (hk:∀ s' a' w',K s'→Holds F s' a' w'→Q .normal a' w'):(Code.region id ops true).wp P Q a w:=by
 unfold S6 at hd
 simp only[Bool.and_eq_true] at hd
 obtain ⟨⟨hb,hm⟩,hfree⟩:=hd
 have hfree':∀ j,j<zO ops ops.size→gz P ops (zO ops ops.size) j=true:=fun j hj=>List.all_eq_true.1 hfree j (by simpa using hj)
 have hE:∀ ao∈l.take (zO ops ops.size),isE ao.op=true:=by
  intro ao hao
  obtain ⟨i,hi⟩:=List.mem_iff_getElem?.1 hao
  rw[List.getElem?_take] at hi
  split at hi
  ·rename_i hin
   obtain ⟨hlen,hget⟩:=tI _ _ hl
   have hlt:i<ops.size:=by
    have:=(List.getElem?_eq_some_iff.1 hi).1
    simp only[List.length_map,Array.length_toList] at hlen
    omega
   obtain ⟨ao',h1,h2⟩:=hget i ops[i] (by simp[hlt])
   simp only[List.getElem?_map,Option.map_eq_some_iff] at h1
   obtain ⟨ao2,h1,rfl⟩:=h1
   rw[hi] at h1
   cases h1
   obtain ⟨o,op,xs,ho,htr,⟨hE,_⟩,_⟩:=pC (hfree' i hin)
   have ho':ops[i]?=some ops[i]:=by simp[hlt]
   rw[ho'] at ho
   cases ho
   obtain ⟨h3,_⟩:=wK h2
   rw[h3] at htr
   simp only[Option.some.injEq,Prod.mk.injEq] at htr
   have hE2:isE (yl true ao).op=true:=by rw[htr.1]; exact hE
   simp only[yl] at hE2
   cases hop:ao.op<;>rw[hop] at hE2<;>first | rfl | cases hE2
  ·cases hi
 rw[← List.take_append_drop (zO ops ops.size) l] at h
 obtain ⟨tr,sn,htr,hrest⟩:=Q3 _ _ hE h
 refine wp_region_any hm ?_
 have hL:∀ j,¬ Ld (Array.replicate ops.size false) j:=fun j h=>by
  unfold Ld at h
  by_cases hj:j<ops.size<;>simp[hj] at h
 refine KU hl hb hfree' htr hrest hk ops.size _ a _ (by simp) (fun i o ho h=>absurd h (hL i)) ?_ (.inl ⟨?_,fun j _=>hL j⟩)
 ·unfold tY
  simp
 ·obtain ⟨I,β,lam,hI⟩:=hH
  refine ⟨I,β,lam,s.look,lk s.sto,?_,fun t=>.inr ⟨fun i ao _ _ h=>absurd h (hL i),rfl⟩,fun d t=>rfl,fun k=>.inr ⟨fun i ao x en d _ _ _ h=>absurd h (hL i),rfl⟩⟩
  exact hI.grow (w':={w with drawn:=w.drawn+1}) ((Below.refl _ _).drew) (fun _ _ h=>h) (fun _ _ h=>.inl h)
end
def Same (s s':St):Prop:=s.look=s'.look∧lk s.sto=lk s'.sto∧s.base=s'.base
theorem Same.refl (s:St):Same s s:=⟨rfl,rfl,rfl⟩
theorem Same.symm {s s':St} (h:Same s s'):Same s' s:=⟨h.1.symm,h.2.1.symm,h.2.2.symm⟩
theorem Same.trans {s s' s'':St} (h:Same s s') (h':Same s' s''):Same s s'':=⟨h.1.trans h'.1,h.2.1.trans h'.2.1,h.2.2.trans h'.2.2⟩
theorem Holds.same {F:z9} {s s':St} {a:Act} {w:World} (h:Holds F s a w) (e:Same s s'):Holds F s' a w:=by
 obtain ⟨I,β,lam,hI⟩:=h
 exact ⟨I,β,lam,by rw[← e.1,← e.2.1]; exact hI⟩
theorem vb {s:St} {D:List Nat} {k:Nat}:(s.nm D).elem k=true↔∃ d,D.elem d=true∧k=s.base+d:=by
 simp only[St.nm,List.elem_eq_mem,decide_eq_true_eq,List.mem_map]
 constructor
 ·rintro ⟨d,h1,rfl⟩; exact ⟨d,h1,rfl⟩
 ·rintro ⟨d,h1,rfl⟩; exact ⟨d,h1,rfl⟩
theorem ws {s:St} {D:List Nat} {t:Nat}:lk (s.mask D).env t=if D.elem t=true then none else lk s.env t:=tv _ _ _
theorem yL {s:St} {D:List Nat} {k:Nat}:lk (s.mask D).sto k=if (s.nm D).elem k=true then none else lk s.sto k:=tv _ _ _
theorem JJ {s:St} {D:List Nat}:(s.mask D).base=s.base:=rfl
theorem YZ {s:St} {D:List Nat} {t:Nat}:(s.mask D).look (0,t)=if D.elem t=true then none else lk s.env t:=ws
theorem fP {s:St} {D:List Nat} {d t:Nat}:(s.mask D).look (d+1,t)=s.look (d+1,t):=rfl
theorem To {s:St} {D:List Nat} {k:Nat} {en:zb} (h:lk (s.mask D).sto k=some en):lk s.sto k=some en∧(s.nm D).elem k=false:=by
 rw[yL] at h
 split at h
 ·cases h
 ·rename_i h2; exact ⟨h,by simpa using h2⟩
theorem Same.of {s s':St} (h0:∀ t,lk s.env t=lk s'.env t) (h1:∀ d t,s.look (d+1,t)=s'.look (d+1,t)) (h2:∀ k,lk s.sto k=lk s'.sto k) (h3:s.base=s'.base):Same s s':=by
 refine ⟨funext fun t=>?_,funext h2,h3⟩
 obtain ⟨d,t⟩:=t
 cases d with
 | zero=>exact h0 t
 | succ d=>exact h1 d t
theorem RJ {s:St} {l d t:Nat}:(s.dg l).look (d+1,t)=(s.look (d+1,t)).map (dg l):=by
 have:=congrFun (tZ s l).1 (d+1,t)
 exact this
theorem K4 {s:St} {l t:Nat}:lk (s.dg l).env t=(lk s.env t).map (dg l):=sK _ _ _
theorem kW {s:St} {l k:Nat}:lk (s.dg l).sto k=(lk s.sto k).map (dgE l):=sK _ _ _
theorem gB {s:St} {D:List Nat} {l:Nat}:Same ((s.mask D).dg l) ((s.dg l).mask D):=by
 refine .of (fun t=>?_) (fun d t=>?_) (fun k=>?_) rfl
 ·rw[K4,ws,ws,K4]; split<;>rfl
 ·rw[RJ,fP,fP,RJ]
 ·rw[kW,yL,yL,kW]
  show Option.map (dgE l) (if (s.nm D).elem k=true then none else lk s.sto k)=if (s.nm D).elem k=true then none else _
  split<;>rfl
theorem Same.put {s s':St} (h:Same s s') {d:Option Nat} {x:AV}:Same (s.put d x) (s'.put d x):=by
 refine ⟨by rw[vN,vN,h.1],?_,?_⟩
 ·cases d<;>exact h.2.1
 ·cases d<;>exact h.2.2
theorem Same.new {s s':St} (h:Same s s') {d:Option Nat} {en:Option zb}:Same (s.new d en) (s'.new d en):=by
 cases d with
 | none=>cases en<;>exact h
 | some d=>cases en with
  | none=>exact h
  | some en =>
   refine ⟨by simp only[St.new]; rw[xa,h.1]; exact xa.symm,?_,h.2.2⟩
   funext k
   simp only[St.new,xS,h.2.1,h.2.2]
theorem Same.pt {s s':St} (h:Same s s') {k:Nat} {en:zb}:Same {s with sto:=pt s.sto k en} {s' with sto:=Am.pt s'.sto k en}:=by
 refine ⟨by rw[xa,h.1]; exact xa.symm,?_,h.2.2⟩
 funext j
 simp only[xS,h.2.1]
theorem Same.dg {s s':St} (h:Same s s') {l:Nat}:Same (s.dg l) (s'.dg l):=by
 refine ⟨by rw[(tZ s l).1,(tZ s' l).1,h.1],?_,h.2.2⟩
 rw[(tZ s l).2,(tZ s' l).2,h.2.1]
theorem Uj {s:St} {D:List Nat} {j:Nat} {en:zb} (hj:(s.nm D).elem j=false):Same {(s.mask D) with sto:=pt (s.mask D).sto j en} (St.mask {s with sto:=pt s.sto j en} D):=by
 refine .of (fun t=>rfl) (fun d t=>rfl) (fun k=>?_) rfl
 show lk (Am.pt (s.mask D).sto j en) k=lk (del (s.nm D) (Am.pt s.sto j en)) k
 rw[xS,yL,tv,xS]
 by_cases h:j=k
 ·subst h; rw[if_pos rfl,hj]; simp
 ·rw[if_neg h,if_neg h]
theorem RP {s:St} {D D':List Nat} {d:Nat} {x:AV} {en:Option zb} (hD:∀ t,D'.elem t=true↔D.elem t=true∧t≠d) (hf:lk s.sto (s.base+d)=none) :
  Same (((s.mask D).put (some d) x).new (some d) en) (((s.put (some d) x).new (some d) en).mask D'):=by
 refine .of (fun t=>?_) (fun q t=>?_) (fun k=>?_) (by cases en<;>rfl)
 ·have e1:lk (((s.mask D).put (some d) x).new (some d) en).env t=if d=t then some x else lk (s.mask D).env t:=by
   cases en<;>exact xS _ _ _ _
  have e2:lk ((s.put (some d) x).new (some d) en).env t=if d=t then some x else lk s.env t:=by
   cases en<;>exact xS _ _ _ _
  rw[e1,ws,ws,e2]
  by_cases h:d=t
  ·subst h
   have:D'.elem d=false:=by
    cases hd:D'.elem d with
    | false=>rfl
    | true=>exact absurd rfl ((hD d).1 hd).2
   rw[this]; simp
  ·rw[if_neg h,if_neg h]
   have:D'.elem t=D.elem t:=by
    rw[Bool.eq_iff_iff,hD t]
    exact ⟨fun h=>h.1,fun h'=>⟨h',fun e=>h e.symm⟩⟩
   rw[this]
 ·cases en<;>rfl
 ·have hb:∀ (s:St),((s.put (some d) x).new (some d) en).base=s.base:=fun s=>by cases en<;>rfl
  have e1:∀ (s:St),lk ((s.put (some d) x).new (some d) en).sto k=match en with
    | some e=>if s.base+d=k then some e else lk s.sto k
    | none=>lk s.sto k:=fun s=>by
   cases en with
   | none=>rfl
   | some e=>exact xS _ _ _ _
  rw[e1,yL (D:=D'),e1]
  have hn:∀ (D:List Nat),((s.put (some d) x).new (some d) en).nm D=s.nm D:=fun D=>by simp only[St.nm,hb]
  rw[hn,JJ]
  have hk:s.base+d≠k→(s.nm D').elem k=(s.nm D).elem k:=by
   intro hne
   rw[Bool.eq_iff_iff,vb,vb]
   constructor
   ·rintro ⟨t,h1,rfl⟩; exact ⟨t,((hD t).1 h1).1,rfl⟩
   ·rintro ⟨t,h1,rfl⟩; exact ⟨t,(hD t).2 ⟨h1,fun e=>hne (by rw[e])⟩,rfl⟩
  have hd0:(s.nm D').elem (s.base+d)=false:=by
   cases hc:(s.nm D').elem (s.base+d) with
   | false=>rfl
   | true =>
    obtain ⟨t,h1,h2⟩:=vb.1 hc
    have:t=d:=by omega
    subst this
    exact absurd rfl ((hD t).1 h1).2
  by_cases h:s.base+d=k
  ·subst h
   rw[hd0,yL]
   cases en with
   | none=>simp[hf]
   | some e=>simp
  ·rw[yL,hk h]
   cases en with
   | none=>simp
   | some e=>simp only[h,if_false]
section
variable {P:Program} {F:z9} {I:Nat→Nat→Prop} {β:zR} {lam:ya} {a:Act} {w:World} {s:St} {D D':List Nat} {K:St→Prop}
theorem f7 (hI:Inv F (s.mask D).look (lk (s.mask D).sto) I β lam a w) {k b:Nat} (hβ:β k=some b):(s.nm D).elem k=false:=by
 obtain ⟨en,h,_⟩:=hI.bdom k b hβ
 exact (To h).2
theorem m8 (hI:Inv F (s.mask D).look (lk (s.mask D).sto) I β lam a w) {x:AV} {v:Value} (h:R I w β lam x v) {k:Nat}
  (hx:(∃ off,x=.ptr k off)∨(∃ sz i off,x=.eptr k sz i off)∨(∃ sz off len,x=.sl k sz off len)):(s.nm D).elem k=false:=by
 cases h with
 | base h =>
  rcases hx with ⟨_,rfl⟩ | ⟨_,_,_,rfl⟩ | ⟨_,_,_,rfl⟩<;>cases h
 | ptr k' off b hb =>
  rcases hx with ⟨_,h⟩ | ⟨_,_,_,h⟩ | ⟨_,_,_,h⟩<;>cases h
  exact f7 hI hb
 | eptr k' sz i off b hb =>
  rcases hx with ⟨_,h⟩ | ⟨_,_,_,h⟩ | ⟨_,_,_,h⟩<;>cases h
  exact f7 hI hb
 | sl k' sz off len cap b av hb hc ha =>
  rcases hx with ⟨_,h⟩ | ⟨_,_,_,h⟩ | ⟨_,_,_,h⟩<;>cases h
  exact f7 hI hb
 | own=>rcases hx with ⟨_,h⟩ | ⟨_,_,_,h⟩ | ⟨_,_,_,h⟩<;>cases h
 | fn=>rcases hx with ⟨_,h⟩ | ⟨_,_,_,h⟩ | ⟨_,_,_,h⟩<;>cases h
 | us=>rcases hx with ⟨_,h⟩ | ⟨_,_,_,h⟩ | ⟨_,_,_,h⟩<;>cases h
 | up=>rcases hx with ⟨_,h⟩ | ⟨_,_,_,h⟩ | ⟨_,_,_,h⟩<;>cases h
 | tuple=>rcases hx with ⟨_,h⟩ | ⟨_,_,_,h⟩ | ⟨_,_,_,h⟩<;>cases h
 | mp=>rcases hx with ⟨_,h⟩ | ⟨_,_,_,h⟩ | ⟨_,_,_,h⟩<;>cases h
 | litNil=>rcases hx with ⟨_,h⟩ | ⟨_,_,_,h⟩ | ⟨_,_,_,h⟩<;>cases h
 | lit=>rcases hx with ⟨_,h⟩ | ⟨_,_,_,h⟩ | ⟨_,_,_,h⟩<;>cases h
 | raw=>rcases hx with ⟨_,h⟩ | ⟨_,_,_,h⟩ | ⟨_,_,_,h⟩<;>cases h
theorem b9 (hU:∀ t,D.elem t=true→uI (lk s.sto (s.base+t))=false) {k sz:Nat} {rows:List (List AV)} (h:lk s.sto k=some (.uarr sz rows)):(s.nm D).elem k=false:=by
 cases hc:(s.nm D).elem k with
 | false=>rfl
 | true =>
  obtain ⟨t,h1,rfl⟩:=vb.1 hc
  have:=hU t h1
  rw[h] at this
  cases this
theorem lH {σ σ':Nat→Option zb} {sz:Nat} {x:AV} {k:List (List AV)→Prop} (h:y6 σ sz x k)
  (hs:∀ j a b c,x=.sl j a b c→σ' j=σ j) (hu:∀ j sz rows,σ j=some (.uarr sz rows)→σ' j=σ j):y6 σ' sz x k:=by
 unfold y6 at h ⊢
 split at h
 ·exact h
 ·rename_i j sz' off len
  rw[hs j _ _ _ rfl]; exact h
 ·rename_i j sz' off len
  refine ⟨h.1,?_⟩
  have h2:=h.2
  split at h2
  ·rename_i sz'' rows e
   rw[hu j _ _ e,e]; exact h2
  ·exact h2.elim
 ·exact h
 ·exact h
 ·exact h.elim
theorem eP {σ σ':Nat→Option zb} {sz:Nat} {x:AV} {k:List (List AV)→Prop} (h:y9 σ sz x k)
  (hs:∀ j a b c,x=.sl j a b c→σ' j=σ j) (hu:∀ j sz rows,σ j=some (.uarr sz rows)→σ' j=σ j):y9 σ' sz x k:=by
 unfold y9 at h ⊢
 split at h
 ·rename_i j sz' off len
  refine ⟨h.1,?_⟩
  have h2:=h.2
  split at h2
  ·rename_i sz'' rows e
   rw[hu j _ _ e,e]; exact h2
  ·exact h2.elim
 ·exact h
 ·exact lH h hs hu
theorem jO {σ:Nat→Option zb} {sz:Nat} {x:AV} {k k':List (List AV)→Prop} (hm:∀ r,k r→k' r) (h:y6 σ sz x k):y6 σ sz x k':=by
 unfold y6 at h ⊢
 split at h
 ·exact ⟨h.1,hm _ h.2⟩
 ·refine ⟨h.1,?_⟩
  have h2:=h.2
  split at h2
  ·exact ⟨h2.1,h2.2.1,hm _ h2.2.2⟩
  ·exact h2.elim
 ·refine ⟨h.1,?_⟩
  have h2:=h.2
  split at h2
  ·exact ⟨h2.1,h2.2.1,h2.2.2.1,hm _ h2.2.2.2⟩
  ·exact h2.elim
 ·exact ⟨h.1,hm _ h.2⟩
 ·exact ⟨h.1,h.2.1,hm _ h.2.2⟩
 ·exact h.elim
theorem dx {σ:Nat→Option zb} {sz:Nat} {x:AV} {k k':List (List AV)→Prop} (hm:∀ r,k r→k' r) (h:y9 σ sz x k):y9 σ sz x k':=by
 unfold y9 at h ⊢
 split at h
 ·refine ⟨h.1,?_⟩
  have h2:=h.2
  split at h2
  ·exact ⟨h2.1,h2.2.1,hm _ h2.2.2⟩
  ·exact h2.elim
 ·exact ⟨h.1,hm _ h.2⟩
 ·exact jO hm h
theorem Pi {σ σ':Nat→Option zb} {sz:Nat} {x:AV} {k k':List (List AV)→Prop} (h:gu σ sz x k)
  (hs:∀ j a b c,x=.sl j a b c→σ' j=σ j) (hu:∀ j sz rows,σ j=some (.uarr sz rows)→σ' j=σ j) (hm:∀ r,k r→k' r):gu σ' sz x k':=by
 cases x<;>first | exact h.elim | (simp only[gu] at h ⊢; exact jO hm (lH h hs hu))
def Left (s:St) (dst:Option Nat) (D':List Nat) (K:St→Prop) (s':St):Prop :=
 ∃ A,K A∧Same s' (A.mask D')∧A.base=s.base∧∀ k,lk s.sto k=none→(∀ d,dst=some d→k≠s.base+d)→lk A.sto k=none
def LU:AOp→Bool
 | .appendU _ _=>true
 | .callM _ _=>false
 | op=>LS op
theorem jz (h:∀ t,D'.elem t=D.elem t):Same (s.mask D) (s.mask D'):=by
 refine .of (fun t=>?_) (fun q t=>rfl) (fun k=>?_) rfl
 ·rw[ws,ws,h]
 ·rw[yL,yL]
  have:(s.nm D').elem k=(s.nm D).elem k:=by
   rw[Bool.eq_iff_iff,vb,vb]
   simp only[h]
  rw[this]
theorem sJ {d:Nat} (hD:∀ t,D'.elem t=true↔D.elem t=true∧t≠d) (hf:lk s.sto (s.base+d)=none) {x:AV} {en:Option zb} {A:St}
  (hA:∀ k,lk s.sto k=none→lk A.sto k=none) (hb:A.base=s.base) {m:St} (hm:Same m (A.mask D)) (hK:K ((A.put (some d) x).new (some d) en)) :
  Left s (some d) D' K ((m.put (some d) x).new (some d) en):=by
 refine ⟨_,hK,(hm.put.new).trans (RP hD (hA _ (by rw[hb]; exact hf))),by cases en<;>exact hb,fun k hk hne=>?_⟩
 have h1:=hA k hk
 have h2:=hne d rfl
 cases en with
 | none=>exact h1
 | some e =>
  show lk (Am.pt A.sto (A.base+d) e) k=none
  rw[xS,if_neg (by rw[hb]; exact fun e=>h2 e.symm)]
  exact h1
theorem acr {xs:List Opd} (hR:∀ x∈xs,∃ v,R I w β lam (ev (s.mask D) x) v) (hev:∀ x∈xs,ev (s.mask D) x=ev s x) {x:AV} (h:x∈xs.map (ev s)):∃ v,R I w β lam x v:=by
 obtain ⟨y,h1,rfl⟩:=List.mem_map.1 h
 rw[← hev y h1]
 exact hR y h1
theorem AW {ao:zi} (hI:Inv F (s.mask D).look (lk (s.mask D).sto) I β lam a w)
  (hR:∀ x∈ao.xs,∃ v,R I w β lam (ev (s.mask D) x) v) (hev:∀ x∈ao.xs,ev (s.mask D) x=ev s x)
  (hD:∀ t,D'.elem t=true↔D.elem t=true∧ao.dst≠some t) (hU:∀ t,D.elem t=true→uI (lk s.sto (s.base+t))=false)
  (hf:∀ d,ao.dst=some d→lk s.sto (s.base+d)=none) (hsp:LU ao.op=true) (h:yx P ao s K):yx P ao (s.mask D) (Left s ao.dst D' K):=by
 have heq:ao.xs.map (ev (s.mask D))=ao.xs.map (ev s):=List.map_congr_left hev
 have hmR:∀ {x:AV},x∈ao.xs.map (ev s)→∃ v,R I w β lam x v:=fun h=>acr hR hev h
 have hun:∀ {k:Nat},(s.nm D).elem k=false→lk (s.mask D).sto k=lk s.sto k:=fun h=>by rw[yL,h]; rfl
 have huo:∀ (j sz:Nat) (rows:List (List AV)),lk s.sto j=some (.uarr sz rows)→lk (s.mask D).sto j=lk s.sto j:=fun j sz rows h=>hun (b9 hU h)
 have hsl:∀ {x:AV},x∈ao.xs.map (ev s)→∀ (j a b c:Nat),x=.sl j a b c→lk (s.mask D).sto j=lk s.sto j:=fun hx j p q r e=>by
  obtain ⟨v,hv⟩:=hmR hx
  exact hun (m8 hI hv (.inr (.inr ⟨p,q,r,e⟩)))
 have hnone:∀ {k:Nat},lk s.sto k=none→lk (s.mask D).sto k=none:=fun h=>by rw[yL,h]; simp
 have hDs:∀ {d:Nat},ao.dst=some d→∀ t,D'.elem t=true↔D.elem t=true∧t≠d:=fun {d} hd t=>by
  rw[hD t,hd]
  simp only[ne_eq,Option.some.injEq]
  exact ⟨fun h=>⟨h.1,fun e=>h.2 e.symm⟩,fun h=>⟨h.1,fun e=>h.2 e.symm⟩⟩
 have hDn:ao.dst=none→∀ t,D'.elem t=D.elem t:=fun hd t=>by
  rw[Bool.eq_iff_iff,hD t,hd]
  simp
 -- a variable is written
 have wr:∀ {j:Nat} {e0 en:zb},lk s.sto j=some e0→(s.nm D).elem j=false→ao.dst=none→K {s with sto:=pt s.sto j en}→Left s ao.dst D' K {(s.mask D) with sto:=pt (s.mask D).sto j en}:=by
  intro j e0 en h0 hj hd hK
  refine ⟨_,hK,(Uj hj).trans (jz (hDn hd)),rfl,fun k hk _=>?_⟩
  show lk (Am.pt s.sto j en) k=none
  rw[xS,if_neg (fun e=>by subst e; rw[h0] at hk; cases hk)]
  exact hk
 unfold yx at h ⊢
 rw[heq]
 cases hop:ao.op<;>rw[hop] at h hsp<;>first | (exfalso; exact Bool.false_ne_true hsp) | skip
 case store n =>
  simp only at h ⊢
  unfold pB at h ⊢
  split at h
  ·rename_i j off x hx
   have hj:(s.nm D).elem j=false:=by
    obtain ⟨v,hv⟩:=hmR (x:=.ptr j off) (by rw[hx]; simp)
    exact m8 hI hv (.inl ⟨_,rfl⟩)
   try simp only[hx]
   split at h
   ·rename_i cells cs h1 h2
    obtain ⟨c1,c2,c3,hK⟩:=h
    rw[hun hj,h1,h2]
    exact ⟨c1,c2,c3,wr h1 hj c3 hK⟩
   ·exact h.elim
  ·rename_i j sz i off x hx
   have hj:(s.nm D).elem j=false:=by
    obtain ⟨v,hv⟩:=hmR (x:=.eptr j sz i off) (by rw[hx]; simp)
    exact m8 hI hv (.inr (.inl ⟨_,_,_,rfl⟩))
   try simp only[hx]
   split at h
   ·rename_i sz' rows cs h1 h2
    obtain ⟨c0,c1,c2,c3,c4,c5,hK⟩:=h
    rw[hun hj,h1,h2]
    refine ⟨c0,c1,c2,c3,c4,c5,?_⟩
    split at hK
    ·rename_i r hr
     try simp only[hr]
     exact wr h1 hj c5 hK
    ·exact hK.elim
   ·exact h.elim
  ·rename_i l sz i off x hx
   try simp only[hx]
   split at h
   ·rename_i sz' rows cs h1 h2
    obtain ⟨c0,c1,c2,c5,hK⟩:=h
    rw[huo _ _ _ h1,h1,h2]
    refine ⟨c0,c1,c2,c5,?_⟩
    split at hK
    ·rename_i r hr
     try simp only[hr]
     exact wr h1 (b9 hU h1) c5 hK
    ·exact hK.elim
   ·exact h.elim
  ·exact h.elim
 case append sz by_ =>
  simp only at h ⊢
  unfold xH at h ⊢
  split at h
  ·rename_i sz1 m rows1 x hx
   try simp only[hx]
   refine jO (fun rows2 hk=>?_) (lH h (hsl (by rw[hx]; simp)) huo)
   obtain ⟨c1,c2,c3,hk⟩:=hk
   refine ⟨c1,c2,c3,?_⟩
   split at hk
   ·rename_i d hd
    obtain ⟨b1,b2,hK⟩:=hk
    rw[hd]
    refine ⟨b1,hnone b2,?_⟩
    exact sJ (A:=s.dg (s.base+d)) (en:=none) (hDs hd) b2 (fun k hk=>by rw[kW,hk]; rfl) rfl gB hK
   ·rename_i l d hd
    obtain ⟨b1,b2,hK⟩:=hk
    rw[hd]
    refine ⟨b1,hnone b2,?_⟩
    exact sJ (A:=s.dg l) (en:=none) (hDs hd) (hf d hd) (fun k hk=>by rw[kW,hk]; rfl) rfl gB hK
   ·exact hk.elim
  ·rename_i b hx
   try simp only[hx]
   obtain ⟨c1,hk⟩:=h
   refine ⟨c1,?_⟩
   split at hk
   ·rename_i d hd
    obtain ⟨b2,hK⟩:=hk
    rw[hd]
    refine ⟨hnone b2,?_⟩
    exact sJ (A:=s.dg (s.base+d)) (en:=none) (hDs hd) b2 (fun k hk=>by rw[kW,hk]; rfl) rfl gB hK
   ·exact hk.elim
  ·exact h.elim
 case copy sz =>
  simp only at h ⊢
  unfold fz at h ⊢
  split at h
  ·rename_i j sz1 off len x hx
   try simp only[hx]
   obtain ⟨c0,c1,h⟩:=h
   refine ⟨c0,c1,?_⟩
   have hj:(s.nm D).elem j=false:=by
    obtain ⟨v,hv⟩:=hmR (x:=.sl j sz1 off len) (by rw[hx]; simp)
    exact m8 hI hv (.inr (.inr ⟨_,_,_,rfl⟩))
   refine Pi h (hsl (by rw[hx]; simp)) huo fun rows2 hk=>?_
   ·skip
    ·skip
     split at hk
     ·rename_i sz' rows h1
      obtain ⟨b1,b2,b3,hK⟩:=hk
      rw[hun hj,h1]
      refine ⟨b1,b2,b3,?_⟩
      cases hd:ao.dst with
      | none =>
       rw[hd] at hK
       have:=wr h1 hj hd hK
       rw[hd] at this
       exact this
      | some d =>
       rw[hd] at hK
       refine sJ (en:=none) (A:={s with sto:=pt s.sto j _}) (hDs hd) (hf d hd) (fun k hk=>?_) rfl (Uj hj) hK
       show lk (Am.pt s.sto j _) k=none
       rw[xS,if_neg (fun e=>by subst e; rw[h1] at hk; cases hk)]
       exact hk
     ·exact hk.elim
  ·exact h.elim
 case appendU sz by_ =>
  simp only at h ⊢
  unfold yQ at h ⊢
  split at h
  ·rename_i sz0 rows1 x hx
   try simp only[hx]
   refine dx (fun rows2 hk=>?_) (eP h (hsl (by rw[hx]; simp)) huo)
   obtain ⟨c1,c2,c3,hk⟩:=hk
   refine ⟨c1,c2,c3,?_⟩
   split at hk
   ·rename_i d hd
    obtain ⟨b1,b2,hK⟩:=hk
    rw[hd]
    refine ⟨b1,hnone b2,?_⟩
    exact sJ (A:=s.dg (s.base+d)) (hDs hd) b2 (fun k hk=>by rw[kW,hk]; rfl) rfl gB hK
   ·exact hk.elim
  ·rename_i l sz1 off len x hx
   refine dx (fun rows2 hk=>?_) (eP h (hsl (by rw[hx]; simp)) huo)
   obtain ⟨c1,c2,c3,hk⟩:=hk
   refine ⟨c1,c2,c3,?_⟩
   split at hk
   ·rename_i sz' rows1 d h1 hd
    obtain ⟨b1,b2,b3,b4,hK⟩:=hk
    rw[huo _ _ _ h1,h1,hd]
    refine ⟨b1,b2,b3,b4,?_⟩
    have hj:=b9 hU h1
    refine sJ (en:=none) (A:={(s.dg l) with sto:=pt (s.dg l).sto l _}) (hDs hd) (hf d hd) (fun k hk=>?_) rfl ((gB.pt).trans (Uj hj)) hK
    show lk (Am.pt (s.dg l).sto l _) k=none
    rw[xS,if_neg (fun e=>by subst e; rw[h1] at hk; cases hk),kW,hk]
    rfl
   ·exact hk.elim
  ·exact h.elim
 case mapset t =>
  simp only at h ⊢
  unfold qM at h ⊢
  split at h
  rotate_left
  ·exact h.elim
  rename_i j y x hx
  have hj:(s.nm D).elem j=false:=by
   obtain ⟨v,hv⟩:=hmR (x:=.mp j) (by rw[hx]; simp)
   obtain ⟨b,hb,_⟩:=hv.mp_inv
   exact f7 hI hb
  try simp only[hx]
  split at h
  rotate_left
  ·exact h.elim
  rename_i es clock kv v h1 h2 h3
  rw[hun hj,h1,h2,h3]
  dsimp only at h ⊢
  split at h
  rotate_left
  ·exact h.elim
  rename_i es' clock' h4
  obtain ⟨c1,hK⟩:=h
  try rw[h4]
  exact ⟨c1,wr h1 hj c1 hK⟩
 case nilS neg =>
  simp only at h ⊢
  unfold jt at h ⊢
  split at h
  ·rename_i x hx
   try simp only[hx]
   split at h
   ·rename_i n hn
    have pu:∀ v,K (s.put ao.dst v)→Left s ao.dst D' K ((s.mask D).put ao.dst v):=by
     intro v hK
     cases hd:ao.dst with
     | none =>
      rw[hd] at hK
      exact ⟨_,hK,jz (hDn hd),rfl,fun k hk _=>hk⟩
     | some d =>
      rw[hd] at hK
      exact sJ (en:=none) (hDs hd) (hf d hd) (fun k hk=>hk) rfl (Same.refl _) hK
    exact ⟨fun e=>⟨pu _ (h.1 e).1,pu _ (h.1 e).2⟩,fun e=>pu _ (h.2 e)⟩
   ·exact h.elim
  ·exact h.elim
theorem GZ {ao:zi} (hI:Inv F (s.mask D).look (lk (s.mask D).sto) I β lam a w)
  (hR:∀ x∈ao.xs,∃ v,R I w β lam (ev (s.mask D) x) v) (hev:∀ x∈ao.xs,ev (s.mask D) x=ev s x) (hg:∀ g b,ao.guard=some (g,b)→D.elem g=false)
  (hD:∀ t,D'.elem t=true↔D.elem t=true∧ao.dst≠some t) (hU:∀ t,D.elem t=true→uI (lk s.sto (s.base+t))=false)
  (hf:∀ d,ao.dst=some d→lk s.sto (s.base+d)=none) (hsp:LU ao.op=true) (h:xo P ao s K):xo P ao (s.mask D) (Left s ao.dst D' K):=by
 have run:yx P ao s K→yx P ao (s.mask D) (Left s ao.dst D' K):=AW hI hR hev hD hU hf hsp
 have skip:K (s.put ao.dst (.val undef))→Left s ao.dst D' K ((s.mask D).put ao.dst (.val undef)):=by
  intro hK
  cases hd:ao.dst with
  | none =>
   rw[hd] at hK
   refine ⟨_,hK,jz (fun t=>?_),rfl,fun k hk _=>hk⟩
   rw[Bool.eq_iff_iff,hD t,hd]
   simp
  | some d =>
   rw[hd] at hK
   refine sJ (en:=none) (fun t=>?_) (hf d hd) (fun k hk=>hk) rfl (Same.refl _) hK
   rw[hD t,hd]
   simp only[ne_eq,Option.some.injEq]
   exact ⟨fun h=>⟨h.1,fun e=>h.2 e.symm⟩,fun h=>⟨h.1,fun e=>h.2 e.symm⟩⟩
 unfold xo at h ⊢
 cases hgd:ao.guard with
 | none=>rw[hgd] at h; exact run h
 | some gb =>
  obtain ⟨g,b⟩:=gb
  rw[hgd] at h
  have e:(s.mask D).get g=s.get g:=by simp only[St.get,ws,hg g b hgd]; rfl
  simp only[e] at h ⊢
  split at h
  ·rename_i c hc
   exact ⟨fun e=>run (h.1 e),fun e=>skip (h.2 e)⟩
  ·exact skip h
  ·exact h.elim
theorem fp {α:Type} (l:List (Nat × α)):del [] l=l:=by
 induction l with
 | nil=>rfl
 | cons p l ih=>obtain ⟨q,y⟩:=p; simp[del,ih]
def Mr (s:St) (dst:Option Nat) (D' ds:List Nat) (K:St→Prop) (s':St):Prop :=
 ∃ A,K A∧Same s' (A.mask D')∧A.base=s.base∧∀ d∈ds,lk s.sto (s.base+d)=none→dst≠some d→lk A.sto (s.base+d)=none
theorem rm {σ:List (Nat × zb)} {b d:Nat}:∀ {ds:List Nat},sE σ b ds→d∈ds→lk σ (b+d)=none
 | [],_,h=>by cases h
 | e::ds,h,hd=>by
  rcases List.mem_cons.1 hd with rfl | hd
  ·exact h.1
  ·exact rm h.2 hd
theorem dP {s:St} {D ds:List Nat} (hf:sE s.sto s.base ds) (hs:∀ t,D.elem t=true→t∈ds):Same {s with env:=del D s.env} (s.mask D):=by
 refine .of (fun t=>rfl) (fun q t=>rfl) (fun k=>?_) rfl
 rw[yL]
 split
 ·rename_i h
  obtain ⟨d,h1,rfl⟩:=vb.1 h
  exact rm hf (hs d h1)
 ·rfl
theorem afN.same {f:FuncId} {args:List AV} {s t:St} {K:AV→St→Prop} (e:Same s t) (h:afN P f args s K):afN P f args t K:=by
 intro F a w I β lam hI
 rw[← e.1,← e.2.1] at hI
 exact h F a w I β lam hI
theorem acO {ao:zi} {f:FuncId} {ds:List Nat} (hop:ao.op=.callM f ds) (hev:∀ x∈ao.xs,ev (s.mask D) x=ev s x) (hg:∀ g b,ao.guard=some (g,b)→D.elem g=false)
  (hD:∀ t,D'.elem t=true↔D.elem t=true∧ao.dst≠some t) (hsub:∀ t,D.elem t=true→t∈ds) (hds:∀ d,ao.dst=some d→d∈ds)
  (hf:∀ d,ao.dst=some d→lk s.sto (s.base+d)=none) (h:xo P ao s K):xo P {ao with op:=.callI f} (s.mask D) (Mr s ao.dst D' ds K):=by
 have heq:ao.xs.map (ev (s.mask D))=ao.xs.map (ev s):=List.map_congr_left hev
 have hDn:ao.dst=none→∀ t,D'.elem t=D.elem t:=fun hd t=>by
  rw[Bool.eq_iff_iff,hD t,hd]
  simp
 have hDs:∀ {d:Nat},ao.dst=some d→∀ t,D'.elem t=true↔D.elem t=true∧t≠d:=fun {d} hd t=>by
  rw[hD t,hd]
  simp only[ne_eq,Option.some.injEq]
  exact ⟨fun h=>⟨h.1,fun e=>h.2 e.symm⟩,fun h=>⟨h.1,fun e=>h.2 e.symm⟩⟩
 have putM:∀ {A m:St} {x:AV},Same m (A.mask D)→(∀ d,ao.dst=some d→lk A.sto (A.base+d)=none)→Same (m.put ao.dst x) ((A.put ao.dst x).mask D'):=by
  intro A m x hm hfA
  cases hd:ao.dst with
  | none=>exact hm.trans (jz fun t=>hDn hd t)
  | some d=>exact (hm.put (d:=some d)).trans (RP (s:=A) (en:=none) (hDs hd) (hfA d hd))
 have run:yx P ao s K→yx P {ao with op:=.callI f} (s.mask D) (Mr s ao.dst D' ds K):=by
  intro h
  unfold yx at h ⊢
  rw[hop] at h
  simp only at h ⊢
  obtain ⟨h1,h⟩:=h
  refine ⟨h1,?_⟩
  rw[heq]
  unfold uF
  rcases h with ⟨h2,h3⟩ | h3
  ·have h4:=(h3 D).same (dP h2 hsub)
   intro F a w I β lam hI vs hvs hR
   refine Calls.mono (h4 F a w I β lam hI vs hvs hR) ?_
   rintro e w' ⟨v,rfl,r,s',I',β',lam',⟨A,rfl,hb,hfr,hK⟩,hI',hR'⟩
   refine ⟨v,rfl,r,{A with env:=del D A.env},I',β',lam',⟨hb,?_⟩,hI',hR'⟩
   refine ⟨A.put ao.dst r,hK,putM (dP hfr hsub) fun d hd=>rm hfr (hds d hd),by cases ao.dst<;>exact hb,fun d hd _ _=>?_⟩
   have:=rm hfr hd
   rw[hb] at this
   cases ao.dst<;>exact this
  ·have h4:=h3 D hev
   intro F a w I β lam hI vs hvs hR
   refine Calls.mono (h4 F a w I β lam hI vs hvs hR) ?_
   rintro e w' ⟨v,rfl,r,s',I',β',lam',⟨A,rfl,hb,hfr,hK⟩,hI',hR'⟩
   refine ⟨v,rfl,r,A.mask D,I',β',lam',⟨hb,?_⟩,hI',hR'⟩
   refine ⟨A.put ao.dst r,hK,putM (Same.refl _) fun d hd=>(by rw[hb]; exact hfr d (hf d hd)),by cases ao.dst<;>exact hb,fun d hd hl _=>?_⟩
   have:=hfr d hl
   cases ao.dst<;>exact this
 have skip:K (s.put ao.dst (.val undef))→Mr s ao.dst D' ds K ((s.mask D).put ao.dst (.val undef)):=fun hK =>
  ⟨_,hK,putM (Same.refl _) hf,by cases ao.dst<;>rfl,fun d hd h _=>by cases ao.dst<;>exact h⟩
 unfold xo at h ⊢
 cases hgd:ao.guard with
 | none=>rw[hgd] at h; exact run h
 | some gb =>
  obtain ⟨g,b⟩:=gb
  rw[hgd] at h
  have e:(s.mask D).get g=s.get g:=by simp only[St.get,ws,hg g b hgd]; rfl
  simp only[e] at h ⊢
  split at h
  ·rename_i c hc
   exact ⟨fun e=>run (h.1 e),fun e=>skip (h.2 e)⟩
  ·exact skip h
  ·exact h.elim
end
section
variable {P:Program} {F:z9} {Q:Exit→Act→World→Prop} {ops:Array Oper}
theorem RW {s:St} {d:Option Nat} {x:AV} {en:Option zb} {t:Nat} (h:d≠some t):lk ((s.put d x).new d en).env t=lk s.env t:=by
 rw[Uk]
 cases d with
 | none=>rfl
 | some d =>
  simp only[yd,slot]
  rw[if_neg (fun e=>h (by simp only[Prod.mk.injEq] at e; rw[e.2]))]
  rfl
theorem EZ {s:St} {d:Nat} {x:AV} {en:Option zb}:lk ((s.put (some d) x).new (some d) en).env d=some x:=by
 rw[Uk]
 simp[yd,slot]
theorem ZB {s:St} {d:Option Nat} {x:AV} {en:Option zb} {k:Nat} (h:∀ t,d=some t→k≠s.base+t):lk ((s.put d x).new d en).sto k=lk s.sto k:=by
 rw[nA.2]
 cases d with
 | none=>cases en<;>rfl
 | some d =>
  cases en with
  | none=>rfl
  | some en=>simp only[tQ,yd,Option.map_some,Option.getD_some]; rw[if_neg (h d rfl)]
theorem E0 {s:St} {d:Nat} {x:AV} {en:Option zb} (h:en=none→lk s.sto (s.base+d)=none):lk ((s.put (some d) x).new (some d) en).sto (s.base+d)=en:=by
 rw[nA.2]
 cases en with
 | none=>exact h rfl
 | some en=>simp[tQ,yd]
theorem rT {l:List zi} {s s':St} {tr:List (AV × Option zb)} (h:Trace P l s tr s'):∀ {t:Nat},(∀ ao∈l,ao.dst≠some t)→lk s'.env t=lk s.env t:=by
 induction h with
 | nil s=>intro t _; rfl
 | cons h hn ht ih=>intro t hd; rw[ih (fun ao h=>hd ao (by simp[h])),RW (hd _ (by simp))]
theorem tJ {l:List zi} {s s':St} {tr:List (AV × Option zb)} (h:Trace P l s tr s'):∀ {k:Nat},(∀ ao∈l,∀ d,ao.dst=some d→k≠s.base+d)→lk s'.sto k=lk s.sto k:=by
 induction h with
 | nil s=>intro t _; rfl
 | cons h hn ht ih=>intro t hd; rw[ih (fun ao h d hd'=>by rw[kO]; exact hd ao (by simp[h]) d hd'),ZB (hd _ (by simp))]
theorem XF {l:List zi} {s s':St} {tr:List (AV × Option zb)} (h:Trace P l s tr s'):∀ {k:Nat} {e:zb},lk s.sto k=some e→lk s'.sto k=some e:=by
 induction h with
 | nil s=>intro k e h; exact h
 | @cons ao l s s' x en tr h hn ht ih =>
  intro k e hk
  refine ih ?_
  by_cases hen:en=none
  ·rw[nA.2,hen]
   cases ao.dst<;>exact hk
  ·rw[ZB (fun t ht e'=>?_)]
   ·exact hk
   ·have:=(hn hen).1
    rw[ht] at this
    rw[e'] at hk
    simp only[Option.getD_some] at this
    rw[this] at hk; cases hk
theorem P2:∀ {l1 l2:List zi} {ao:zi} {s s':St} {tr:List (AV × Option zb)},Trace P (l1++ao::l2) s tr s' →
  ∃ tr1 si x en tr2,Trace P l1 s tr1 si∧tU P ao si x en∧(en≠none→lk si.sto (si.base+ao.dst.getD 0)=none∧uI en=false)∧Trace P l2 ((si.put ao.dst x).new ao.dst en) tr2 s':=by
 intro l1
 induction l1 with
 | nil =>
  intro l2 ao s s' tr h
  cases h with
  | cons h hn ht=>exact ⟨_,_,_,_,_,.nil s,h,hn,ht⟩
 | cons b l1 ih =>
  intro l2 ao s s' tr h
  cases h with
  | cons h hn ht =>
   obtain ⟨tr1,si,x,en,tr2,h1,h2,h3,h4⟩:=ih ht
   exact ⟨_,si,x,en,tr2,.cons h hn h1,h2,h3,h4⟩
theorem Jd {ao:zi} {S Z:St} {D D':List Nat} {d:Nat} {x:AV} {en:Option zb} {a:Act} {w:World} {o:Oper} {Kr:Act→World→Prop}
  (htr:v9 P F.N ops o=some ao) (hE:isE ao.op=true) (hd:ao.dst=some d) (hH:Holds F (Z.mask D) a w) (hb:S.base=Z.base)
  (hstep:tU P ao S x en) (henv:∀ t,t∈o.looksAt ops→lk S.env t=lk Z.env t∧D.elem t=false) (hsto:∀ k e,lk S.sto k=some e→lk Z.sto k=some e)
  (hmem:D.elem d=true) (hD':∀ t,D'.elem t=true↔D.elem t=true∧ao.dst≠some t) (hzx:lk Z.env d=some x) (hze:lk Z.sto (Z.base+d)=en)
  (hU:∀ t,D.elem t=true→uI (lk Z.sto (Z.base+t))=false) (hk:∀ a' w',Holds F (Z.mask D') a' w'→Kr a' w') :
  if Region.wanted o (yielded ops a.tmps) then o.wp P a w Kr Q else Kr (a.put o.dst undef) w:=by
 obtain ⟨h1,hg,hdst,hdok⟩:=wK htr
 have hdo:o.dst=some d:=by rw[← hdst]; exact hd
 obtain ⟨I,β,lam,hI⟩:=hH
 have hD0:D'.elem d=false:=by
  cases hc:D'.elem d with
  | false=>rfl
  | true=>exact absurd hd ((hD' d).1 hc).2
 have hDt:∀ t,t≠d→D'.elem t=D.elem t:=fun t ht=>by
  rw[Bool.eq_iff_iff,hD' t,hd]
  simp only[ne_eq,Option.some.injEq]
  exact ⟨fun h=>h.1,fun h=>⟨h,fun e=>ht e.symm⟩⟩
 have hn0:(Z.nm D).elem (Z.base+d)=true:=vb.2 ⟨d,hmem,rfl⟩
 have hσd:lk (Z.mask D).sto (Z.base+d)=none:=by rw[yL,hn0]; rfl
 have hsame:∀ t,t∈o.looksAt ops→lk S.env t=(Z.mask D).look (0,t):=fun t ht=>by
  obtain ⟨e1,e2⟩:=henv t ht
  rw[YZ,e2,e1]; rfl
 have hread:∀ k en b,lk S.sto k=some en→β k=some b→RE I w β lam b en:=by
  intro k en' b hk1 hk2
  obtain ⟨en'',hσ,_⟩:=hI.bdom k b hk2
  have h2:=(To hσ).1
  rw[hsto k en' hk1] at h2
  cases h2
  exact hI.hread _ _ _ hσ hk2
 have hυ:∀ k sz rows,lk S.sto k=some (.uarr sz rows)→RU I w β lam k sz rows:=by
  intro k sz rows hk1
  have h2:=hsto _ _ hk1
  refine hI.usto k sz rows ?_
  rw[yL,b9 hU h2]
  exact h2
 -- behind it
 have after:∀ {v:Value} {w':World} {I':Nat→Nat→Prop} {β':zR},Inv F (yd (Z.mask D).look (slot o.dst) (some x)) (tQ (lk (Z.mask D).sto) (o.dst.map fun _=>Z.base+o.dst.getD 0) en) I' β' lam (a.put o.dst v) w' →
   Holds F (Z.mask D') (a.put o.dst v) w':=by
  intro v w' I' β' hI'
  refine ⟨I',β',lam,?_⟩
  have e1:(Z.mask D').look=yd (Z.mask D).look (slot o.dst) (some x):=by
   funext t
   obtain ⟨q,t⟩:=t
   rw[hdo]
   cases q with
   | succ q=>simp[yd,slot,fP]
   | zero =>
    simp only[yd,slot,YZ]
    by_cases ht:t=d
    ·subst ht; rw[hD0,if_pos rfl]; simpa using hzx
    ·have hne:¬ (((0,t):Nat × Nat)=(0,d)):=fun e=>ht (by simp only[Prod.mk.injEq] at e; exact e.2)
     rw[if_neg hne,hDt t ht]
  have e2:lk (Z.mask D').sto=tQ (lk (Z.mask D).sto) (o.dst.map fun _=>Z.base+o.dst.getD 0) en:=by
   funext k
   rw[hdo]
   have hd0:(Z.nm D').elem (Z.base+d)=false:=by
    cases hc:(Z.nm D').elem (Z.base+d) with
    | false=>rfl
    | true =>
     obtain ⟨t,h1,h2⟩:=vb.1 hc
     have:t=d:=by omega
     subst this
     rw[hD0] at h1; cases h1
   by_cases hkd:k=Z.base+d
   ·subst hkd
    rw[yL,hd0]
    cases en with
    | none=>simp only[tQ,hσd]; simpa using hze
    | some e=>simp only[tQ,yd,Option.map_some,Option.getD_some,if_true]; simpa using hze
   ·have hkk:(Z.nm D').elem k=(Z.nm D).elem k:=by
     rw[Bool.eq_iff_iff,vb,vb]
     constructor
     ·rintro ⟨t,h1,rfl⟩; exact ⟨t,((hD' t).1 h1).1,rfl⟩
     ·rintro ⟨t,h1,rfl⟩; exact ⟨t,by rw[hDt t (fun e=>hkd (by rw[e]))]; exact h1,rfl⟩
    rw[yL,hkk,← yL]
    cases en with
    | none=>rfl
    | some e=>simp only[tQ,yd,Option.map_some,Option.getD_some]; rw[if_neg hkd]
  rw[e1,e2]
  exact hI'
 have run:Yields P (S.base+ao.dst.getD 0) ao.op (ao.xs.map (ev S)) (lk S.sto) x en→o.wp P a w Kr Q:=by
  intro hY
  rw[hdst] at hY
  refine DO h1 hE (fun y hy=>?_) hread hυ (fun _=>?_) hI.Isub (fun k b hk=>(hI.bnew k b hk).2.1) hI.hlm hY ?_
  ·cases y with
   | tmp t =>
    have ht:t∈o.looksAt ops:=by
     unfold Oper.looksAt
     refine List.mem_append_left _ (List.mem_filterMap.2 ⟨.tmp t,hy,rfl⟩)
    simp only[zm,ev]
    rw[hsame t ht]
    cases het:(Z.mask D).look (0,t) with
    | none=>exact yv _
    | some y' =>
     obtain ⟨v,g1,g2⟩:=hI.env (0,t) y' het
     have:a.eval (.tmp t)=v:=by
      simp only[z9.val] at g1
      simp[Act.eval,g1]
     rw[this]
     exact g2
   | const v=>exact Z7 v
   | global g=>exact uh _
   | func f =>
    simp only[zm,ev,Act.eval]
    exact .base (.fn _ _ _ rfl (by simp))
  ·rw[hdo,hb]
   exact hI.nodom hσd
  ·rintro x' en' v w' I' β' ⟨rfl,rfl⟩ hEff
   obtain ⟨β'',hI'⟩:=hI.eff hdok hEff (fun _=>by rw[hdo,hb]; exact hσd)
   rw[hb] at hI'
   exact hk _ _ (after hI')
 have skip:x=.val undef∧en=none→Kr (a.put o.dst undef) w:=by
  rintro ⟨hx,hen⟩
  refine hk _ _ (after (I':=I) (β':=β) ?_)
  have:=hI.put hdok (x:=.val undef) (v:=undef) (uh _)
  rw[hx,hen]
  exact this
 -- the guard
 obtain ⟨g1,g2,g3⟩:=dV hg hI
 unfold tU at hstep
 cases hgd:ao.guard with
 | none =>
  rw[hgd] at hstep
  rw[g1 hgd]
  exact run hstep
 | some gb =>
  obtain ⟨g,b⟩:=gb
  rw[hgd] at hstep
  have hgl:g∈o.looksAt ops:=by
   rw[hgd] at hg
   unfold rF at hg
   split at hg
   ·cases hg
   ·rename_i j b' ho'
    split at hg
    ·rename_i d hd
     simp only[Option.some.injEq,Prod.mk.injEq] at hg
     obtain ⟨rfl,rfl⟩:=hg
     unfold Oper.looksAt
     refine List.mem_append_right _ ?_
     rw[ho']
     simp[hd]
    ·cases hg
  simp only at hstep
  split at hstep
  ·rename_i c hc
   have hc':=nu hc (by simp)
   rw[hsame g hgl] at hc'
   rw[g2 g b c hgd hc']
   by_cases ec:c=b
   ·subst ec
    simp only[beq_self_eq_true,if_true]
    exact run (hstep.1 rfl)
   ·have:(c == b)=false:=by simpa using ec
    rw[this]
    simp only[Bool.false_eq_true,if_false]
    exact skip (hstep.2 (SO ec))
  ·rename_i v hnb hv
   have hv':=nu hv (by simp)
   rw[hsame g hgl] at hv'
   rw[g3 g b v hgd hv' (fun c ec=>by subst ec; exact hnb c rfl)]
   simp only[Bool.false_eq_true,if_false]
   exact skip hstep
  ·exact hstep.elim
end
section
variable {P:Program} {F:z9} {Q:Exit→Act→World→Prop} {ops:Array Oper} {l:List zi} {n:Nat} {B:Array Nat} {sp0:List Nat}
theorem YU {n i:Nat} (h:YT ops n i=true):∃ o,ops[i]?=some o ∧
  (∀ (d j:Nat) (q:Oper),o.dst=some d→j<n→ops[j]?=some q→q.dst=some d→j=i) ∧
  (∀ (t j:Nat) (q:Oper),t∈o.looksAt ops→j<n→ops[j]?=some q→q.dst=some t→j<i∧∃ e∈o.after.toList,e.on=j∧Region.binds .any e=true):=by
 unfold YT at h
 split at h
 ·cases h
 ·rename_i o ho
  simp only[Bool.and_eq_true] at h
  obtain ⟨h2,h3⟩:=h
  refine ⟨o,ho,fun d j q hd hj hq hqd=>?_,fun t j q ht hj hq hqd=>?_⟩
  ·rw[hd] at h2
   have:=List.all_eq_true.1 h2 j (by simpa using hj)
   simp only[hq,Option.map_some,Option.getD_some,hqd,bne_self_eq_false,Bool.or_false,beq_iff_eq] at this
   exact this
  ·have:=List.all_eq_true.1 (List.all_eq_true.1 h3 t ht) j (by simpa using hj)
   simp only[hq,Option.map_some,Option.getD_some,hqd,bne_self_eq_false,Bool.false_or,Bool.and_eq_true,decide_eq_true_eq] at this
   refine ⟨this.1,?_⟩
   obtain ⟨e,he,heq⟩:=Array.any_eq_true'.1 this.2
   simp only[Bool.and_eq_true,beq_iff_eq] at heq
   exact ⟨e,by simpa using he,heq.1,heq.2⟩
structure Mix (P:Program) (N:Nat) (ops:Array Oper) (l:List zi) (n:Nat) (B:Array Nat) (sp0:List Nat):Prop where
 hl:xU P N ops ops.toList=some (l.map unM)
 hn:n≤ops.size
 hB:B=Region.before ops
 hs:sp0=pS l n
 hb:qO ops=true
 hph:Dl ops B sp0 n=true
 hlook:∀ i,i<n→YT ops n i=true
 hfree:∀ i,i<n→X9 (opAt l i)=true
 hsp:∀ p∈sp0,LS (opAt l p).op=true
 hseq:qa B sp0 0 sp0=true
 hds:∀ (i:Nat) f ds,(opAt l i).op=.callM f ds→ds=vn l n
theorem aau {x:zi}:(unM x).dst=x.dst:=by unfold unM; split<;>rfl
theorem abT {x:zi}:(unM x).xs=x.xs:=by unfold unM; split<;>rfl
theorem Fu {x:zi}:(unM x).guard=x.guard:=by unfold unM; split<;>rfl
theorem gM {x:zi} (h:∀ f ds,x.op≠.callM f ds):unM x=x:=by
 unfold unM
 split
 ·rename_i f ds e; exact absurd e (h f ds)
 ·rfl
theorem acY {x:zi} (h:isE x.op=true):unM x=x:=gM fun f ds e=>by rw[e] at h; cases h
theorem jJ {x:zi} {f:FuncId} {ds:List Nat} (h:x.op=.callM f ds):unM x={x with op:=.call f}:=by
 unfold unM; rw[h]
variable (M:Mix P F.N ops l n B sp0)
include M
theorem Mix.at {i:Nat} {o:Oper} (ho:ops[i]?=some o):v9 P F.N ops o=some (unM (opAt l i))∧l[i]?=some (opAt l i):=by
 obtain ⟨hlen,hget⟩:=tI _ _ M.hl
 obtain ⟨ao,h1,h2⟩:=hget i o (by simpa using ho)
 rw[List.getElem?_map,Option.map_eq_some_iff] at h1
 obtain ⟨y,h1,rfl⟩:=h1
 have:opAt l i=y:=by simp[opAt,h1]
 rw[this]
 exact ⟨h2,h1⟩
theorem Mix.op {i:Nat} (hi:i<n):∃ o,ops[i]?=some o∧v9 P F.N ops o=some (unM (opAt l i))∧(opAt l i).dst=o.dst:=by
 have hlt:i<ops.size:=Nat.lt_of_lt_of_le hi M.hn
 have ho:ops[i]?=some ops[i]:=by simp[hlt]
 obtain ⟨h1,_⟩:=M.at ho
 exact ⟨_,ho,h1,by rw[← aau]; exact (wK h1).2.2.1⟩
theorem Mix.len:l.length=ops.size:=by
 obtain ⟨hlen,_⟩:=tI _ _ M.hl
 simpa using hlen
theorem Mix.uniq {i j t:Nat} (hi:i<n) (hj:j<n) (h1:(opAt l i).dst=some t) (h2:(opAt l j).dst=some t):i=j:=by
 obtain ⟨oi,a1,_,a3⟩:=M.op hi
 obtain ⟨oj,b1,_,b3⟩:=M.op hj
 obtain ⟨o,c1,c2,_⟩:=YU (M.hlook j hj)
 rw[b1] at c1
 cases c1
 exact c2 t i oi (by rw[← b3]; exact h2) hi a1 (by rw[← a3]; exact h1)
theorem Mix.look {i j t:Nat} {o:Oper} (hi:i<n) (hj:j<n) (ho:ops[i]?=some o) (ht:t∈o.looksAt ops) (hd:(opAt l j).dst=some t) :
  j<i∧∃ e∈o.after.toList,e.on=j∧Region.binds .any e=true:=by
 obtain ⟨oj,b1,_,b3⟩:=M.op hj
 obtain ⟨o',c1,_,c3⟩:=YU (M.hlook i hi)
 rw[ho] at c1
 cases c1
 exact c3 t j oj ht hj b1 (by rw[← b3]; exact hd)
theorem Mix.ph {i:Nat} {o:Oper} (hi:i<n) (ho:ops[i]?=some o) {e:Edge} (he:e∈o.after.toList) (hb:Region.binds .any e=true):phase B sp0 e.on≤phase B sp0 i:=by
 have h:=M.hph
 unfold Dl at h
 have:=List.all_eq_true.1 h i (by simpa using hi)
 simp only[ho] at this
 have:=Array.all_eq_true'.1 this e (by simpa using he)
 simpa [hb] using this
theorem Mix.mem_sp {p:Nat}:p∈sp0↔p<n∧isE (opAt l p).op=false:=by
 rw[M.hs]
 simp[pS]
theorem Mix.bits {L:Array Bool} (hc:Closed ops L) {i:Nat} {o:Oper} (ho:ops[i]?=some o) (hr:∀ e∈o.after.toList,Region.binds .any e=true→Ld L e.on) {j:Nat}
  (hj:(B.getD i 0).testBit j=true):Ld L j:=pX hc ho hr (by rw[← M.hB]; exact hj)
theorem Mix.bitsL {L:Array Bool} (hc:Closed ops L) {i:Nat} (hi:i<n) (hL:Ld L i) {j:Nat} (hj:(B.getD i 0).testBit j=true):Ld L j:=by
 obtain ⟨o,ho,_⟩:=M.op hi
 exact M.bits hc ho (hc i o ho hL) hj
omit M
theorem ZD {done rest:List Nat} {L:Array Bool} {i:Nat} (hs:sp0=done++rest) (hrest:∀ p∈rest,¬ Ld L p) (bits:∀ j,(B.getD i 0).testBit j=true→Ld L j):phase B sp0 i≤done.length:=by
 unfold phase
 rw[hs,List.filter_append]
 have:rest.filter (fun p=>(B.getD i 0).testBit p)=[]:=List.filter_eq_nil_iff.2 fun p hp hb=>hrest p hp (bits p hb)
 rw[this,List.append_nil]
 exact List.length_filter_le _ _
theorem ZQ:∀ {l1 l2:List Nat} {k p:Nat},qa B sp0 k (l1++p::l2)=true→phase B sp0 p=k+l1.length:=by
 intro l1
 induction l1 with
 | nil=>intro l2 k p h; simp only[List.nil_append,qa,Bool.and_eq_true,beq_iff_eq] at h; simpa using h.1
 | cons q l1 ih =>
  intro l2 k p h
  simp only[List.cons_append,qa,Bool.and_eq_true] at h
  rw[ih h.2]
  simp; omega
def unD (l:List zi) (n:Nat) (L:Array Bool):List Nat:=(List.range n).filterMap fun i=>if L.getD i false=true then none else (opAt l i).dst
theorem tK {L:Array Bool} {t:Nat}:(unD l n L).elem t=true↔∃ i,i<n∧¬ Ld L i∧(opAt l i).dst=some t:=by
 simp only[unD,List.elem_eq_mem,decide_eq_true_eq,List.mem_filterMap,List.mem_range]
 constructor
 ·rintro ⟨i,h1,h2⟩
  split at h2
  ·cases h2
  ·rename_i h3; exact ⟨i,h1,h3,h2⟩
 ·rintro ⟨i,h1,h2,h3⟩
  have h2':¬ (L.getD i false=true):=h2
  exact ⟨i,h1,by rw[if_neg h2']; exact h3⟩
include M in
theorem Mp {L:Array Bool} {i:Nat} (hi:i<n) (hs:i<L.size):∀ t,(unD l n (L.setIfInBounds i true)).elem t=true↔(unD l n L).elem t=true∧(opAt l i).dst≠some t:=by
 intro t
 rw[tK,tK]
 constructor
 ·rintro ⟨j,h1,h2,h3⟩
  rw[y4 hs,not_or] at h2
  exact ⟨⟨j,h1,h2.1,h3⟩,fun e=>h2.2 (M.uniq h1 hi h3 e)⟩
 ·rintro ⟨⟨j,h1,h2,h3⟩,h4⟩
  refine ⟨j,h1,?_,h3⟩
  rw[y4 hs,not_or]
  exact ⟨h2,fun e=>h4 (by rw[← e]; exact h3)⟩
def T9 (P:Program) (A:St) (ao:zi):Prop :=
 ∃ d x en,ao.dst=some d∧lk A.env d=some x∧lk A.sto (A.base+d)=en∧uI en=false∧tU P ao {A with sto:=del [A.base+d] A.sto} x en
theorem aaM {rst:List zi} {A:St} {K:St→Prop} {ao:zi} (h:xo P (rj ao) A fun s=>zj P rst s K):T9 P A ao∧zj P rst A K:=by
 obtain ⟨dst,op,xs,g⟩:=ao
 have run:∀ {K':St→Prop},dN P op A dst K' (xs.map (ev A))→(∃ d x en,dst=some d∧lk A.env d=some x∧lk A.sto (A.base+d)=en∧uI en=false ∧
   Yields P (A.base+d) op (xs.map (ev A)) (lk (del [A.base+d] A.sto)) x en)∧K' A:=by
  intro K' h
  unfold dN at h
  cases dst with
  | some d =>
   obtain ⟨x,en,⟨h1,h2,h3⟩,h4,h5⟩:=fD h
   refine ⟨⟨d,x,en,rfl,h1,h2,?_,h5⟩,h3⟩
   by_cases e:en=none
   ·rw[e]; rfl
   ·exact (h4 e).2
  | none=>exact h.elim
 have same:∀ {K':St→Prop},fA A dst K'→(∃ d,dst=some d∧lk A.env d=some (.val undef)∧lk A.sto (A.base+d)=none)∧K' A:=by
  intro K' h
  unfold fA at h
  cases dst with
  | some d=>exact ⟨⟨d,rfl,h.1,h.2.1⟩,h.2.2⟩
  | none=>exact h.elim
 cases g with
 | none =>
  simp only[rj] at h
  unfold xo at h
  simp only at h
  unfold yx at h
  obtain ⟨⟨d,x,en,rfl,h1,h2,h3,h4⟩,h5⟩:=run h
  exact ⟨⟨d,x,en,rfl,h1,h2,h3,by unfold tU; exact h4⟩,h5⟩
 | some gb =>
  obtain ⟨g,b⟩:=gb
  simp only[rj] at h
  unfold xo at h
  simp only at h
  unfold yx at h
  simp only at h
  split at h
  ·rename_i c hc
   by_cases e:c=b
   ·obtain ⟨⟨d,x,en,rfl,h1,h2,h3,h4⟩,h5⟩:=run (h.1 e)
    refine ⟨⟨d,x,en,rfl,h1,h2,h3,?_⟩,h5⟩
    unfold tU
    have hc':St.get {A with sto:=del [A.base+d] A.sto} g=.val (.bool c):=hc
    simp only
    rw[hc']
    exact ⟨fun _=>h4,fun e2=>by subst e; cases c<;>cases e2⟩
   ·have e':c=!b:=by cases c<;>cases b<;>simp_all
    obtain ⟨⟨d,rfl,h1,h2⟩,h5⟩:=same (h.2 e')
    refine ⟨⟨d,_,none,rfl,h1,h2,rfl,?_⟩,h5⟩
    unfold tU
    have hc':St.get {A with sto:=del [A.base+d] A.sto} g=.val (.bool c):=hc
    simp only
    rw[hc']
    exact ⟨fun h=>absurd h e,fun _=>⟨trivial,trivial⟩⟩
  ·rename_i v hnb hv
   obtain ⟨⟨d,rfl,h1,h2⟩,h5⟩:=same h
   refine ⟨⟨d,_,none,rfl,h1,h2,rfl,?_⟩,h5⟩
   unfold tU
   have hc':St.get {A with sto:=del [A.base+d] A.sto} g=.val v:=hv
   simp only
   rw[hc']
   cases v<;>first | exact ⟨trivial,trivial⟩ | exact absurd rfl (hnb _)
  ·exact h.elim
theorem Bi {rst:List zi} {A:St} {K:St→Prop}:∀ (is:List Nat),zj P (is.map (fun i=>rj (opAt l i))++rst) A K →
  (∀ i∈is,T9 P A (opAt l i))∧zj P rst A K:=by
 intro is
 induction is with
 | nil=>intro h; exact ⟨by simp,h⟩
 | cons i is ih =>
  intro h
  simp only[List.map_cons,List.cons_append,zj] at h
  obtain ⟨h1,h2⟩:=aaM h
  obtain ⟨h6,h7⟩:=ih h2
  refine ⟨fun j hj=>?_,h7⟩
  rcases List.mem_cons.1 hj with rfl | hj
  ·exact h1
  ·exact h6 j hj
def XA (B:Array Nat) (sp0:List Nat) (l:List zi) (n k:Nat):List Nat→List zi
 | []=>l.drop n
 | p::sp=>opAt l p::((S2 B sp0 l n (k+1) p).map (fun i=>rj (opAt l i))++nF B sp0 l n (k+1) sp)
theorem PE {k:Nat} {sp:List Nat}:nF B sp0 l n k sp=(wD B sp0 l n k).map (opAt l)++XA B sp0 l n k sp:=by cases sp<;>rfl
structure MPI (P:Program) (F:z9) (ops:Array Oper) (l:List zi) (n:Nat) (B:Array Nat) (sp0:List Nat) (K:St→Prop) (done rest:List Nat) (A Z:St) (rst:List zi) (L:Array Bool) (a:Act) (w:World):Prop where
 sp:sp0=done++rest
 ex:∀ p∈done,Ld L p
 nx:∀ p∈rest,¬ Ld L p
 out:∀ j,n≤j→¬ Ld L j
 tr:∃ tr,Trace P ((wD B sp0 l n done.length).map (opAt l)) A tr Z
 hrst:rst.map (yl true)=XA B sp0 l n done.length rest
 hK:zj P rst Z K
 chk:∀ i,i<n→isE (opAt l i).op=true→phase B sp0 i<done.length→¬ Ld L i→T9 P A (opAt l i)
 fresh:∀ i d,i<n→(opAt l i).dst=some d→done.length≤phase B sp0 i→lk A.sto (A.base+d)=none
 holds:Holds F (Z.mask (unD l n L)) a w
theorem xh {k i:Nat}:i∈wD B sp0 l n k↔i<n∧isE (opAt l i).op=true∧phase B sp0 i=k:=by simp[wD]
variable {K:St→Prop} {done rest:List Nat} {A Z:St} {rst:List zi} {L:Array Bool} {a:Act} {w:World}
include M in
theorem MPI.fact (h:MPI P F ops l n B sp0 K done rest A Z rst L a w) {i:Nat} {o:Oper} (hi:i<n) (ho:ops[i]?=some o) (hE:isE (opAt l i).op=true) (hL:¬ Ld L i) (hp:phase B sp0 i≤done.length) :
  ∃ d S x en,(opAt l i).dst=some d∧S.base=Z.base∧tU P (opAt l i) S x en∧uI en=false∧(∀ t∈o.looksAt ops,lk S.env t=lk Z.env t) ∧
   (∀ k e,lk S.sto k=some e→lk Z.sto k=some e)∧lk Z.env d=some x∧lk Z.sto (Z.base+d)=en:=by
 obtain ⟨tr,htr⟩:=h.tr
 have hbZ:=ua htr
 have hnr:∀ {q:Nat} {t:Nat},q<n→(opAt l q).dst=some t→q ∉ wD B sp0 l n done.length→∀ ao∈(wD B sp0 l n done.length).map (opAt l),ao.dst≠some t:=by
  intro q t hq hqt hnot ao hao e
  obtain ⟨j,hj,rfl⟩:=List.mem_map.1 hao
  have:=M.uniq (xh.1 hj).1 hq e hqt
  subst this
  exact hnot hj
 rcases Nat.lt_or_ge (phase B sp0 i) done.length with hlt | hge
 ·obtain ⟨d,x,en,g1,g2,g3,g4,g5⟩:=h.chk i hi hE hlt hL
  have hni:i ∉ wD B sp0 l n done.length:=fun hm=>by have:=(xh.1 hm).2.2; omega
  have hkeep:=hnr hi g1 hni
  refine ⟨d,{A with sto:=del [A.base+d] A.sto},x,en,g1,hbZ.symm,?_,g4,fun t ht=>?_,fun k e hk=>?_,?_,?_⟩
  ·exact g5
  ·refine (rT htr fun ao hao e=>?_).symm
   obtain ⟨j,hj,rfl⟩:=List.mem_map.1 hao
   obtain ⟨_,e',he,rfl,hb⟩:=M.look hi (xh.1 hj).1 ho ht e
   have:=M.ph hi ho he hb
   have:=(xh.1 hj).2.2
   omega
  ·have:lk A.sto k=some e:=by
    have:=hk
    simp only[tv] at this
    split at this
    ·cases this
    ·exact this
   exact XF htr this
  ·rw[rT htr hkeep]; exact g2
  ·rw[hbZ,tJ htr fun ao hao d' hd' e=>hkeep ao hao (by
    have:d'=d:=by omega
    rw[hd',this])]
   exact g3
 ·have hmem:i∈wD B sp0 l n done.length:=xh.2 ⟨hi,hE,by omega⟩
  obtain ⟨pre,post,hpp⟩:=List.append_of_mem hmem
  have hpw:List.Pairwise (·<·) (wD B sp0 l n done.length):=List.Pairwise.filter _ List.pairwise_lt_range
  rw[hpp] at hpw
  have hpost:∀ j∈post,i<j:=fun j hj=>by
   have:=(List.pairwise_append.1 hpw).2.1
   exact (List.pairwise_cons.1 this).1 j hj
  have hpre:∀ j∈pre,j<i:=fun j hj=>(List.pairwise_append.1 hpw).2.2 j hj i (by simp)
  have hin:∀ j,j∈pre∨j∈post→j<n:=fun j hj=>(xh.1 (show j∈wD B sp0 l n done.length by rw[hpp]; simp; rcases hj with h | h<;>simp[h])).1
  have hfr:=h.fresh
  rw[hpp,List.map_append,List.map_cons] at htr
  obtain ⟨tr1,si,x,en,tr2,t1,t2,t3,t4⟩:=P2 htr
  have hds:∃ d,(opAt l i).dst=some d:=by
   have:=M.hfree i hi
   simp only[X9,hE,Bool.not_true,Bool.false_or] at this
   exact Option.isSome_iff_exists.1 this
  obtain ⟨d,hd⟩:=hds
  have b1:=ua t1
  have b2:=ua t4
  rw[kO] at b2
  have notd:∀ (q:List Nat),(∀ j∈q,j<n∧j≠i)→∀ ao∈q.map (opAt l),ao.dst≠some d:=by
   intro q hq ao hao e
   obtain ⟨j,hj,rfl⟩:=List.mem_map.1 hao
   exact (hq j hj).2 (M.uniq (hq j hj).1 hi e hd)
  have np:=notd pre fun j hj=>⟨hin j (.inl hj),by have:=hpre j hj; omega⟩
  have nq:=notd post fun j hj=>⟨hin j (.inr hj),by have:=hpost j hj; omega⟩
  have hsi:lk si.sto (si.base+d)=none:=by
   rw[b1,tJ t1 fun ao hao d' hd' e=>np ao hao (by rw[hd',show d'=d by omega])]
   exact hfr i d hi hd hge
  refine ⟨d,si,x,en,hd,b2.symm,t2,?_,fun t ht=>?_,fun k e hk=>?_,?_,?_⟩
  ·by_cases e:en=none
   ·rw[e]; rfl
   ·exact (t3 e).2
  ·have e1:(opAt l i).dst≠some t:=fun e=>by have:=(M.look hi hi ho ht e).1; omega
   rw[rT t4 fun ao hao e=>?_,RW e1]
   obtain ⟨j,hj,rfl⟩:=List.mem_map.1 hao
   have:=(M.look hi (hin j (.inr hj)) ho ht e).1
   have:=hpost j hj
   omega
  ·refine XF t4 ?_
   rw[ZB (fun t ht e'=>?_)]
   ·exact hk
   ·rw[hd] at ht
    cases ht
    rw[e',hsi] at hk; cases hk
  ·rw[rT t4 nq,hd]; exact EZ
  ·rw[tJ t4 (k:=Z.base+d) fun ao hao d' hd' e=>nq ao hao (by rw[hd']; rw[kO] at e; rw[show d'=d by omega]),b2,hd]
   exact E0 fun _=>hsi
include M in
theorem MPI.hU (h:MPI P F ops l n B sp0 K done rest A Z rst L a w):∀ t,(unD l n L).elem t=true→uI (lk Z.sto (Z.base+t))=false:=by
 intro t ht
 obtain ⟨i,hi,hL,hd⟩:=tK.1 ht
 obtain ⟨o,ho,_⟩:=M.op hi
 have hfree:done.length≤phase B sp0 i→i ∉ wD B sp0 l n done.length→uI (lk Z.sto (Z.base+t))=false:=by
  intro hge hnot
  obtain ⟨tr,htr⟩:=h.tr
  have:=h.fresh i t hi hd hge
  rw[ua htr,tJ htr fun ao hao d' hd' e=>?_,this]
  ·rfl
  ·obtain ⟨j,hj,rfl⟩:=List.mem_map.1 hao
   rw[show d'=t by omega] at hd'
   have:=M.uniq (xh.1 hj).1 hi hd' hd
   subst this
   exact hnot hj
 cases hE:isE (opAt l i).op with
 | true =>
  rcases Nat.lt_or_ge done.length (phase B sp0 i) with hlt | hge
  ·exact hfree (by omega) fun hm=>by have:=(xh.1 hm).2.2; omega
  ·obtain ⟨d,S,x,en,g1,_,_,g4,_,_,_,g8⟩:=h.fact M hi ho hE hL hge
   rw[hd] at g1
   cases g1
   rw[g8]; exact g4
 | false =>
  have hm:i∈sp0:=M.mem_sp.2 ⟨hi,hE⟩
  rw[h.sp] at hm
  rcases List.mem_append.1 hm with hm | hm
  ·exact absurd (h.ex i hm) hL
  ·obtain ⟨r1,r2,rfl⟩:=List.append_of_mem hm
   have hs:=M.hseq
   have:=h.sp
   rw[← List.append_assoc] at this
   rw[show qa B sp0 0 sp0=qa B sp0 0 (done++r1++i::r2) by rw[← this]] at hs
   have:=ZQ hs
   simp only[List.length_append] at this
   exact hfree (by omega) fun hm=>by have:=(xh.1 hm).2.1; rw[hE] at this; cases this
end
section
variable {P:Program} {F:z9} {Q:Exit→Act→World→Prop} {ops:Array Oper} {l:List zi} {n:Nat} {B:Array Nat} {sp0:List Nat}
variable {K:St→Prop} {done rest:List Nat} {A Z:St} {rst:List zi} {L:Array Bool} {a:Act} {w:World}
theorem FP {x y:zi} (h:yl true x=rj y):x=rj y:=by
 obtain ⟨d,op,xs,g⟩:=x
 obtain ⟨d',op',xs',g'⟩:=y
 cases g' with
 | none =>
  simp only[yl,rj] at h ⊢
  cases op<;>simp only[lL,if_true,zi.mk.injEq,reduceCtorEq,false_and,and_false] at h ⊢
  exact h
 | some gb =>
  obtain ⟨g',b'⟩:=gb
  simp only[yl,rj] at h ⊢
  cases op<;>simp only[lL,if_true,zi.mk.injEq,reduceCtorEq,false_and,and_false] at h ⊢
  exact h
theorem Kt {x y:zi} (h:yl true x=y) (hE:isE y.op=true):x=y:=by
 subst h
 obtain ⟨d,op,xs,g⟩:=x
 simp only[yl] at hE ⊢
 cases op<;>first | rfl | cases hE
theorem Ku {x y:zi} (h:yl true x=y) (hs:LS y.op=true) (hn:∀ f ds,y.op≠.callM f ds):LU x.op=true:=by
 subst h
 obtain ⟨d,op,xs,g⟩:=x
 simp only[yl] at hs hn ⊢
 cases op<;>first | rfl | exact hs | exact absurd rfl (hn _ _)
theorem Yc {x y:zi} {f:FuncId} {ds:List Nat} (h:yl true x=y) (hs:y.op=.callM f ds):x=y:=by
 subst h
 obtain ⟨d,op,xs,g⟩:=x
 simp only[yl] at hs ⊢
 cases op<;>simp only[lL,if_true,reduceCtorEq] at hs ⊢
theorem Gu {k:Nat} {sp:List Nat} {r2:List zi} (h:r2.map (yl true)=nF B sp0 l n k sp) :
  ∃ r3,r2=(wD B sp0 l n k).map (opAt l)++r3∧r3.map (yl true)=XA B sp0 l n k sp:=by
 rw[PE] at h
 obtain ⟨u,v,rfl,h1,h2⟩:=List.map_eq_append_iff.1 h
 refine ⟨v,?_,h2⟩
 have:u=(wD B sp0 l n k).map (opAt l):=by
  have key:∀ (is:List Nat) (u:List zi),(∀ i∈is,isE (opAt l i).op=true)→u.map (yl true)=is.map (opAt l)→u=is.map (opAt l):=by
   intro is
   induction is with
   | nil=>intro u _ h; simpa using h
   | cons i is ih =>
    intro u hE h
    cases u with
    | nil=>cases h
    | cons y u =>
     simp only[List.map_cons,List.cons.injEq] at h ⊢
     exact ⟨Kt h.1 (hE i (by simp)),ih u (fun j hj=>hE j (by simp[hj])) h.2⟩
  exact key _ _ (fun i hi=>(xh.1 hi).2.1) h1
 rw[this]
theorem KL {r2:List zi} {is:List Nat} {z:List zi} (h:r2.map (yl true)=is.map (fun i=>rj (opAt l i))++z) :
  ∃ r3,r2=is.map (fun i=>rj (opAt l i))++r3∧r3.map (yl true)=z:=by
 obtain ⟨u,v,rfl,h1,h2⟩:=List.map_eq_append_iff.1 h
 refine ⟨v,?_,h2⟩
 have:u=is.map (fun i=>rj (opAt l i)):=by
  clear h h2
  induction is generalizing u with
  | nil=>simpa using h1
  | cons i is ih =>
   cases u with
   | nil=>cases h1
   | cons y u =>
    simp only[List.map_cons,List.cons.injEq] at h1 ⊢
    exact ⟨FP h1.1,ih u h1.2⟩
 rw[this]
variable (M:Mix P F.N ops l n B sp0)
include M
theorem MPI.free (h:MPI P F ops l n B sp0 K done rest A Z rst L a w) (hc:Closed ops L) (hsz:L.size=ops.size) {i:Nat} {o:Oper} {Kr:Act→World→Prop} (hi:i<n) (ho:ops[i]?=some o) (hE:isE (opAt l i).op=true) (hL:¬ Ld L i)
  (hdep:∀ e∈o.after.toList,Region.binds .any e=true→Ld L e.on) (hk:∀ a' w',MPI P F ops l n B sp0 K done rest A Z rst (L.setIfInBounds i true) a' w'→Kr a' w') :
  if Region.wanted o (yielded ops a.tmps) then o.wp P a w Kr Q else Kr (a.put o.dst undef) w:=by
 have hp:phase B sp0 i≤done.length:=ZD h.sp h.nx fun j hj=>M.bits hc ho hdep hj
 obtain ⟨d,S,x,en,g1,g2,g3,g4,g5,g6,g7,g8⟩:=h.fact M hi ho hE hL hp
 have his:i<L.size:=by rw[hsz]; exact (Array.getElem?_eq_some_iff.1 ho).1
 refine Jd (by rw[← acY hE]; exact (M.at ho).1) hE g1 h.holds g2 g3 (fun t ht=>⟨g5 t ht,?_⟩) g6 (tK.2 ⟨i,hi,hL,g1⟩) (Mp M hi his) g7 g8 (h.hU M) fun a' w' hH=>hk a' w' ?_
 ·cases hc':(unD l n L).elem t with
  | false=>rfl
  | true =>
   obtain ⟨j,hj,hLj,hd⟩:=tK.1 hc'
   obtain ⟨_,e,he,rfl,hb⟩:=M.look hi hj ho ht hd
   exact absurd (hdep e he hb) hLj
 ·have hset:∀ {j:Nat},Ld L j→Ld (L.setIfInBounds i true) j:=fun h=>(y4 his).2 (.inl h)
  refine {h with ex:=fun p hq=>hset (h.ex p hq),nx:=fun p hpr hLp=>?_,out:=fun j hj hLj=>?_,chk:=fun j hj hEj hpj hLj=>h.chk j hj hEj hpj fun h=>hLj (hset h),holds:=hH}
  ·rcases (y4 his).1 hLp with h1 | rfl
   ·exact h.nx p hpr h1
   ·have:p∈sp0:=by rw[h.sp]; exact List.mem_append_right _ hpr
    rw[(M.mem_sp.1 this).2] at hE; cases hE
  ·rcases (y4 his).1 hLj with h1 | rfl
   ·exact h.out j hj h1
   ·omega
omit M in

theorem MPI.begin {k:Nat} {sp:List Nat} {r2:List zi} {A:St} (hk:k=done.length) (hsp:sp0=done++sp) (hex:∀ p∈done,Ld L p) (hnx:∀ p∈sp,¬ Ld L p) (hout:∀ j,n≤j→¬ Ld L j)
  (hr:r2.map (yl true)=nF B sp0 l n k sp) (hK:zj P r2 A K)
  (hchk:∀ i,i<n→isE (opAt l i).op=true→phase B sp0 i<done.length→¬ Ld L i→T9 P A (opAt l i))
  (hfresh:∀ i d,i<n→(opAt l i).dst=some d→done.length≤phase B sp0 i→lk A.sto (A.base+d)=none)
  (hnot:∀ i∈wD B sp0 l n k,¬ Ld L i) (hH:Holds F (A.mask (unD l n L)) a w):∃ Z rst,MPI P F ops l n B sp0 K done sp A Z rst L a w:=by
 obtain ⟨r3,rfl,h3⟩:=Gu hr
 have hE:∀ ao∈(wD B sp0 l n k).map (opAt l),isE ao.op=true:=by
  intro ao hao
  obtain ⟨j,hj,rfl⟩:=List.mem_map.1 hao
  exact (xh.1 hj).2.1
 obtain ⟨tr,Z,htr,hrest⟩:=Q3 _ _ hE hK
 subst hk
 refine ⟨Z,r3,hsp,hex,hnx,hout,⟨tr,htr⟩,h3,hrest,hchk,hfresh,hH.same ?_⟩
 have hb:=ua htr
 have hin:∀ {j t:Nat},j∈wD B sp0 l n done.length→(opAt l j).dst=some t→(unD l n L).elem t=true:=fun {j t} hj hd=>tK.2 ⟨j,(xh.1 hj).1,hnot j hj,hd⟩
 refine .of (fun t=>?_) (fun q t=>?_) (fun k=>?_) hb.symm
 ·rw[ws,ws]
  split
  ·rfl
  ·rename_i hne
   refine (rT htr fun ao hao e=>hne ?_).symm
   obtain ⟨j,hj,rfl⟩:=List.mem_map.1 hao
   exact hin hj e
 ·show A.look (q+1,t)=Z.look (q+1,t)
  simp only[St.look,TP htr]
 ·rw[yL,yL]
  have:(Z.nm (unD l n L)).elem k=(A.nm (unD l n L)).elem k:=by simp only[St.nm,hb]
  rw[this]
  split
  ·rfl
  ·rename_i hne
   refine (tJ htr fun ao hao d hd e=>hne ?_).symm
   obtain ⟨j,hj,rfl⟩:=List.mem_map.1 hao
   exact vb.2 ⟨d,hin hj hd,e⟩
theorem MPI.spec {p:Nat} (h:MPI P F ops l n B sp0 K done (p::rest) A Z rst L a w) (hc:Closed ops L) (hsz:L.size=ops.size) {o:Oper} {Kr:Act→World→Prop} (ho:ops[p]?=some o)
  (hdep:∀ e∈o.after.toList,Region.binds .any e=true→Ld L e.on) (hk:∀ a' w' A' Z' rst',MPI P F ops l n B sp0 K (done++[p]) rest A' Z' rst' (L.setIfInBounds p true) a' w'→Kr a' w') :
  if Region.wanted o (yielded ops a.tmps) then o.wp P a w Kr Q else Kr (a.put o.dst undef) w:=by
 have hmem:p∈sp0:=by rw[h.sp]; simp
 obtain ⟨hi,hnE⟩:=M.mem_sp.1 hmem
 have hL:¬ Ld L p:=h.nx p (by simp)
 have his:p<L.size:=by rw[hsz]; exact (Array.getElem?_eq_some_iff.1 ho).1
 have hs:=h.hrst
 simp only[XA] at hs
 obtain ⟨hK,hphp⟩:zj P rst Z K∧phase B sp0 p=done.length:=by
  refine ⟨h.hK,?_⟩
  have hq:=M.hseq
  rw[show qa B sp0 0 sp0=qa B sp0 0 (done++p::rest) by rw[← h.sp]] at hq
  have:=ZQ hq
  omega
 cases rst with
 | nil=>cases hs
 | cons ap rst' =>
  simp only[List.map_cons,List.cons.injEq] at hs
  obtain ⟨hap,hs⟩:=hs
  obtain ⟨htro,_⟩:=M.at ho
  have hdst:ap.dst=(opAt l p).dst:=by rw[← hap]; rfl
  have hguard:ap.guard=(opAt l p).guard:=by rw[← hap]; rfl
  have hxs:ap.xs=(opAt l p).xs:=by rw[← hap]; rfl
  obtain ⟨q1,q2,q3,q4⟩:=wK htro
  rw[abT] at q1
  rw[Fu] at q2
  obtain ⟨I,β,lam,hI⟩:=h.holds
  have hlook:∀ t,t∈o.looksAt ops→(unD l n L).elem t=false:=fun t ht=>by
   cases hc':(unD l n L).elem t with
   | false=>rfl
   | true =>
    obtain ⟨j,hj,hLj,hd⟩:=tK.1 hc'
    obtain ⟨_,e,he,rfl,hb⟩:=M.look hi hj ho ht hd
    exact absurd (hdep e he hb) hLj
  -- what it looks at
  have hopd:∀ x∈ap.xs,∃ y∈o.op.operands.toList,x=zm y:=by
   intro x hx
   rw[hxs] at hx
   have hspk:=M.hsp p hmem
   obtain ⟨xs0,hxs0⟩:∃ xs0,(opAt l p).xs=xs0:=⟨_,rfl⟩
   rcases lh q1 with hE | ⟨t,u,v,m,hop,_,_,hx'⟩ | ⟨c,hop,hcall⟩ | ⟨bop,t,u,v,t',neg,hop,_,_,hx'⟩ | ⟨t,u,v,z,hop,_,hx'⟩ | ⟨t,u,v,hop,_,_,hx'⟩
   ·by_cases hcm:∃ f ds,(opAt l p).op=.callM f ds
    ·obtain ⟨f,ds,hcm⟩:=hcm
     rw[jJ hcm] at q1
     obtain ⟨c,hop,_,hx'⟩:=(sY q1).1 f rfl
     rw[hx'] at hx
     obtain ⟨y,hy,rfl⟩:=List.mem_map.1 hx
     exact ⟨y,by rw[hop]; simp[Op.operands,Call.operands]; exact .inr (by simpa using hy),rfl⟩
    ·rw[gM fun f ds e=>hcm ⟨f,ds,e⟩] at hE
     rw[hE] at hnE; cases hnE
   ·rw[hx'] at hx
    rw[hop]
    simp only[List.mem_cons,List.not_mem_nil,or_false] at hx
    rcases hx with rfl | rfl
    ·exact ⟨u,by simp[Op.operands],rfl⟩
    ·exact ⟨v,by simp[Op.operands],rfl⟩
   ·have hxc:xs0=c.args.toList.map zm→∃ y∈o.op.operands.toList,x=zm y:=by
     intro hx'
     rw[hxs0,hx'] at hx
     obtain ⟨y,hy,rfl⟩:=List.mem_map.1 hx
     exact ⟨y,by rw[hop]; simp[Op.operands,Call.operands]; exact .inr (by simpa using hy),rfl⟩
    rcases pV hcall with hE | ⟨t,u,e',sz,by_,z,_,hx',_⟩ | ⟨t,u,e',sz,_,hx',_⟩
    ·by_cases hcm:∃ f ds,(opAt l p).op=.callM f ds
     ·obtain ⟨f,ds,hcm⟩:=hcm
      rw[jJ hcm] at q1
      obtain ⟨c',hop',_,hx'⟩:=(sY q1).1 f rfl
      rw[hop] at hop'
      cases hop'
      exact hxc (hxs0.symm.trans hx')
     ·rw[gM fun f ds e=>hcm ⟨f,ds,e⟩] at hE
      rw[hE] at hnE; cases hnE
    ·exact hxc (hxs0.symm.trans hx')
    ·exact hxc (hxs0.symm.trans hx')
   ·rw[hx'] at hx
    rw[hop]
    simp only[List.mem_cons,List.not_mem_nil,or_false] at hx
    subst hx
    exact ⟨u,by simp[Op.operands],rfl⟩
   ·rw[hx'] at hx
    simp only[List.mem_cons,List.not_mem_nil,or_false] at hx
    rcases hop with hop | hop<;>rw[hop]
    all_goals
     rcases hx with rfl | rfl | rfl
     ·exact ⟨u,by simp[Op.operands],rfl⟩
     ·exact ⟨v,by simp[Op.operands],rfl⟩
     ·exact ⟨z,by simp[Op.operands],rfl⟩
   ·rw[hx'] at hx
    rw[hop]
    simp only[List.mem_cons,List.not_mem_nil,or_false] at hx
    subst hx
    exact ⟨v,by simp[Op.operands],rfl⟩
  have hslot:∀ t,.t t∈ap.xs→t∈o.looksAt ops:=by
   intro t ht
   obtain ⟨y,hy,hyt⟩:=hopd _ ht
   cases y<;>simp only[zm,Opd.t.injEq,reduceCtorEq] at hyt
   subst hyt
   unfold Oper.looksAt
   exact List.mem_append_left _ (List.mem_filterMap.2 ⟨.tmp t,hy,rfl⟩)
  have hR:∀ x∈ap.xs,∃ v,R I w β lam (ev (Z.mask (unD l n L)) x) v:=by
   intro x hx
   obtain ⟨y,_,rfl⟩:=hopd x hx
   exact ⟨_,hI.opd y⟩
  have hev:∀ x∈ap.xs,ev (Z.mask (unD l n L)) x=ev Z x:=by
   intro x hx
   cases x with
   | c x=>rfl
   | t t=>simp only[ev,ws,hlook t (hslot t hx)]; rfl
  have hg:∀ g b,ap.guard=some (g,b)→(unD l n L).elem g=false:=by
   intro g b hgb
   refine hlook g ?_
   rw[hguard] at hgb
   rw[hgb] at q2
   unfold rF at q2
   split at q2
   ·cases q2
   ·rename_i j b' ho'
    split at q2
    ·rename_i d hd
     simp only[Option.some.injEq,Prod.mk.injEq] at q2
     obtain ⟨rfl,rfl⟩:=q2
     unfold Oper.looksAt
     refine List.mem_append_right _ ?_
     rw[ho']
     simp[hd]
    ·cases q2
  have hfr:∀ (i d:Nat),i<n→(opAt l i).dst=some d→done.length≤phase B sp0 i→(i=p∨done.length<phase B sp0 i)→lk Z.sto (Z.base+d)=none:=by
   intro i d hin hd hge hor
   obtain ⟨tr,htr⟩:=h.tr
   rw[ua htr,tJ htr fun ao hao d' hd' e=>?_]
   ·exact h.fresh i d hin hd hge
   ·obtain ⟨j,hj,rfl⟩:=List.mem_map.1 hao
    rw[show d'=d by omega] at hd'
    have:=M.uniq (xh.1 hj).1 hin hd' hd
    subst this
    rcases hor with rfl | hlt
    ·rw[(xh.1 hj).2.1] at hnE; cases hnE
    ·have:=(xh.1 hj).2.2; omega
  have hD:=Mp M (L:=L) hi his
  simp only[zj] at hK
  have fin:∀ s' a' w' A',zj P rst' A' K→Same s' (A'.mask (unD l n (L.setIfInBounds p true)))→A'.base=Z.base →
    (∀ (i d:Nat),i<n→(opAt l i).dst=some d→done.length+1≤phase B sp0 i→lk A'.sto (Z.base+d)=none)→Holds F s' a' w'→Kr a' w':=by
   intro s' a' w' A' hA' hsame hbA hfA hH
   have hH':=hH.same hsame
   obtain ⟨r2,rfl,hr2⟩:=KL hs
   obtain ⟨hchks,hrest⟩:=Bi _ hA'
   have hset:∀ {j:Nat},Ld L j→Ld (L.setIfInBounds p true) j:=fun h=>(y4 his).2 (.inl h)
   have hLp:Ld (L.setIfInBounds p true) p:=(y4 his).2 (.inr rfl)
   obtain ⟨Z',rst',hPI⟩:=MPI.begin (F:=F) (done:=done++[p]) (k:=done.length+1) (sp:=rest) (r2:=r2) (A:=A') (L:=L.setIfInBounds p true) (a:=a') (w:=w') (K:=K) (by simp) (by rw[h.sp]; simp)
    (fun q hq=>by
     rcases List.mem_append.1 hq with hq | hq
     ·exact hset (h.ex q hq)
     ·simp only[List.mem_singleton] at hq; subst hq; exact hLp)
    (fun q hq hLq=>by
     rcases (y4 his).1 hLq with h1 | rfl
     ·exact h.nx q (by simp[hq]) h1
     ·have hnd:(done++q::rest).Nodup:=by
       rw[← h.sp,M.hs]
       exact List.Pairwise.filter _ List.nodup_range
      have:=(List.nodup_append.1 hnd).2.1
      exact (List.nodup_cons.1 this).1 hq)
    (fun j hj hLj=>by
     rcases (y4 his).1 hLj with h1 | rfl
     ·exact h.out j hj h1
     ·omega)
    hr2 hrest
    (fun i hin hE hlt hLi=>hchks i (by
     simp only[S2,List.mem_filter,List.mem_range,Bool.and_eq_true,decide_eq_true_eq,Bool.not_eq_true']
     refine ⟨hin,hE,by simpa using hlt,?_⟩
     cases hb:(B.getD p 0).testBit i with
     | false=>rfl
     | true=>exact absurd (hset (M.bits hc ho hdep hb)) hLi))
    (fun i d hin hd hge=>by
     simp only[List.length_append,List.length_singleton] at hge
     rw[hbA]
     exact hfA i d hin hd hge)
    (fun i hir hLi=>by
     have hph:=(xh.1 hir).2.2
     have hiE:=(xh.1 hir).2.1
     rcases (y4 his).1 hLi with h1 | rfl
     ·have:=ZD h.sp h.nx fun j hj=>M.bitsL hc (xh.1 hir).1 h1 hj
      omega
     ·rw[hiE] at hnE; cases hnE)
    hH'
   exact hk _ _ _ _ _ hPI
  by_cases hcm:∃ f ds,(opAt l p).op=.callM f ds
  ·obtain ⟨f,ds,hcm⟩:=hcm
   have hapq:=Yc hap hcm
   have hdse:=M.hds p f ds hcm
   have hsm:=acO (D':=unD l n (L.setIfInBounds p true)) (ao:=ap) (ds:=ds) (by rw[hapq]; exact hcm) hev hg (fun t=>by rw[hdst]; exact hD t)
    (fun t ht=>by
     obtain ⟨i,h1,_,h3⟩:=tK.1 ht
     rw[hdse]
     exact List.mem_filterMap.2 ⟨i,by simpa using h1,h3⟩)
    (fun d hd=>by rw[hdse]; exact List.mem_filterMap.2 ⟨p,by simpa using hi,by rw[← hdst]; exact hd⟩)
    (fun d hd=>hfr p d hi (by rw[← hdst]; exact hd) (by omega) (.inl rfl)) hK
   refine nE (draw:=false) (ao:={ap with op:=.callI f}) (by
    rw[htro,jJ hcm,hapq]
    rfl) ⟨I,β,lam,hI⟩ hsm fun s' a' w' hleft hH=>?_
   obtain ⟨A',hA',hsame,hbA,hfA⟩:=hleft
   refine fin s' a' w' A' hA' hsame hbA (fun i d hin hd hge=>?_) hH
   refine hfA d (by rw[hdse]; exact List.mem_filterMap.2 ⟨i,by simpa using hin,hd⟩) (hfr i d hin hd (by omega) (.inr (by omega))) fun hd'=>?_
   rw[hdst] at hd'
   have:=M.uniq hi hin hd' hd
   subst this
   omega
  ·have hno:∀ f ds,(opAt l p).op≠.callM f ds:=fun f ds e=>hcm ⟨f,ds,e⟩
   have hsm:=GZ (D':=unD l n (L.setIfInBounds p true)) hI hR hev hg (fun t=>by rw[hdst]; exact hD t) (h.hU M)
    (fun d hd=>hfr p d hi (by rw[← hdst]; exact hd) (by omega) (.inl rfl)) (Ku hap (M.hsp p hmem) hno) hK
   refine nE (draw:=true) (by rw[hap,htro,gM hno]) ⟨I,β,lam,hI⟩ hsm fun s' a' w' hleft hH=>?_
   obtain ⟨A',hA',hsame,hbA,hfA⟩:=hleft
   refine fin s' a' w' A' hA' hsame hbA (fun i d hin hd hge=>?_) hH
   refine hfA _ (hfr i d hin hd (by omega) (.inr (by omega))) fun d' hd' e=>?_
   rw[hdst] at hd'
   rw[show d'=d by omega] at hd'
   have:=M.uniq hi hin hd' hd
   subst this
   omega
end
section
variable {P:Program} {F:z9} {Q:Exit→Act→World→Prop} {ops:Array Oper} {l:List zi} {n:Nat} {B:Array Nat} {sp0:List Nat} {K:St→Prop}
theorem MPI.turn {done rest:List Nat} {A Z:St} {rst:List zi} {L:Array Bool} {a:Act} {w:World} (M:Mix P F.N ops l n B sp0)
  (h:MPI P F ops l n B sp0 K done rest A Z rst L a w) (hall:∀ j,j<n→Ld L j):Holds F Z a w∧rst.map (yl true)=l.drop n∧zj P rst Z K:=by
 have hr:rest=[]:=by
  cases rest with
  | nil=>rfl
  | cons p r =>
   have:p∈sp0:=by rw[h.sp]; simp
   exact absurd (hall p (M.mem_sp.1 this).1) (h.nx p (by simp))
 subst hr
 have hu:∀ t,(unD l n L).elem t=false:=fun t=>by
  cases hc:(unD l n L).elem t with
  | false=>rfl
  | true =>
   obtain ⟨i,hi,hL,_⟩:=tK.1 hc
   exact absurd (hall i hi) hL
 refine ⟨h.holds.same (.of (fun t=>?_) (fun q t=>rfl) (fun k=>?_) rfl),h.hrst,h.hK⟩
 ·rw[ws,hu]; rfl
 ·rw[yL]
  have:(Z.nm (unD l n L)).elem k=false:=by
   cases hc:(Z.nm (unD l n L)).elem k with
   | false=>rfl
   | true =>
    obtain ⟨d,h1,_⟩:=vb.1 hc
    rw[hu] at h1; cases h1
  rw[this]; rfl
theorem adK {o:Oper} {ap y:zi} {s:St} {a:Act} {w:World} {K:St→Prop} {Kr:Act→World→Prop} (htr:v9 P F.N ops o=some (unM y)) (hb:yl true ap=y) (hH:Holds F s a w) (h:xo P ap s K)
  (hk:∀ s' a' w',K s'→Holds F s' a' w'→Kr a' w'):if Region.wanted o (yielded ops a.tmps) then o.wp P a w Kr Q else Kr (a.put o.dst undef) w:=by
 by_cases hcm:∃ f ds,y.op=.callM f ds
 ·obtain ⟨f,ds,hcm⟩:=hcm
  have e:=Yc hb hcm
  subst e
  refine nE (draw:=false) (ao:={ap with op:=.callI f}) (by rw[htr,jJ hcm]; rfl) hH (K:=K) ?_ hk
  have run:yx P ap s K→yx P {ap with op:=.callI f} s K:=by
   intro h
   unfold yx at h ⊢
   rw[hcm] at h
   simp only at h ⊢
   obtain ⟨h1,h⟩:=h
   refine ⟨h1,?_⟩
   rcases h with ⟨_,h3⟩ | h3
   ·have h4:=h3 []
    rw[fp] at h4
    intro F a w I β lam hI vs hvs hR
    refine Calls.mono (h4 F a w I β lam hI vs hvs hR) ?_
    rintro e w' ⟨v,rfl,r,s',I',β',lam',⟨A,rfl,hb,_,hK⟩,hI',hR'⟩
    rw[fp] at hI'
    refine ⟨v,rfl,r,A,I',β',lam',⟨hb,hK⟩,hI',hR'⟩
   ·have hm:∀ t:St,t.mask []=t:=fun t=>by
     unfold St.mask
     rw[fp,show t.nm []=[] from rfl,fp]
    have h4:=h3 [] fun x _=>by rw[hm]
    rw[hm] at h4
    intro F a w I β lam hI vs hvs hR
    refine Calls.mono (h4 F a w I β lam hI vs hvs hR) ?_
    rintro e w' ⟨v,rfl,r,s',I',β',lam',⟨A,rfl,hb,_,hK⟩,hI',hR'⟩
    rw[hm] at hI'
    refine ⟨v,rfl,r,A,I',β',lam',⟨hb,hK⟩,hI',hR'⟩
  unfold xo at h ⊢
  cases hgd:ap.guard with
  | none=>rw[hgd] at h; exact run h
  | some gb =>
   obtain ⟨g,b⟩:=gb
   rw[hgd] at h
   simp only at h ⊢
   split at h
   ·exact ⟨fun e=>run (h.1 e),h.2⟩
   ·exact h
   ·exact h.elim
 ·exact nE (draw:=true) (by rw[htr,← hb,gM]; rw[hb]; exact fun f ds e=>hcm ⟨f,ds,e⟩) hH h hk
theorem JM (M:Mix P F.N ops l n B sp0) (hn:n=zO ops ops.size) (hk:∀ s' a' w',K s'→Holds F s' a' w'→Q .normal a' w') :
  ∀ (fuel:Nat) (L:Array Bool) (a:Act) (w:World),L.size=ops.size→Closed ops L→tY L=fuel →
   ((∃ done rest A Z rst,MPI P F ops l n B sp0 K done rest A Z rst L a w) ∨
    ∃ i si l',n≤i∧(∀ j,j<i→Ld L j)∧(∀ j,i≤j→¬ Ld L j)∧Holds F si a w∧l'.map (yl true)=l.drop i∧zj P l' si K) →
   wpAny P .any ops Q fuel L a w:=by
 have hlen:=M.len
 have fin:∀ {i:Nat} {si:St} {l':List zi} {a:Act} {w:World},ops.size≤i→Holds F si a w→l'.map (yl true)=l.drop i→zj P l' si K→Q .normal a w:=by
  intro i si l' a w hi hH hl h
  have hnil:l.drop i=[]:=List.eq_nil_of_length_eq_zero (by simp; omega)
  rw[hnil] at hl
  rw[List.map_eq_nil_iff.1 hl] at h
  exact hk _ _ _ h hH
 intro fuel
 induction fuel with
 | zero =>
  intro L a w hsz hc hf h
  have hall:∀ j,j<ops.size→Ld L j:=fun j hj=>YN hf (by omega)
  refine ⟨?_,?_⟩
  ·refine List.eq_nil_iff_forall_not_mem.2 fun i hi=>?_
   obtain ⟨o,ho,h2,_⟩:=mz.1 hi
   have hlt:i<ops.size:=(Array.getElem?_eq_some_iff.1 ho).1
   exact Y3 (by omega) h2 (hall i hlt)
  ·rcases h with ⟨done,rest,A,Z,rst,hP⟩ | ⟨i,si,l',h1,h2,h3,h4,h5,h6⟩
   ·have hnle:=M.hn
    have hn':n=ops.size:=by
     rcases Nat.lt_or_ge n ops.size with hlt | hge
     ·exact absurd (hall n hlt) (hP.out n (Nat.le_refl _))
     ·omega
    obtain ⟨t1,t2,t3⟩:=hP.turn M fun j hj=>hall j (by omega)
    exact fin (i:=n) (by omega) t1 t2 t3
   ·have:ops.size≤i:=by
     rcases Nat.lt_or_ge i ops.size with hlt | hge
     ·exact absurd (hall i hlt) (h3 i (Nat.le_refl _))
     ·exact hge
    exact fin this h4 h5 h6
 | succ fuel ih =>
  intro L a w hsz hc hf h
  refine ⟨fun hnil=>absurd hnil (Qi M.hb hsz (by omega)),fun i hi=>?_⟩
  obtain ⟨o,ho,hL,hdep⟩:=mz.1 hi
  have hlt:i<ops.size:=(Array.getElem?_eq_some_iff.1 ho).1
  have hnl:=Y3 (L:=L) (by omega) hL
  have hleft:tY (L.setIfInBounds i true)=fuel:=by
   have:=Ti (L:=L) (by omega) hnl
   omega
  have hc':=Yy hc hsz ho hdep
  have hsz':(L.setIfInBounds i true).size=ops.size:=by simpa using hsz
  unfold wpOp
  rw[ho]
  simp only
  have both:(if Region.wanted o (yielded ops a.tmps) then o.wp P a w (wpAny P .any ops Q fuel (L.setIfInBounds i true)) Q else wpAny P .any ops Q fuel (L.setIfInBounds i true) (a.put o.dst undef) w) →
    (if Region.wanted o (yielded ops a.tmps) then o.wp P a w (wpAny P .any ops Q fuel (L.setIfInBounds i true)) Q∨(o.asks P a w∧LetsOut Q) else wpAny P .any ops Q fuel (L.setIfInBounds i true) (a.put o.dst undef) w):=by
   intro h
   split at h
   ·rename_i hw; rw[if_pos hw]; exact .inl h
   ·rename_i hw; rw[if_neg hw]; exact h
  refine both ?_
  have second:∀ {si:St} {l':List zi},n≤i→(∀ j,j<i→Ld L j)→(∀ j,i≤j→¬ Ld L j)→Holds F si a w→l'.map (yl true)=l.drop i→zj P l' si K →
    (if Region.wanted o (yielded ops a.tmps) then o.wp P a w (wpAny P .any ops Q fuel (L.setIfInBounds i true)) Q else wpAny P .any ops Q fuel (L.setIfInBounds i true) (a.put o.dst undef) w):=by
   intro si l' h1 h2 h3 h4 h5 h6
   obtain ⟨htro,hao⟩:=M.at ho
   have hdrop:l.drop i=opAt l i::l.drop (i+1):=by
    have hil:i<l.length:=by omega
    rw[List.drop_eq_getElem_cons hil]
    rw[List.getElem?_eq_getElem hil] at hao
    simp only[Option.some.injEq] at hao
    rw[hao]
   rw[hdrop] at h5
   cases l' with
   | nil=>cases h5
   | cons ap l'' =>
    simp only[List.map_cons,List.cons.injEq] at h5
    simp only[zj] at h6
    refine adK htro h5.1 h4 h6 fun s' a' w' hK hH=>ih _ _ _ hsz' hc' hleft (.inr ⟨i+1,s',l'',by omega,fun j hj=>?_,fun j hj hLj=>?_,hH,h5.2,hK⟩)
    ·rcases Nat.lt_or_ge j i with hji | hji
     ·exact (y4 (by omega)).2 (.inl (h2 j hji))
     ·exact (y4 (by omega)).2 (.inr (by omega))
    ·rcases (y4 (by omega)).1 hLj with h | h
     ·exact h3 j (by omega) h
     ·omega
  rcases h with ⟨done,rest,A,Z,rst,hP⟩ | ⟨q,si,l',h1,h2,h3,h4,h5,h6⟩
  ·by_cases hin:i<n
   ·cases hE:isE (opAt l i).op with
    | true=>exact hP.free M hc hsz hin ho hE hnl hdep fun a' w' hP'=>ih _ _ _ hsz' hc' hleft (.inl ⟨_,_,_,_,_,hP'⟩)
    | false =>
     have hm:i∈sp0:=M.mem_sp.2 ⟨hin,hE⟩
     rw[hP.sp] at hm
     rcases List.mem_append.1 hm with hm | hm
     ·exact absurd (hP.ex i hm) hnl
     ·obtain ⟨r1,r2,rfl⟩:=List.append_of_mem hm
      have hq:=M.hseq
      rw[show qa B sp0 0 sp0=qa B sp0 0 ((done++r1)++i::r2) by rw[hP.sp]; simp] at hq
      have h1:=ZQ hq
      have h2:=ZD hP.sp hP.nx (i:=i) fun j hj=>M.bits hc ho hdep hj
      simp only[List.length_append] at h1
      have:r1=[]:=List.eq_nil_of_length_eq_zero (by omega)
      subst this
      exact hP.spec M hc hsz ho hdep fun a' w' A' Z' rst' hP'=>ih _ _ _ hsz' hc' hleft (.inl ⟨_,_,_,_,_,hP'⟩)
   ·have hw:waits ops i=true:=t0 ops ops.size i (by omega) hlt
    have hall:∀ j,j<i→Ld L j:=fun j hj=>pX hc ho hdep (jM hw hj)
    have hin':i=n:=by
     rcases Nat.lt_or_ge n i with hlt' | hge
     ·exact absurd (hall n hlt') (hP.out n (Nat.le_refl _))
     ·omega
    obtain ⟨t1,t2,t3⟩:=hP.turn M fun j hj=>hall j (by omega)
    exact second (by omega) hall (fun j hj=>hP.out j (by omega)) t1 (by rw[hin']; exact t2) t3
  ·have hiq:i=q:=by
    rcases Nat.lt_trichotomy i q with hlt' | he | hgt
    ·exact absurd (h2 i hlt') hnl
    ·exact he
    ·have hw:waits ops i=true:=t0 ops ops.size i (by omega) hlt
     exact absurd (pX hc ho hdep (jM hw hgt)) (h3 q (Nat.le_refl _))
   subst hiq
   exact second h1 h2 h3 h4 h5 h6
theorem JL {N:Nat} (hl:xU P N ops ops.toList=some (l.map unM)) (hds:∀ (i:Nat) f ds,(opAt l i).op=.callM f ds→ds=vn l (zO ops ops.size)) (h:aiO P ops (Region.before ops) l (zO ops ops.size)=true) :
  Mix P N ops l (zO ops ops.size) (Region.before ops) (pS l (zO ops ops.size))∧P.follows .mixedOrders=true:=by
 simp only[aiO,Bool.and_eq_true] at h
 obtain ⟨⟨⟨⟨⟨⟨h0,h1⟩,h2⟩,h3⟩,h4⟩,h5⟩,h6⟩:=h
 exact ⟨⟨hl,cg _ _,rfl,rfl,h1,h0,fun i hi=>List.all_eq_true.1 h3 i (by simpa using hi),fun i hi=>List.all_eq_true.1 h4 i (by simpa using hi),fun p hp=>List.all_eq_true.1 h5 p hp,h6,hds⟩,h2⟩
theorem RR {id:Nat} {lp:List zi} {s:St} {a:Act} {w:World} (hl:xU P F.N ops ops.toList=some (l.map unM)) (hds:∀ (i:Nat) f ds,(opAt l i).op=.callM f ds→ds=vn l (zO ops ops.size)) (hm:aiO P ops (Region.before ops) l (zO ops ops.size)=true)
  (hlp:Uq (Region.before ops) l (zO ops ops.size)=lp.map (yl true)) (hH:Holds F s a w) (h:zj P lp s K)
  (hk:∀ s' a' w',K s'→Holds F s' a' w'→Q .normal a' w'):(Code.region id ops true).wp P Q a w:=by
 obtain ⟨M,hmo⟩:=JL hl hds hm
 refine wp_region_any hmo ?_
 have hL:∀ j,¬ Ld (Array.replicate ops.size false) j:=fun j h=>by
  unfold Ld at h
  by_cases hj:j<ops.size<;>simp[hj] at h
 cases lp with
 | nil=>cases hlp
 | cons st r2 =>
  simp only[Uq,List.map_cons,List.cons.injEq] at hlp
  obtain ⟨hst,hr2⟩:=hlp
  have hst':st=⟨none,.start (vn l (zO ops ops.size)),[],none⟩:=by
   obtain ⟨d,op,xs,g⟩:=st
   simp only[yl,zi.mk.injEq] at hst ⊢
   obtain ⟨rfl,h2,rfl,rfl⟩:=hst
   refine ⟨rfl,?_,rfl,rfl⟩
   cases op<;>simp only[lL,if_true,reduceCtorEq] at h2 ⊢
   exact h2.symm
  subst hst'
  simp only[zj] at h
  unfold xo at h
  simp only at h
  unfold yx at h
  simp only at h
  obtain ⟨hf,h⟩:=h
  have hmem:∀ {t:Nat},(unD l (zO ops ops.size) (Array.replicate ops.size false)).elem t=true↔t∈vn l (zO ops ops.size):=by
   intro t
   rw[tK]
   simp only[vn,List.mem_filterMap,List.mem_range]
   exact ⟨fun ⟨i,h1,_,h3⟩=>⟨i,h1,h3⟩,fun ⟨i,h1,h3⟩=>⟨i,h1,hL i,h3⟩⟩
  have hH2:Holds F (s.drop (vn l (zO ops ops.size))) a {w with drawn:=w.drawn+1}:=by
   obtain ⟨I,β,lam,hI⟩:=fI (D:=vn l (zO ops ops.size)) hH
   exact ⟨I,β,lam,hI.grow (w':={w with drawn:=w.drawn+1}) ((Below.refl _ _).drew) (fun _ _ h=>h) (fun _ _ h=>.inl h)⟩
  obtain ⟨Z,rst,hPI⟩:=MPI.begin (F:=F) (P:=P) (ops:=ops) (l:=l) (n:=zO ops ops.size) (B:=Region.before ops) (sp0:=pS l (zO ops ops.size)) (done:=[]) (k:=0) (sp:=pS l (zO ops ops.size)) (r2:=r2)
   (A:={s with env:=del (vn l (zO ops ops.size)) s.env}) (L:=Array.replicate ops.size false) (a:=a) (w:={w with drawn:=w.drawn+1}) (K:=K) rfl rfl (by simp) (fun p _=>hL p) (fun j _=>hL j) hr2.symm h
   (fun i _ _ hlt=>by simp at hlt)
   (fun i d hi hd _=>rm hf (by simp only[vn,List.mem_filterMap,List.mem_range]; exact ⟨i,hi,hd⟩))
   (fun i _=>hL i)
   (hH2.same (.of (fun t=>by
     rw[ws]
     split
     ·rename_i hc
      show lk (del _ s.env) t=none
      rw[tv,if_pos (by simpa using hmem.1 hc)]
     ·rfl) (fun q t=>rfl) (fun k=>by
     rw[yL]
     split
     ·rename_i hc
      obtain ⟨d,h1,rfl⟩:=vb.1 hc
      exact rm hf (hmem.1 h1)
     ·rfl) rfl))
  exact JM M rfl hk ops.size _ a _ (by simp) (fun i o ho h=>absurd h (hL i)) (by unfold tY; simp) (.inl ⟨_,_,_,_,_,hPI⟩)
theorem a8 {N:Nat} {rl:List Oper} {l:List zi} (h:xU P N ops rl=some l):∀ x∈l,∀ f ds,x.op≠.callM f ds:=by
 intro x hx f ds e
 obtain ⟨i,hi⟩:=List.mem_iff_getElem?.1 hx
 obtain ⟨hlen,hget⟩:=tI _ _ h
 have hil:=(List.getElem?_eq_some_iff.1 hi).1
 obtain ⟨o,ho⟩:∃ o,rl[i]?=some o:=⟨rl[i],by simp[← hlen,hil]⟩
 obtain ⟨ao,h1,h2⟩:=hget i o ho
 rw[hi] at h1
 cases h1
 have q1:=(wK h2).1
 rw[e] at q1
 rcases lh q1 with hE | ⟨_,_,_,_,_,hop,_⟩ | ⟨c,_,hcall⟩ | ⟨_,_,_,_,_,_,_,_,hop,_⟩ | ⟨_,_,_,_,_,hop,_⟩ | ⟨_,_,_,_,_,hop,_⟩
 ·cases hE
 ·cases hop
 ·rcases pV hcall with hE | ⟨_,_,_,_,_,_,hop,_⟩ | ⟨_,_,_,_,hop,_⟩
  ·cases hE
  ·cases hop
  ·cases hop
 ·cases hop
 ·cases hop
 ·rename_i hop _
  cases hop
theorem aav {ds:List Nat} {x:zi} (h:∀ f ds,x.op≠.callM f ds):unM (spc P ds x)=x:=by
 obtain ⟨d,op,xs,g⟩:=x
 unfold spc
 split
 ·rename_i f e
  simp only at e
  subst e
  split
  ·rfl
  ·rfl
 ·exact gM h
theorem BQ {N:Nat} {ds:List Nat} {rl:List Oper} {l:List zi} (h:xU P N ops rl=some l):xU P N ops rl=some ((l.map (spc P ds)).map unM):=by
 rw[h,List.map_map]
 congr 1
 have:=a8 h
 conv=>lhs; rw[← List.map_id l]
 refine List.map_congr_left fun x hx=>?_
 exact (aav (this x hx)).symm
theorem R5 {ds:List Nat} {l:List zi} {i:Nat}:opAt (l.map (spc P ds)) i=spc P ds (opAt l i):=by
 unfold opAt
 rw[List.getD_eq_getElem?_getD,List.getD_eq_getElem?_getD,List.getElem?_map]
 cases l[i]?<;>rfl
theorem AU {ds:List Nat} {x:zi}:(spc P ds x).dst=x.dst:=by
 unfold spc
 split
 ·split<;>rfl
 ·rfl
theorem Ej {ds:List Nat} {l:List zi} {n:Nat}:vn (l.map (spc P ds)) n=vn l n:=by
 unfold vn
 congr 1
 funext i
 rw[R5,AU]
theorem BG {N:Nat} {ds:List Nat} {rl:List Oper} {l:List zi} (h:xU P N ops rl=some l) {i:Nat} {f:FuncId} {ds':List Nat} (e:(opAt (l.map (spc P ds)) i).op=.callM f ds'):ds'=ds:=by
 rw[R5] at e
 unfold spc at e
 split at e
 ·rename_i g hg
  split at e
  ·simp only[AOp.callM.injEq] at e; exact e.2.symm
  ·rw[hg] at e; cases e
 ·exfalso
  have hn:∀ f ds,(opAt l i).op≠.callM f ds:=by
   intro f ds
   unfold opAt
   rw[List.getD_eq_getElem?_getD]
   cases hi:l[i]? with
   | none=>simp
   | some x=>exact a8 h x (List.mem_of_getElem? hi) f ds
  exact hn _ _ e
end
end Go.Am
