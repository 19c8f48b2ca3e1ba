/- What the proof rests on, part 2: Am9 Am10. -/
import Derived.Test.YtbgnkodhpbkdoaaP1
set_option maxRecDepth 100000
set_option maxHeartbeats 4000000
namespace Go.Am
open Go.RowKit
section
variable {P:Program} {I:Nat→Nat→Prop} {w:World} {β:zR} {lam:ya} {o:Oper} {a:Act} {K:Act→World→Prop}
  {Q:Exit→Act→World→Prop} {d:Nat} {k:AV→Option zb→Prop}
theorem LL {t:TypeId} {x:Operand} {lo hi mx:Option Operand} {f:Opd→AV} {s:ByteArray} (ho:o.op=.slice t x lo hi mx) (ht:uH P t=true)
  (hx:R I w β lam (.val (.string s)) (a.eval x)) (hR:∀ y,lo=some y∨hi=some y∨mx=some y→R I w β lam (f (zm y)) (a.eval y))
  (h:wF s.size lo.isSome hi.isSome mx.isSome ((vQ lo++vQ hi++vQ mx).map f) fun l h _=>mx.isSome=false∧k (.val (.string (s.extract l h))) none)
  (hk:yp w I β lam d k a o.dst K):o.wp P a w K Q:=by
 have hu:P.underlying t=some .string:=by
  unfold uH at ht
  split at ht<;>simp_all
 obtain ⟨l,h',fl,m,⟨hm,hkk⟩,h1,h2,h3,h4,h5,hb⟩:=gU (P:=P) (I:=I) (w:=w) (β:=β) (lam:=lam) (a:=a) false h (Nat.le_refl _) hR
 have hmx:mx=none:=by cases mx<;>simp_all
 subst hmx
 refine zW (v:=.string (s.extract l h')) ?_ (uh _) hkk hk
 simp only[Option.map_none] at hb
 simp[execOp,ho,hx.val_eq,Instr.sliceAt,Instr.slice,run_underlying hu,hb]
theorem AK {c:Call} {str:Bool} {t:TypeId} {x:Operand} {X:AV} (ho:o.op=.call c) (hc:c.callee=.builtin .len) (hargs:c.args=#[x]) (ht:c.argTypes[0]?=some t)
  (hs:if str=true then P.underlying t=some .string else ∃ e,P.underlying t=some (.slice e)) (hx:R I w β lam X (a.eval x)) (h:nh str [X] k)
  (hk:yp w I β lam d k a o.dst K):o.wp P a w K Q:=by
 have run:∀ {n:Nat},(Builtin.len_ c.argTypes o.type #[a.eval x]).run P w=.ok (goInt n) w→(execOp a.eval o).run P w=.ok (.value (.int .i64 n)) w:=by
  intro n hr
  simp[execOp,ho,resolve,hc,hargs,invoke,builtin,hr,goInt]
 simp only[nh] at h
 unfold nZ at h
 split at h
 ·rename_i sz m rows
  obtain ⟨rfl,h⟩:=h
  obtain ⟨e,hu⟩:∃ e,P.underlying t=some (.slice e):=by simpa using hs
  obtain ⟨av,cap,hv,_⟩:=hx.list_inv
  exact zW (run (by simp[Builtin.len_,ht,hv,run_underlying hu])) (uh _) h hk
 ·rename_i j sz off len
  obtain ⟨rfl,h⟩:=h
  obtain ⟨e,hu⟩:∃ e,P.underlying t=some (.slice e):=by simpa using hs
  obtain ⟨b,cap,av,_,hv,_⟩:=hx.sl_inv
  exact zW (run (by simp[Builtin.len_,ht,hv,run_underlying hu])) (uh _) h hk
 ·rename_i j sz off len
  obtain ⟨rfl,h⟩:=h
  obtain ⟨e,hu⟩:∃ e,P.underlying t=some (.slice e):=by simpa using hs
  obtain ⟨cap0,cp,av0,av,_,hv,_⟩:=hx.us_inv
  exact zW (run (by simp[Builtin.len_,ht,hv,run_underlying hu])) (uh _) h hk
 ·rename_i sz rows
  obtain ⟨rfl,h⟩:=h
  obtain ⟨e,hu⟩:∃ e,P.underlying t=some (.slice e):=by simpa using hs
  obtain ⟨av,hv⟩:=hx.lit_len
  exact zW (run (by simp[Builtin.len_,ht,hv,run_underlying hu])) (uh _) h hk
 ·rename_i s
  obtain ⟨rfl,h⟩:=h
  have hu:P.underlying t=some .string:=by simpa using hs
  exact zW (run (by simp[Builtin.len_,ht,hx.val_eq,run_underlying hu])) (uh _) h hk
 ·exact h.elim
theorem Fs {f:Opd→AV}:∀ (l:List Operand) (vs:List Value),sX ((l.map zm).map f)=some vs→(∀ x∈l,R I w β lam (f (zm x)) (a.eval x))→l.map a.eval=vs:=by
 intro l
 induction l with
 | nil=>intro vs h _; simp[sX] at h; simp[h]
 | cons x l ih =>
  intro vs h hR
  simp only[List.map_cons] at h
  cases hX:f (zm x)<;>rw[hX] at h<;>simp only[sX,reduceCtorEq,Option.map_eq_some_iff] at h
  obtain ⟨vs',h',rfl⟩:=h
  have hx:=hR x (by simp)
  rw[hX] at hx
  rw[List.map_cons,hx.val_eq,ih vs' h' (fun y hy=>hR y (by simp[hy]))]
theorem GO {c:Call} {b:Builtin} {f:Opd→AV} {vs:List Value} (ho:o.op=.call c) (hc:c.callee=.builtin b) (hb:b=.max∨b=.min)
  (hv:sX ((c.args.toList.map zm).map f)=some vs) (hR:∀ x∈c.args.toList,R I w β lam (f (zm x)) (a.eval x))
  (h:yX (zr P (if b=.max then Builtin.max_ c.argTypes o.type vs.toArray else Builtin.min_ c.argTypes o.type vs.toArray)) k)
  (hk:yp w I β lam d k a o.dst K):o.wp P a w K Q:=by
 have hargs:c.args.map a.eval=vs.toArray:=by
  apply Array.ext'
  rw[Array.toList_map,Fs _ _ hv hR]
 refine kV ?_ h hk
 rcases hb with rfl | rfl
 ·simp[execOp,ho,resolve,hc,invoke,builtin,hargs]
 ·simp[execOp,ho,resolve,hc,invoke,builtin,hargs]
theorem AL {fid:FuncId} {first caps:Array Operand} {f:Opd→AV} (ho:o.op=.makeFunc (.func fid) first caps) (h0:caps.size=0)
  (hR:∀ x∈first.toList,R I w β lam (f (zm x)) (a.eval x)) (h:k (.fn (.via 0 #[] fid false) (((first.toList.map zm).map f).map strip)) none) (hk:yp w I β lam d k a o.dst K):o.wp P a w K Q:=by
 have hf:caps=#[]:=by simpa using h0
 subst hf
 have key:R I w β lam (.fn (.via 0 #[] fid false) (((first.toList.map zm).map f).map strip)) (fF (.via 0 #[] fid false) (first.map a.eval)):=by
  refine .fn _ _ _ (by simp) (fun sz l rows hm=>?_) fun i c hi=>?_
  ·obtain ⟨u,_,hu⟩:=List.mem_map.1 hm
   have:=a0 u
   rw[hu] at this
   simp[strip] at this
  simp only[List.getElem?_map,Option.map_eq_some_iff] at hi
  obtain ⟨u',⟨u,⟨x,hx,rfl⟩,rfl⟩,rfl⟩:=hi
  have:=hR x (List.mem_iff_getElem?.2 ⟨i,hx⟩)
  have e:(first.map a.eval).getD i undef=a.eval x:=by
   simp at hx
   simp[hx]
  rw[e]
  exact this.strip
 refine zW (v:=.func (.func fid) (first.map a.eval) #[]) (by simp[execOp,ho,Instr.makeFunc]) key h hk
theorem DV {fid:FuncId} {first caps:Array Operand} {f:Opd→AV} (ho:o.op=.makeFunc (.func fid) first caps) (h0:first.size=0)
  (hR:∀ x∈caps.toList,R I w β lam (f (zm x)) (a.eval x)) (h:k (.fn (.func fid) (((caps.toList.map zm).map f).map strip)) none) (hk:yp w I β lam d k a o.dst K):o.wp P a w K Q:=by
 have hf:first=#[]:=by simpa using h0
 subst hf
 refine zW (v:=.func (.func fid) #[] (caps.map a.eval)) (by simp[execOp,ho,Instr.makeFunc]) (.fn _ _ _ (by simp) (fun sz l rows hm=>?_) fun i c hi=>?_) h hk
 ·obtain ⟨u,_,hu⟩:=List.mem_map.1 hm
  have:=a0 u
  rw[hu] at this
  simp[strip] at this
 simp only[List.getElem?_map,Option.map_eq_some_iff] at hi
 obtain ⟨u',⟨u,⟨x,hx,rfl⟩,rfl⟩,rfl⟩:=hi
 have:=hR x (List.mem_iff_getElem?.2 ⟨i,hx⟩)
 have e:(caps.map a.eval).getD i undef=a.eval x:=by
  simp at hx
  simp[hx]
 rw[e]
 exact this.strip
def Seen (I:Nat→Nat→Prop) (β:zR) (lam:ya):Nat→Nat→Prop:=fun b o=>I b o∨(∃ k,β k=some b)∨∃ l p cap sz,lam l=some (some ⟨b,p,none⟩,0,cap,sz)∧0<cap*sz
theorem R0.seen {x:AV} {v:Value} (h:R0 I w x v):R0 (Seen I β lam) w x v:=h.mono (fun _ _ h=>.inl h) (fun _ _ _ _ h=>h)
theorem Xd {I':Nat→Nat→Prop} {cells:List AV} {b q:Nat}
  (h:∀ j c,cells[j]?=some c→∃ u,I' b (q+j)∧w.cell? ⟨b,q+j,none⟩=some u∧single u=true∧R0 I' w c u) :
  R0 I' w (.ro cells) (.pointer (some ⟨b,q,none⟩)):=by
 refine .ro _ b q (fun j=>(w.cell? ⟨b,q+j,none⟩).getD undef) (fun j c hj=>?_) (fun j c hj=>?_)
 ·obtain ⟨u,h1,h2,h3,_⟩:=h _ _ hj
  exact ⟨h1,by simp[h2],by simp[h2,h3]⟩
 ·obtain ⟨u,_,h2,_,h4⟩:=h _ _ hj
  simpa [h2] using h4
theorem ZO {σ:Nat→Option zb} {x y:AV} {v:Value} (hσ:∀ k en b,σ k=some en→β k=some b→RE I w β lam b en) (hυ:∀ l sz rows,σ l=some (.uarr sz rows)→RU I w β lam l sz rows)
  (hy:xK σ x=some y) (h:R I w β lam x v):R0 (Seen I β lam) w y v∧(nJ x=false→R0 I w y v):=by
 have plain:∀ {x:AV},rf x=true→R I w β lam x v→y=strip x→R0 (Seen I β lam) w y v∧(nJ x=false→R0 I w y v):=by
  intro x hr h e
  subst e
  exact ⟨(h.to0 hr).seen,fun _=>h.to0 hr⟩
 cases x with
 | ptr j off =>
  refine ⟨?_,by simp[nJ]⟩
  simp only[xK] at hy
  split at hy
  ·rename_i cells hs
   split at hy
   ·rename_i hall
    simp only[Option.some.injEq] at hy
    subst hy
    obtain ⟨b,hb,rfl⟩:=h.ptr_inv
    have hE:=hσ _ _ _ hs hb
    refine Xd fun j' c hj=>?_
    simp only[List.getElem?_map,Option.map_eq_some_iff] at hj
    obtain ⟨c',hj,rfl⟩:=hj
    have hr:rf c'=true:=List.all_eq_true.1 hall _ (List.mem_iff_getElem?.2 ⟨j',hj⟩)
    rw[List.getElem?_drop] at hj
    obtain ⟨u,h1,_,h3,h4⟩:=hE _ _ hj
    exact ⟨u,.inr (.inl ⟨j,hb⟩),h1,h3,(h4.to0 hr).seen⟩
   ·cases hy
  ·cases hy
 | eptr j sz i off =>
  refine ⟨?_,by simp[nJ]⟩
  simp only[xK] at hy
  split at hy
  ·rename_i sz' rows hs
   split at hy
   ·rename_i e
    subst e
    simp only[Option.map_eq_some_iff] at hy
    obtain ⟨r,hr,rfl⟩:=hy
    obtain ⟨b,hb,rfl⟩:=h.eptr_inv
    have hE:=hσ _ _ _ hs hb
    refine Xd fun j' c hj=>?_
    rw[List.getElem?_drop] at hj
    obtain ⟨u,h1,_,h3,h4⟩:=hE.2 _ _ _ _ hr hj
    exact ⟨u,.inr (.inl ⟨j,hb⟩),by rw[Nat.add_assoc]; exact h1,h3,h4.seen⟩
   ·cases hy
  ·cases hy
 | sl j sz off len =>
  refine ⟨?_,by simp[nJ]⟩
  simp only[xK] at hy
  split at hy
  ·rename_i sz' rows hs
   split at hy
   ·rename_i e
    obtain ⟨rfl,hle⟩:=e
    simp only[Option.some.injEq] at hy
    subst hy
    obtain ⟨b,cap,av,hb,rfl,hcap,hav⟩:=h.sl_inv
    have hE:=hσ _ _ _ hs hb
    have hlen:((rows.drop off).take len).length=len:=by simp; omega
    by_cases hz:len=0
    ·have hnil:(rows.drop off).take len=[]:=List.eq_nil_of_length_eq_zero (by omega)
     rw[hnil,hz]
     exact .listNil _ _ _ _ (by simp) (by simp)
    ·rw[hav hz]
     have hget:∀ (i:Nat) (r:List AV),((rows.drop off).take len)[i]?=some r→rows[off+i]?=some r:=by
      intro i r hi
      rw[List.getElem?_take] at hi
      split at hi
      ·rw[List.getElem?_drop] at hi; exact hi
      ·cases hi
     have:=R0.mk_list (I:=Seen I β lam) (w:=w) (sz:=sz') (m:=.plain) (rows:=(rows.drop off).take len) (b:=b) (q:=off*sz') (cap:=cap) (by omega) (by simp) (by simp)
      (fun i r hi=>hE.1 _ _ (hget i r hi)) (fun i r j' c hi hj=>by
       obtain ⟨u,h1,_,h3,h4⟩:=hE.2 _ _ _ _ (hget i r hi) hj
       rw[Nat.add_mul] at h1
       exact ⟨u,.inr (.inl ⟨j,hb⟩),h1,h3,h4.seen⟩)
     rw[hlen] at this
     exact this
   ·cases hy
  ·cases hy
 | us l sz off len =>
  refine ⟨?_,by simp[nJ]⟩
  simp only[xK] at hy
  split at hy
  ·rename_i sz' rows hs
   split at hy
   ·rename_i e
    obtain ⟨rfl,hle,hrf⟩:=e
    simp only[Option.some.injEq] at hy
    subst hy
    obtain ⟨cap,cp,av0,av,hl,rfl,hlc,hoc,hav⟩:=h.us_inv
    have hU:=hυ _ _ _ hs
    have hlen:(zQ ((rows.drop off).take len)).length=len:=by simp[zQ]; omega
    by_cases hz:len=0
    ·have hnil:zQ ((rows.drop off).take len)=[]:=List.eq_nil_of_length_eq_zero (by omega)
     rw[hnil,hz]
     exact .listNil _ _ _ _ (by simp) (by simp)
    ·obtain ⟨b,q,rfl,rfl⟩:=hav (by omega)
     have hget:∀ (i:Nat) (r:List AV),(zQ ((rows.drop off).take len))[i]?=some r→∃ r0,rows[off+i]?=some r0∧r=r0.map strip∧r0.all rf=true:=by
      intro i r hi
      simp only[zQ,List.getElem?_map,Option.map_eq_some_iff] at hi
      obtain ⟨r0,hi,rfl⟩:=hi
      have hm:=List.all_eq_true.1 hrf r0 (List.mem_iff_getElem?.2 ⟨i,hi⟩)
      rw[List.getElem?_take] at hi
      split at hi
      ·rw[List.getElem?_drop] at hi; exact ⟨r0,hi,rfl,hm⟩
      ·cases hi
     have:=R0.mk_list (I:=Seen I β lam) (w:=w) (sz:=sz') (m:=.plain) (rows:=zQ ((rows.drop off).take len)) (b:=b) (q:=q+off*sz') (cap:=cp) (by omega) (by simp) (by simp)
      (fun i r hi=>by
       obtain ⟨r0,g1,rfl,_⟩:=hget i r hi
       rw[List.length_map]
       exact (hU.row hl g1).1) (fun i r j' c hi hj=>by
       obtain ⟨r0,g1,rfl,g3⟩:=hget i r hi
       simp only[List.getElem?_map,Option.map_eq_some_iff] at hj
       obtain ⟨c0,hj,rfl⟩:=hj
       obtain ⟨g4,g5⟩:=hU.row hl g1
       obtain ⟨u,h1,h3,h4⟩:=g5 j' c0 hj
       have hr:=List.all_eq_true.1 g3 c0 (List.mem_iff_getElem?.2 ⟨j',hj⟩)
       have hjl:j'<sz':=by have:=(List.getElem?_eq_some_iff.1 hj).1; omega
       rw[Nat.add_mul,← Nat.add_assoc] at h1
       refine ⟨u,.inr (.inr ⟨l,q,cap,sz',hl,Nat.mul_pos ?_ ?_⟩),h1,h3,(h4.to0 hr).seen⟩<;>omega)
     rw[hlen] at this
     exact this
   ·cases hy
  ·cases hy
 | up l sz i off =>
  refine ⟨?_,by simp[nJ]⟩
  simp only[xK] at hy
  split at hy
  ·rename_i sz' rows hs
   split at hy
   ·rename_i r hr
    split at hy
    ·rename_i e
     obtain ⟨rfl,hall⟩:=e
     simp only[Option.some.injEq] at hy
     subst hy
     obtain ⟨cap,b,q,hl,rfl⟩:=h.up_inv
     obtain ⟨g4,g5⟩:=(hυ _ _ _ hs).row hl hr
     have hcl:rows.length≤cap:=by
      obtain ⟨a',cap',k1,k2,_⟩:=hυ _ _ _ hs
      rw[hl] at k1
      cases k1
      exact k2
     have hil:i<rows.length:=(List.getElem?_eq_some_iff.1 hr).1
     refine Xd fun j' c hj=>?_
     simp only[List.getElem?_map,Option.map_eq_some_iff] at hj
     obtain ⟨c',hj,rfl⟩:=hj
     have hrr:rf c'=true:=List.all_eq_true.1 hall _ (List.mem_iff_getElem?.2 ⟨j',hj⟩)
     rw[List.getElem?_drop] at hj
     have hjl:off+j'<sz':=by have:=(List.getElem?_eq_some_iff.1 hj).1; omega
     obtain ⟨u,h1,h3,h4⟩:=g5 _ _ hj
     rw[← Nat.add_assoc] at h1
     exact ⟨u,.inr (.inr ⟨l,q,cap,sz',hl,Nat.mul_pos (by omega) (by omega)⟩),h1,h3,(h4.to0 hrr).seen⟩
    ·cases hy
   ·cases hy
  ·cases hy
 | fn f caps=>simp[xK] at hy
 | undef=>simp only[xK,Option.some.injEq] at hy; exact plain rfl h hy.symm
 | val u=>simp only[xK,Option.some.injEq] at hy; exact plain rfl h hy.symm
 | agg cells=>simp only[xK,Option.some.injEq] at hy; exact plain rfl h hy.symm
 | tuple cells=>simp[xK] at hy
 | iface t x=>simp only[xK,Option.some.injEq] at hy; exact plain rfl h hy.symm
 | list sz m rows=>simp only[xK,Option.some.injEq] at hy; exact plain rfl h hy.symm
 | ro cells=>simp only[xK,Option.some.injEq] at hy; exact plain rfl h hy.symm
 | mp k=>simp[xK] at hy
 | raw cells=>simp[xK] at hy
 | lit sz rows =>
  refine ⟨?_,by simp[nJ]⟩
  simp only[xK] at hy
  split at hy
  ·rename_i hr
   simp only[Option.some.injEq] at hy
   subst hy
   exact (h.lit_low hr).seen
  ·cases hy
theorem fO {α γ:Type} {f:α→Option γ}:∀ {l:List α} {l':List γ},yD f l=some l'→l'.length=l.length∧∀ (i:Nat) (y:γ),l'[i]?=some y→∃ x,l[i]?=some x∧f x=some y:=by
 intro l
 induction l with
 | nil=>intro l' h; simp only[yD,Option.some.injEq] at h; subst h; simp
 | cons x l ih =>
  intro l' h
  simp only[yD] at h
  split at h
  ·rename_i y hy
   simp only[Option.map_eq_some_iff] at h
   obtain ⟨l'',h,rfl⟩:=h
   obtain ⟨h1,h2⟩:=ih h
   refine ⟨by simp[h1],fun i z hi=>?_⟩
   cases i with
   | zero=>simp at hi; subst hi; exact ⟨x,rfl,hy⟩
   | succ i=>simp at hi; simpa using h2 i z hi
  ·cases h
theorem ZP {σ:Nat→Option zb} {x y:AV} {v:Value} (hσ:∀ k en b,σ k=some en→β k=some b→RE I w β lam b en) (hυ:∀ l sz rows,σ l=some (.uarr sz rows)→RU I w β lam l sz rows)
  (hy:lg σ x=some y) (h:R I w β lam x v):R0 (Seen I β lam) w y v∧(nJ x=false→R0 I w y v):=by
 cases x with
 | ptr j off =>
  refine ⟨?_,by simp[nJ]⟩
  simp only[lg] at hy
  split at hy
  ·rename_i cells hs
   split at hy
   ·rename_i hall
    exact (ZO hσ hυ (x:=.ptr j off) (by simp only[xK,hs,hall,if_true]; exact hy) h).1
   ·simp only[Option.map_eq_some_iff] at hy
    obtain ⟨ys,hys,rfl⟩:=hy
    obtain ⟨b,hb,rfl⟩:=h.ptr_inv
    have hE:=hσ _ _ _ hs hb
    refine Xd fun j' c hj=>?_
    obtain ⟨_,hget⟩:=fO hys
    obtain ⟨c',hj',hc⟩:=hget _ _ hj
    rw[List.getElem?_drop] at hj'
    obtain ⟨u,h1,_,h3,h4⟩:=hE _ _ hj'
    exact ⟨u,.inr (.inl ⟨j,hb⟩),h1,h3,(ZO hσ hυ hc h4).1⟩
  ·cases hy
 | _=>exact ZO hσ hυ hy h
theorem lF {σ:Nat→Option zb} {x y:AV} {v:Value} (hσ:∀ k en b,σ k=some en→β k=some b→RE I w β lam b en) (hυ:∀ l sz rows,σ l=some (.uarr sz rows)→RU I w β lam l sz rows)
  (hy:wu σ x=some y) (h:R I w β lam x v):R0 (Seen I β lam) w y v∧(sH x=false→R0 I w y v):=by
 cases x with
 | fn f caps =>
  simp only[wu,Option.map_eq_some_iff] at hy
  obtain ⟨caps',hc,rfl⟩:=hy
  obtain ⟨vs,rfl,hs,hR⟩:=h.fn_inv
  obtain ⟨hl,hg⟩:=fO hc
  refine ⟨.fn f caps' vs (by omega) fun i c hi=>?_,fun hno=>.fn f caps' vs (by omega) fun i c hi=>?_⟩
  ·obtain ⟨x,hx,hxc⟩:=hg i c hi
   exact (ZP hσ hυ hxc (hR i x hx)).1
  ·obtain ⟨x,hx,hxc⟩:=hg i c hi
   refine (ZP hσ hυ hxc (hR i x hx)).2 ?_
   simp only[sH] at hno
   have:=List.any_eq_false.1 hno x (List.mem_iff_getElem?.2 ⟨i,hx⟩)
   simpa using this
 | tuple cells =>
  simp only[wu] at hy
  split at hy
  ·rename_i hall
   simp only[Option.some.injEq] at hy
   subst hy
   obtain ⟨vs,rfl,hs,hR⟩:=h.tuple_inv
   have key:R0 I w (.tuple (cells.map strip)) (.tuple vs):=.tuple _ vs (by simpa using hs) fun i c hi=>by
    simp only[List.getElem?_map,Option.map_eq_some_iff] at hi
    obtain ⟨c0,hi,rfl⟩:=hi
    exact (hR i c0 hi).to0 (List.all_eq_true.1 hall _ (List.mem_iff_getElem?.2 ⟨i,hi⟩))
   exact ⟨key.seen,fun _=>key⟩
  ·cases hy
 | _=>simp only[wu] at hy; exact ZP hσ hυ hy h
theorem Gc {I':Nat→Nat→Prop} {w':World} {r:AV} {v:Value} (h:R0 I w r v) (hp:pf1 r=true):R0 I' w' r v:=by
 cases r<;>simp only[pf1,Bool.false_eq_true] at hp
 ·rw[h.val_eq]; exact .val _
 ·obtain ⟨vs,rfl,hs,h1,hc⟩:=h.agg_inv
  refine .agg _ vs hs h1 fun i c hi=>?_
  have:=List.all_eq_true.1 hp c (List.mem_iff_getElem?.2 ⟨i,hi⟩)
  cases c<;>simp only[M4,Bool.false_eq_true] at this
  rw[(hc i _ hi).val_eq]
  exact .val _
theorem CN {I':Nat→Nat→Prop} {w':World} {r:AV} {v:Value} (h:R0 I w r v) (hp:pf r=true):R0 I' w' r v:=by
 cases r with
 | tuple vs =>
  cases h with
  | tuple _ us hs hc =>
   refine .tuple _ us hs fun i c hi=>?_
   simp only[pf] at hp
   exact Gc (hc i c hi) (List.all_eq_true.1 hp c (List.mem_iff_getElem?.2 ⟨i,hi⟩))
 | _=>exact Gc h hp
theorem bn {f:FuncId} {vs:Array Value} {xs:List AV} {σ:Nat→Option zb} (hrun:(execOp a.eval o).run P w=.ok (.enter f vs) w) (hs:vs.size=xs.length)
  (hR:∀ i x,xs[i]?=some x→R I w β lam x (vs.getD i undef)) (hσ:∀ k en b,σ k=some en→β k=some b→RE I w β lam b en) (hυ:∀ l sz rows,σ l=some (.uarr sz rows)→RU I w β lam l sz rows)
  (hI:∀ b o,I b o→b<w.heap.size) (hβ:∀ k b,β k=some b→b<w.heap.size) (hlm:∀ l b p cap sz,lam l=some (some ⟨b,p,none⟩,0,cap,sz)→0<cap*sz→b<w.heap.size) (h:xY P f σ xs k) (hk:yp w I β lam d k a o.dst K):o.wp P a w K Q:=by
 unfold xY at h
 split at h
 ·rename_i args hargs
  obtain ⟨r,hsc,hpf,h⟩:=h
  obtain ⟨hl,hg⟩:=fO hargs
  have done:∀ (J:Nat→Nat→Prop),(∀ b o,J b o→b<w.heap.size)→(∀ i x,args[i]?=some x→R0 J w x (vs.getD i undef)) →
    (∀ (w':World) (v:Value),R0 (fun b o=>(J b o∨w.heap.size≤b)∧b<w'.heap.size) w' r v→w.heap.size≤w'.heap.size→R0 (fun b o=>I b o∨(w.heap.size≤b∧b<w'.heap.size)) w' r v)→o.wp P a w K Q:=by
   intro J hJ hJR hres
   have hcall:=hsc J vs w hJ (by omega) hJR
   unfold Oper.wp
   rw[hrun]
   refine hcall.mono fun e w' ⟨v,he,hb,hr⟩=>?_
   subst he
   exact hk _ _ _ _ (fun b o=>I b o∨(w.heap.size≤b∧b<w'.heap.size)) β h ⟨hb,fun _ _ h=>.inl h,fun _ _ h=>h,fun _=>rfl,(fun _ h=>by cases h),.base (hres w' v hr hb.size)⟩
  by_cases href:xs.any sH=true
  ·refine done (Seen I β lam) (fun b o h=>?_) (fun i x hi=>?_) (fun w' v hr _=>CN hr (hpf href))
   ·rcases h with h | h
    ·exact hI _ _ h
    ·rcases h with ⟨k,h⟩ | ⟨l,p,cap,sz,h,h0⟩
     ·exact hβ _ _ h
     ·exact hlm _ _ _ _ _ h h0
   ·obtain ⟨x',hx',hsn⟩:=hg i x hi
    exact (lF hσ hυ hsn (hR i x' hx')).1
  ·refine done I hI (fun i x hi=>?_) (fun w' v hr hle=>hr.mono (fun b o hb=>?_) (fun _ _ _ _ h=>h))
   ·obtain ⟨x',hx',hsn⟩:=hg i x hi
    refine (lF hσ hυ hsn (hR i x' hx')).2 ?_
    have:=List.any_eq_false.1 (by simpa using href) x' (List.mem_iff_getElem?.2 ⟨i,hx'⟩)
    simpa using this
   ·rcases hb.1 with h | h
    ·exact .inl h
    ·exact .inr ⟨h,hb.2⟩
 ·exact h.elim
theorem uM {f:FuncId} {vs:Array Value} (h:yM P f=true):(callFunc f vs).run P w=.ok (.enter f vs) w:=by
 unfold yM at h
 split at h
 ·cases h
 ·rename_i fn hf
  simp only[Bool.and_eq_true,Bool.not_eq_true'] at h
  have h2:fn.body.isNone=false:=by
   cases hb:fn.body with
   | none=>simp[hb] at h
   | some _=>rfl
  unfold callFunc
  simp only[Sem.run_bind,run_program,Result.andThen_ok,hf]
  rw[if_neg (by rw[h.2]; simp),if_neg (by rw[h2]; simp)]
  rfl
theorem gh {f:Opd→AV} {l:List Operand} (hR:∀ x∈l,R I w β lam (f (zm x)) (a.eval x)) :
  ∀ i x,((l.map zm).map f)[i]?=some x→R I w β lam x ((l.map a.eval).toArray.getD i undef):=by
 intro i x hi
 simp only[List.getElem?_map,Option.map_eq_some_iff] at hi
 obtain ⟨u,⟨y,hy,rfl⟩,rfl⟩:=hi
 have:=hR y (List.mem_iff_getElem?.2 ⟨i,hy⟩)
 have e:((l.map a.eval).toArray).getD i undef=a.eval y:=by simp[hy]
 rw[e]
 exact this
theorem DP {c:Call} {fid:FuncId} {f:Opd→AV} {σ:Nat→Option zb} (ho:o.op=.call c) (hc:c.callee=.value (.func fid)) (hok:yM P fid=true)
  (hR:∀ x∈c.args.toList,R I w β lam (f (zm x)) (a.eval x)) (hσ:∀ k en b,σ k=some en→β k=some b→RE I w β lam b en) (hυ:∀ l sz rows,σ l=some (.uarr sz rows)→RU I w β lam l sz rows)
  (hI:∀ b o,I b o→b<w.heap.size) (hβ:∀ k b,β k=some b→b<w.heap.size) (hlm:∀ l b p cap sz,lam l=some (some ⟨b,p,none⟩,0,cap,sz)→0<cap*sz→b<w.heap.size) (h:xY P fid σ ((c.args.toList.map zm).map f) k)
  (hk:yp w I β lam d k a o.dst K):o.wp P a w K Q:=by
 refine bn (vs:=(c.args.toList.map a.eval).toArray) ?_ (by simp) (gh hR) hσ hυ hI hβ hlm h hk
 have hargs:c.args.map a.eval=(c.args.toList.map a.eval).toArray:=by apply Array.ext'; simp
 have:=uM (w:=w) (vs:=(c.args.toList.map a.eval).toArray) hok
 simp only[execOp,ho,resolve,hc,hargs,Act.eval,Deferred.ofValue]
 simp[invoke,this]
theorem GH {c:Call} {fv:Operand} {ty:TypeId} {ph:Array FieldStep} {bo:Bool} {fid:FuncId} {caps:List AV} {f:Opd→AV} {σ:Nat→Option zb} (ho:o.op=.call c) (hc:c.callee=.value fv) (hok:yM P fid=true)
  (hv:R I w β lam (.fn (.via ty ph fid bo) caps) (a.eval fv))
  (hR:∀ x∈c.args.toList,R I w β lam (f (zm x)) (a.eval x)) (hσ:∀ k en b,σ k=some en→β k=some b→RE I w β lam b en) (hυ:∀ l sz rows,σ l=some (.uarr sz rows)→RU I w β lam l sz rows)
  (hI:∀ b o,I b o→b<w.heap.size) (hβ:∀ k b,β k=some b→b<w.heap.size) (hlm:∀ l b p cap sz,lam l=some (some ⟨b,p,none⟩,0,cap,sz)→0<cap*sz→b<w.heap.size) (h:xY P fid σ (caps++(c.args.toList.map zm).map f) k)
  (hk:yp w I β lam d k a o.dst K):o.wp P a w K Q:=by
 obtain ⟨us,hv',hs,hcR⟩:=hv.fn_inv
 simp only[fF] at hv'
 refine bn (vs:=us++(c.args.toList.map a.eval).toArray) ?_ (by simp[hs]) (fun i x hi=>?_) hσ hυ hI hβ hlm h hk
 ·have hargs:c.args.map a.eval=(c.args.toList.map a.eval).toArray:=by apply Array.ext'; simp
  simp only[execOp,ho,resolve,hc,hargs,hv',Deferred.ofValue]
  simp[invoke,uM hok]
 ·by_cases hlt:i<caps.length
  ·rw[List.getElem?_append_left hlt] at hi
   have:=hcR i x hi
   have e:(us++(c.args.toList.map a.eval).toArray).getD i undef=us.getD i undef:=by
    have:i<us.size:=by omega
    simp[Array.getElem?_append,this]
   rw[e]
   exact this
  ·rw[List.getElem?_append_right (by omega)] at hi
   have:=gh hR _ x hi
   have e:(us++(c.args.toList.map a.eval).toArray).getD i undef=(c.args.toList.map a.eval).toArray.getD (i-caps.length) undef:=by
    have:¬ i<us.size:=by omega
    rw[← hs]
    simp[Array.getElem?_append,this]
   rw[e]
   exact this
theorem GJ {c:Call} {fv:Operand} {fid:FuncId} {caps:List AV} {f:Opd→AV} {σ:Nat→Option zb} (ho:o.op=.call c) (hc:c.callee=.value fv) (hok:yM P fid=true)
  (hv:R I w β lam (.fn (.func fid) caps) (a.eval fv))
  (hR:∀ x∈c.args.toList,R I w β lam (f (zm x)) (a.eval x)) (hσ:∀ k en b,σ k=some en→β k=some b→RE I w β lam b en) (hυ:∀ l sz rows,σ l=some (.uarr sz rows)→RU I w β lam l sz rows)
  (hI:∀ b o,I b o→b<w.heap.size) (hβ:∀ k b,β k=some b→b<w.heap.size) (hlm:∀ l b p cap sz,lam l=some (some ⟨b,p,none⟩,0,cap,sz)→0<cap*sz→b<w.heap.size) (h:xY P fid σ ((c.args.toList.map zm).map f++caps) k)
  (hk:yp w I β lam d k a o.dst K):o.wp P a w K Q:=by
 obtain ⟨us,hv',hs,hcR⟩:=hv.fn_inv
 simp only[fF] at hv'
 refine bn (vs:=(c.args.toList.map a.eval).toArray++us) ?_ (by simp[hs]) (fun i x hi=>?_) hσ hυ hI hβ hlm h hk
 ·have hargs:c.args.map a.eval=(c.args.toList.map a.eval).toArray:=by apply Array.ext'; simp
  simp only[execOp,ho,resolve,hc,hargs,hv',Deferred.ofValue]
  simp[invoke,uM hok]
 ·by_cases hlt:i<c.args.toList.length
  ·rw[List.getElem?_append_left (by simpa using hlt)] at hi
   have:=gh hR i x hi
   have e:((c.args.toList.map a.eval).toArray++us).getD i undef=(c.args.toList.map a.eval).toArray.getD i undef:=by
    have:i<c.args.size:=by simpa using hlt
    simp[Array.getElem?_append,this]
   rw[e]
   exact this
  ·rw[List.getElem?_append_right (by simpa using hlt)] at hi
   simp only[List.length_map] at hi
   have:=hcR _ x hi
   have e:((c.args.toList.map a.eval).toArray++us).getD i undef=us.getD (i-c.args.toList.length) undef:=by
    have:¬ i<c.args.size:=by simpa using hlt
    simp[Array.getElem?_append,this]
   rw[e]
   exact this
theorem LA {t:TypeId} {name:String} {f:FuncId} {v:Value} (h:bH P t name=some f):(do (method ((← program).types.size+Made.depth) t v name:Sem (FuncId × Value))).run P w=.ok (f,v) w:=by
 unfold bH at h
 split at h
 ·rename_i i fs hi hu
  split at h
  ·rename_i m hm
   split at h
   ·rename_i hp
    split at h
    ·rename_i f' hf
     cases h
     have hp':m.path.toList=[]:=by
      have:=Array.length_toList (xs:=m.path)
      exact List.eq_nil_of_length_eq_zero (by omega)
     obtain ⟨n,hn⟩:∃ n,P.types.size+Made.depth=n+1:=⟨P.types.size+(Made.depth-1),by simp[Made.depth]⟩
     have e1:(typeInfo t).run P w=.ok i w:=by simp[typeInfo,run_program,hi]
     have e2:(underlying t).run P w=.ok (.struct fs) w:=by simp[underlying,run_program,hu]
     simp only[Sem.run_bind,run_program,Result.andThen_ok,hn,method,e1,hm,hp',follow,Sem.run_pure,hf,receiverAt,e2,Place.get]
    ·cases h
   ·cases h
  ·cases h
 ·cases h
theorem DW {t:TypeId} {x:Operand} {X:AV} {u:TypeDesc} (ho:o.op=.makeInterface t x) (hu:P.underlying t=some u) (hn:∀ ms,u≠.interface ms) (hX:R I w β lam X (a.eval x))
  (hr:rf X=true) (h:k (.iface t (strip X)) none) (hk:yp w I β lam d k a o.dst K):o.wp P a w K Q:=by
 refine zW (v:=.iface t (a.eval x)) ?_ (.base (.iface t _ _ (hX.to0 hr))) h hk
 have e2:(underlying t).run P w=.ok u w:=by simp[underlying,run_program,hu]
 simp only[execOp,ho,Instr.makeInterface,Sem.run_bind,e2,Result.andThen_ok]
 cases u<;>first | rfl | exact absurd rfl (hn _)
theorem GI {c:Call} {recv:Operand} {name:String} {t:TypeId} {x:AV} {fid:FuncId} {f:Opd→AV} {σ:Nat→Option zb} (ho:o.op=.call c) (hc:c.callee=.invoke recv name) (hm:bH P t name=some fid) (hok:yM P fid=true)
  (hv:R I w β lam (.iface t x) (a.eval recv))
  (hR:∀ x∈c.args.toList,R I w β lam (f (zm x)) (a.eval x)) (hσ:∀ k en b,σ k=some en→β k=some b→RE I w β lam b en) (hυ:∀ l sz rows,σ l=some (.uarr sz rows)→RU I w β lam l sz rows)
  (hI:∀ b o,I b o→b<w.heap.size) (hβ:∀ k b,β k=some b→b<w.heap.size) (hlm:∀ l b p cap sz,lam l=some (some ⟨b,p,none⟩,0,cap,sz)→0<cap*sz→b<w.heap.size) (h:xY P fid σ (x::(c.args.toList.map zm).map f) k)
  (hk:yp w I β lam d k a o.dst K):o.wp P a w K Q:=by
 obtain ⟨v,hv',hR0⟩:∃ v,a.eval recv=.iface t v∧R0 I w x v:=by
  generalize hz:a.eval recv=z at hv
  cases hv with
  | base h=>cases h with
   | iface _ _ v h=>exact ⟨v,rfl,h⟩
 refine bn (vs:=#[v]++(c.args.toList.map a.eval).toArray) ?_ (by simp) (fun i y hi=>?_) hσ hυ hI hβ hlm h hk
 ·have hargs:c.args.map a.eval=(c.args.toList.map a.eval).toArray:=by apply Array.ext'; simp
  have hmm:=LA (w:=w) (v:=v) hm
  simp only[Sem.run_bind,run_program,Result.andThen_ok] at hmm
  have e1:(#[Value.iface t v]++(c.args.toList.map a.eval).toArray).extract 1 (#[Value.iface t v]++(c.args.toList.map a.eval).toArray).size=(c.args.toList.map a.eval).toArray:=by
   apply Array.ext'; simp[List.take_of_length_le]
  have e2:(#[Value.iface t v]++(c.args.toList.map a.eval).toArray)[0]?=some (.iface t v):=by simp
  simp only[execOp,ho,resolve,hc,hargs,hv',Sem.run_bind,Sem.run_pure,Result.andThen_ok,invoke,e2,e1,callMethod,run_program,hmm,uM hok]
 ·cases i with
  | zero =>
   simp only[List.getElem?_cons_zero,Option.some.injEq] at hi
   subst hi
   exact .base (by simpa using hR0)
  | succ i =>
   simp only[List.getElem?_cons_succ] at hi
   have:=gh hR i y hi
   have e:(#[v]++(c.args.toList.map a.eval).toArray).getD (i+1) undef=(c.args.toList.map a.eval).toArray.getD i undef:=by
    simp
   rw[e]
   exact this
end
section
variable {P:Program} {I:Nat→Nat→Prop} {w:World} {β:zR} {lam:ya} {o:Oper} {a:Act} {K:Act→World→Prop}
  {Q:Exit→Act→World→Prop} {d:Nat} {k:AV→Option zb→Prop}
theorem DO {op:AOp} {os:List Opd} {f:Opd→AV} {σ:Nat→Option zb} (htr:kY P o.type o.op=some (op,os)) (hE:isE op=true)
  (hR:∀ x∈o.op.operands.toList,R I w β lam (f (zm x)) (a.eval x)) (hσ:∀ k en b,σ k=some en→β k=some b→RE I w β lam b en) (hυ:∀ l sz rows,σ l=some (.uarr sz rows)→RU I w β lam l sz rows)
  (hd:σ d=none→β d=none) (hI:∀ b o,I b o→b<w.heap.size) (hβ:∀ k b,β k=some b→b<w.heap.size) (hlm:∀ l b p cap sz,lam l=some (some ⟨b,p,none⟩,0,cap,sz)→0<cap*sz→b<w.heap.size)
  (h:zN P d op (os.map f) σ k) (hk:yp w I β lam d k a o.dst K):o.wp P a w K Q:=by
 cases hop:o.op<;>rw[hop] at htr hR<;>simp only[kY,reduceCtorEq,Option.some.injEq,Prod.mk.injEq,Option.map_eq_some_iff] at htr
 case move x =>
  obtain ⟨rfl,rfl⟩:=htr
  exact Mm (.inl hop) (hR x (by simp[Op.operands])) h hk
 case assign x =>
  obtain ⟨rfl,rfl⟩:=htr
  exact Mm (.inr hop) (hR x (by simp[Op.operands])) h hk
 case pick c x y =>
  obtain ⟨rfl,rfl⟩:=htr
  simp only[zN,List.map_cons,List.map_nil] at h
  split at h
  ·rename_i t X Y heq
   simp only[List.cons.injEq,and_true] at heq
   obtain ⟨h1,rfl,rfl⟩:=heq
   have hc:=hR c (by simp[Op.operands])
   rw[h1] at hc
   exact DY hop hc (hR x (by simp[Op.operands])) (hR y (by simp[Op.operands])) h.1 h.2 hk
  ·exact h.elim
 case alloc t =>
  obtain ⟨z,hz,rfl,rfl⟩:=htr
  exact GE hop hz hI (hd h.1) h.2 hk
 case box t x =>
  obtain ⟨rfl,rfl⟩:=htr
  simp only[zN,List.map_cons,List.map_nil] at h
  split at h
  ·rename_i cs hX
   exact AJ hop (hR x (by simp[Op.operands])) hX hI (hd h.1) h.2 hk
  ·exact h.elim
 case build t parts =>
  split at htr
  ·rename_i z ps hz hp
   split at htr
   ·rename_i hok
    simp only[Option.some.injEq,Prod.mk.injEq] at htr
    obtain ⟨rfl,rfl⟩:=htr
    simp only[zN] at h
    refine GF (e:=f) hop hz hp hok (fun p hp'=>hR p.2 ?_) h hk
    simp only[Op.operands,List.mem_map]
    exact ⟨p,hp',rfl⟩
   ·cases htr
  ·cases htr
 case buildSlice t n parts =>
  split at htr
  ·rename_i e he
   split at htr
   ·rename_i s z hs hz
    split at htr
    ·rename_i hlim
     simp only[Option.some.injEq,Prod.mk.injEq] at htr
     obtain ⟨hopp,rfl⟩:=htr
     have hps:∀ p∈parts.toList,R I w β lam (f (zm p.2)) (a.eval p.2):=fun p hp'=>hR p.2 (by
      simp only[Op.operands,List.mem_map]
      exact ⟨p,hp',rfl⟩)
     split at hopp
     ·subst hopp
      simp only[zN] at h
      split at h
      ·rename_i rows hf
       obtain ⟨h1,h2,h⟩:=h
       exact ah6 (f:=f) hop he hs hz hlim h1 h2 hI hps hf h hk
      ·exact h.elim
     ·subst hopp
      simp only[zN] at h
      split at h
      ·rename_i rows hf
       obtain ⟨h1,h2,h⟩:=h
       exact PR (f:=f) hop he hs hz hlim h1 h2 hI hps hf h hk
      ·rename_i rows _ hf
       obtain ⟨h1,h2,h⟩:=h
       exact ah6 (f:=f) hop he hs hz hlim h1 h2 hI hps hf h hk
      ·exact h.elim
    ·cases htr
   ·cases htr
  ·cases htr
 case makeMap t r =>
  cases r with
  | some r=>simp at htr
  | none =>
   simp only[Option.some.injEq,Prod.mk.injEq] at htr
   obtain ⟨rfl,rfl⟩:=htr
   exact GN hop hI (hd h.1) h.2 hk
 case lookup t x i ok =>
  obtain ⟨rfl,rfl⟩:=htr
  exact LJ hop (hR x (by simp[Op.operands])) (hR i (by simp[Op.operands])) hσ h hk
 case mapUpdate t m y x =>
  obtain ⟨rfl,rfl⟩:=htr
  cases hE
 case insert t m y x =>
  obtain ⟨rfl,rfl⟩:=htr
  cases hE
 case load t x =>
  obtain ⟨n,hn,rfl,rfl⟩:=htr
  exact DU hop hn (hR x (by simp[Op.operands])) hσ hυ h hk
 case store t x y =>
  obtain ⟨n,hn,rfl,rfl⟩:=htr
  cases hE
 case nilCheck x =>
  obtain ⟨rfl,rfl⟩:=htr
  simp only[zN,List.map_cons,List.map_nil] at h
  have hx:=hR x (by simp[Op.operands])
  split at h
  ·rename_i j off heq
   simp only[List.cons.injEq,and_true] at heq
   rw[heq] at hx
   exact pQ hop hx (.inl ⟨_,_,rfl⟩) h hk
  ·rename_i j sz i off heq
   simp only[List.cons.injEq,and_true] at heq
   rw[heq] at hx
   exact pQ hop hx (.inr (.inl ⟨_,_,_,_,rfl⟩)) h hk
  ·rename_i j sz i off heq
   simp only[List.cons.injEq,and_true] at heq
   rw[heq] at hx
   exact pQ hop hx (.inr (.inr (.inr (.inr ⟨_,_,_,_,rfl⟩)))) h hk
  ·rename_i cells heq
   simp only[List.cons.injEq,and_true] at heq
   rw[heq] at hx
   exact pQ hop hx (.inr (.inr (.inl ⟨_,rfl⟩))) h hk
  ·rename_i fn caps heq
   simp only[List.cons.injEq,and_true] at heq
   rw[heq] at hx
   exact pQ hop hx (.inr (.inr (.inr (.inl ⟨_,_,rfl⟩)))) h hk
  ·exact h.elim
 case binOp op t x y t' =>
  split at htr
  ·simp only[Option.some.injEq,Prod.mk.injEq] at htr; obtain ⟨rfl,_⟩:=htr; cases hE
  simp only[Option.some.injEq,Prod.mk.injEq] at htr
  obtain ⟨rfl,rfl⟩:=htr
  exact AI hop (hR x (by simp[Op.operands])) (hR y (by simp[Op.operands])) h hk
 case unOp op t x =>
  obtain ⟨rfl,rfl⟩:=htr
  simp only[zN,List.map_cons,List.map_nil] at h
  have hx:=hR x (by simp[Op.operands])
  split at h
  ·rename_i v heq
   simp only[List.cons.injEq,and_true] at heq
   rw[heq] at hx
   exact abD hop hx h hk
  ·exact h.elim
 case convert s t x =>
  split at htr
  ·obtain ⟨rfl,_⟩:=htr; cases hE
  obtain ⟨rfl,rfl⟩:=htr
  simp only[zN,List.map_cons,List.map_nil] at h
  have hx:=hR x (by simp[Op.operands])
  split at h
  ·rename_i v heq
   simp only[List.cons.injEq,and_true] at heq
   rw[heq] at hx
   exact DQ hop hx h hk
  ·rename_i sz m rows heq
   simp only[List.cons.injEq,and_true] at heq
   rw[heq] at hx
   split at h
   ·rename_i ns hns
    exact GK hop hx hns h.1 h.2 hk
   ·exact h.elim
  ·exact h.elim
 case makeFunc fn first caps =>
  cases fn<;>simp only[reduceCtorEq] at htr
  rename_i fid
  split at htr
  ·rename_i h0
   simp only[Option.some.injEq,Prod.mk.injEq] at htr
   obtain ⟨rfl,rfl⟩:=htr
   exact DV (f:=f) hop h0 (fun x hx=>hR x (by simp only[Op.operands,Array.toList_append]; exact List.mem_append_right _ hx)) h hk
  ·split at htr
   ·rename_i h0
    simp only[Option.some.injEq,Prod.mk.injEq] at htr
    obtain ⟨rfl,rfl⟩:=htr
    exact AL (f:=f) hop h0 (fun x hx=>hR x (by simp only[Op.operands,Array.toList_append]; exact List.mem_append_left _ hx)) h hk
   ·cases htr
 case makeInterface t x =>
  split at htr
  ·cases htr
  ·rename_i u hn hu
   simp only[Option.some.injEq,Prod.mk.injEq] at htr
   obtain ⟨rfl,rfl⟩:=htr
   exact DW hop hu (fun ms e=>hn ms (by rw[← e])) (hR x (by simp[Op.operands])) h.1 h.2 hk
  ·cases htr
 case makeSlice t l c =>
  split at htr
  ·rename_i e he
   split at htr
   ·rename_i n by_ z hn hby hz
    split at htr
    ·cases htr
    ·simp only[Option.some.injEq,Prod.mk.injEq] at htr
     obtain ⟨rfl,rfl⟩:=htr
     exact abC hop he hn hby hz hI hd (hR l (by simp[Op.operands])) (hR c (by simp[Op.operands])) h hk
   ·cases htr
  ·cases htr
 case slice t x lo hi mx =>
  have hx:=hR x (by simp[Op.operands])
  have hy:∀ y,lo=some y∨hi=some y∨mx=some y→R I w β lam (f (zm y)) (a.eval y):=by
   intro y hy
   refine hR y ?_
   rcases hy with rfl | rfl | rfl<;>simp[Op.operands]
  split at htr
  ·rename_i e he
   simp only[Option.map_eq_some_iff,Prod.mk.injEq] at htr
   obtain ⟨n,hn,rfl,rfl⟩:=htr
   exact GP hop he hn hx hy h hk
  ·split at htr
   ·rename_i ht
    simp only[Option.some.injEq,Prod.mk.injEq] at htr
    obtain ⟨rfl,rfl⟩:=htr
    simp only[zN,List.map_cons] at h
    split at h
    ·rename_i s ys heq
     simp only[List.cons.injEq] at heq
     obtain ⟨h1,rfl⟩:=heq
     rw[h1] at hx
     exact LL hop ht hx hy h hk
    ·exact h.elim
   ·cases htr
 case fieldAddr t x i =>
  split at htr
  ·rename_i fs hf
   split at htr
   ·rename_i fd hi
    split at htr
    ·rename_i n hn
     split at htr
     ·cases htr
     ·rename_i h0
      simp only[Option.some.injEq,Prod.mk.injEq] at htr
      obtain ⟨rfl,rfl⟩:=htr
      exact GL hop hf hi hn h0 (hR x (by simp[Op.operands])) h hk
    ·cases htr
   ·cases htr
  ·cases htr
 case field t x i =>
  split at htr
  ·rename_i fs hf
   split at htr
   ·rename_i fd hi
    simp only[Option.map_eq_some_iff,Prod.mk.injEq] at htr
    obtain ⟨n,hn,rfl,rfl⟩:=htr
    simp only[zN,List.map_cons,List.map_nil] at h
    have hx:=hR x (by simp[Op.operands])
    split at h
    ·rename_i cells heq
     simp only[List.cons.injEq,and_true] at heq
     rw[heq] at hx
     exact GM hop hf hi hn hx h hk
    ·rename_i cells heq
     simp only[List.cons.injEq,and_true] at heq
     rw[heq] at hx
     exact LG hop hf hi hn hx h hk
    ·exact h.elim
   ·cases htr
  ·cases htr
 case indexAddr t x i =>
  split at htr
  ·rename_i e he
   simp only[Option.map_eq_some_iff,Prod.mk.injEq] at htr
   obtain ⟨n,hn,rfl,rfl⟩:=htr
   exact LI hop he hn (hR x (by simp[Op.operands])) (hR i (by simp[Op.operands])) h hk
  ·rename_i len e _ ha
   simp only[Option.map_eq_some_iff,Prod.mk.injEq] at htr
   obtain ⟨n,hn,rfl,rfl⟩:=htr
   exact LH hop ha hn (hR x (by simp[Op.operands])) (hR i (by simp[Op.operands])) h hk
  ·cases htr
 case index t x i =>
  have hx:=hR x (by simp[Op.operands])
  have hi:=hR i (by simp[Op.operands])
  split at htr
  ·rename_i len e ha
   split at htr
   ·rename_i n l hn hl
    simp only[Option.some.injEq,Prod.mk.injEq] at htr
    obtain ⟨rfl,rfl⟩:=htr
    simp only[zN,List.map_cons,List.map_nil] at h
    split at h
    ·rename_i cells ik j heq
     simp only[List.cons.injEq,and_true] at heq
     rw[heq.1] at hx
     rw[heq.2] at hi
     exact DS hop ha hn hl hx hi h.1 h.2.1 h.2.2 hk
    ·exact h.elim
   ·cases htr
  ·simp only[Option.some.injEq,Prod.mk.injEq] at htr
   obtain ⟨rfl,rfl⟩:=htr
   simp only[zN,List.map_cons,List.map_nil] at h
   split at h
   ·rename_i X v heq
    simp only[List.cons.injEq,and_true] at heq
    obtain ⟨rfl,h2⟩:=heq
    rw[h2] at hi
    split at h
    ·rename_i u hu
     exact DT hop hx hu hi h hk
    ·exact h.elim
   ·exact h.elim
 case extract x i =>
  obtain ⟨rfl,rfl⟩:=htr
  simp only[zN,List.map_cons,List.map_nil] at h
  have hx:=hR x (by simp[Op.operands])
  split at h
  ·rename_i vs heq
   simp only[List.cons.injEq,and_true] at heq
   rw[heq] at hx
   exact PQ hop hx h hk
  ·exact h.elim
 case call c =>
  have hargs:∀ x∈c.args.toList,R I w β lam (f (zm x)) (a.eval x):=fun x hx=>hR x (by
   simp only[Op.operands,Call.operands,Array.toList_append]
   exact List.mem_append_right _ hx)
  unfold rS at htr
  split at htr
  ·rename_i fid hc
   split at htr
   ·rename_i hok
    simp only[Option.some.injEq,Prod.mk.injEq] at htr
    obtain ⟨rfl,rfl⟩:=htr
    exact DP hop hc hok hargs hσ hυ hI hβ hlm h hk
   ·cases htr
  ·rename_i t hc
   simp only[Option.some.injEq,Prod.mk.injEq] at htr
   obtain ⟨rfl,rfl⟩:=htr
   simp only[zN,List.map_cons] at h
   split at h
   ·rename_i fid caps ys heq
    simp only[List.cons.injEq] at heq
    obtain ⟨h1,rfl⟩:=heq
    have hv:=hR (.tmp t) (by simp[Op.operands,Call.operands,hc])
    simp only[zm] at hv
    rw[h1] at hv
    exact GJ hop hc h.1 hv hargs hσ hυ hI hβ hlm h.2 hk
   ·rename_i ty ph fid bo caps ys heq
    simp only[List.cons.injEq] at heq
    obtain ⟨h1,rfl⟩:=heq
    have hv:=hR (.tmp t) (by simp[Op.operands,Call.operands,hc])
    simp only[zm] at hv
    rw[h1] at hv
    exact GH hop hc h.1 hv hargs hσ hυ hI hβ hlm h.2 hk
   ·exact h.elim
  ·rename_i recv name hc
   simp only[Option.some.injEq,Prod.mk.injEq] at htr
   obtain ⟨rfl,rfl⟩:=htr
   simp only[zN,List.map_cons] at h
   split at h
   ·rename_i t x ys heq
    simp only[List.cons.injEq] at heq
    obtain ⟨h1,rfl⟩:=heq
    split at h
    ·rename_i fid hm
     have hv:=hR recv (by simp[Op.operands,Call.operands,hc])
     rw[h1] at hv
     exact GI hop hc hm h.1 hv hargs hσ hυ hI hβ hlm h.2 hk
    ·exact h.elim
   ·exact h.elim
  ·rename_i hc
   split at htr
   ·rename_i t ht
    have one:∀ {X:AV} {l:List Operand},(l.map zm).map f=[X]→∃ x,l=[x]∧X=f (zm x):=by
     intro X l hl
     match l,hl with
     | [x],hl=>simp at hl; exact ⟨x,rfl,hl.symm⟩
    have fin:∀ {str:Bool},(if str=true then P.underlying t=some .string else ∃ e,P.underlying t=some (.slice e)) →
      nh str ((c.args.toList.map zm).map f) k→o.wp P a w K Q:=by
     intro str hs h
     have this:∀ L:List AV,nh str L k→∃ X,L=[X]:=by
      intro L hL
      unfold nh at hL
      split at hL
      ·exact ⟨_,rfl⟩
      ·exact hL.elim
     replace this:=this _ h
     obtain ⟨X,hX⟩:=this
     obtain ⟨x,hx,rfl⟩:=one hX
     rw[hX] at h
     exact AK hop hc (Array.ext' (by simpa using hx)) ht hs (hargs x (by simp[hx])) h hk
    split at htr
    ·rename_i hu
     simp only[Option.some.injEq,Prod.mk.injEq] at htr
     obtain ⟨rfl,rfl⟩:=htr
     exact fin (by simpa using hu) h
    ·rename_i e hu
     simp only[Option.some.injEq,Prod.mk.injEq] at htr
     obtain ⟨rfl,rfl⟩:=htr
     exact fin (by simp only[Bool.false_eq_true,if_false]; exact ⟨e,hu⟩) h
    ·cases htr
   ·cases htr
  ·rename_i hc
   simp only[Option.some.injEq,Prod.mk.injEq] at htr
   obtain ⟨rfl,rfl⟩:=htr
   simp only[zN] at h
   split at h
   ·rename_i vs hvs
    exact GO hop hc (.inr rfl) hvs hargs h hk
   ·exact h.elim
  ·rename_i hc
   simp only[Option.some.injEq,Prod.mk.injEq] at htr
   obtain ⟨rfl,rfl⟩:=htr
   simp only[zN] at h
   split at h
   ·rename_i vs hvs
    exact GO hop hc (.inl rfl) hvs hargs h hk
   ·exact h.elim
  ·split at htr
   ·split at htr
    ·split at htr
     ·split at htr
      ·simp only[Option.some.injEq,Prod.mk.injEq] at htr
       obtain ⟨rfl,rfl⟩:=htr
       cases hE
      ·cases htr
     ·cases htr
    ·cases htr
   ·cases htr
  ·obtain ⟨_,_,_,_,rfl,_⟩:=pW htr; cases hE
end
end Go.Am
