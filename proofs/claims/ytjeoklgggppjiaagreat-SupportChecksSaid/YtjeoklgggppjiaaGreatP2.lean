/- What the proof rests on, part 2: Am10. -/
import Derived.Test.YtjeoklgggppjiaaGreatP1
set_option maxRecDepth 100000
set_option maxHeartbeats 4000000
namespace Go.Am
open Go.RowKit
section
variable {P:Program} {I:Nat→Nat→Prop} {w:World} {β:zV} {lam:z6} {o:Oper} {a:Act} {K:Act→World→Prop}
  {Q:Exit→Act→World→Prop} {d:Nat} {k:AV→Option ze→Prop}
theorem aaW {op:AOp} {os:List Opd} {f:Opd→AV} {σ:Nat→Option ze} (htr:fJ P o.type o.op=some (op,os)) (hE:isE op=true)
  (hR:∀ x∈o.op.operands.toList,R I w β lam (f (zn x)) (a.eval x)) (hσ:∀ k en b,σ k=some en→β k=some b→RE I w β lam b en) (hυ:∀ l sz rows,σ l=some (.uarr sz rows)→RU I w β lam l sz rows)
  (hd:σ d=none→β d=none) (hI:∀ b o,I b o→b<w.heap.size) (hβ:∀ k b,β k=some b→b<w.heap.size) (hlm:∀ l b p cap sz,lam l=some (some ⟨b,p,none⟩,0,cap,sz)→0<cap*sz→b<w.heap.size)
  (h:zL P d op (os.map f) σ k) (hk:yp w I β lam d k a o.dst K):o.wp P a w K Q:=by
 cases hop:o.op<;>rw[hop] at htr hR<;>simp only[fJ,reduceCtorEq,Option.some.injEq,Prod.mk.injEq,Option.map_eq_some_iff] at htr
 case move x =>
  obtain ⟨rfl,rfl⟩:=htr
  exact J8 (.inl hop) (hR x (by simp[Op.operands])) h hk
 case assign x =>
  obtain ⟨rfl,rfl⟩:=htr
  exact J8 (.inr hop) (hR x (by simp[Op.operands])) h hk
 case pick c x y =>
  obtain ⟨rfl,rfl⟩:=htr
  simp only[zL,List.map_cons,List.map_nil] at h
  split at h
  ·rename_i t X Y heq
   simp only[List.cons.injEq,and_true] at heq
   obtain ⟨h1,rfl,rfl⟩:=heq
   have hc:=hR c (by simp[Op.operands])
   rw[h1] at hc
   exact aa6 hop hc (hR x (by simp[Op.operands])) (hR y (by simp[Op.operands])) h.1 h.2 hk
  ·exact h.elim
 case alloc t =>
  obtain ⟨z,hz,rfl,rfl⟩:=htr
  exact CG hop hz hI (hd h.1) h.2 hk
 case box t x =>
  obtain ⟨rfl,rfl⟩:=htr
  simp only[zL,List.map_cons,List.map_nil] at h
  split at h
  ·rename_i cs hX
   exact adW hop (hR x (by simp[Op.operands])) hX hI (hd h.1) h.2 hk
  ·exact h.elim
 case build t parts =>
  split at htr
  ·rename_i z ps hz hp
   split at htr
   ·rename_i hok
    simp only[Option.some.injEq,Prod.mk.injEq] at htr
    obtain ⟨rfl,rfl⟩:=htr
    simp only[zL] at h
    refine CH (e:=f) hop hz hp hok (fun p hp'=>hR p.2 ?_) h hk
    simp only[Op.operands,List.mem_map]
    exact ⟨p,hp',rfl⟩
   ·cases htr
  ·cases htr
 case buildSlice t n parts =>
  split at htr
  ·rename_i e he
   split at htr
   ·rename_i s z hs hz
    split at htr
    ·rename_i hlim
     simp only[Option.some.injEq,Prod.mk.injEq] at htr
     obtain ⟨hopp,rfl⟩:=htr
     have hps:∀ p∈parts.toList,R I w β lam (f (zn p.2)) (a.eval p.2):=fun p hp'=>hR p.2 (by
      simp only[Op.operands,List.mem_map]
      exact ⟨p,hp',rfl⟩)
     split at hopp
     ·subst hopp
      simp only[zL] at h
      split at h
      ·rename_i rows hf
       obtain ⟨h1,h2,h⟩:=h
       exact Yp (f:=f) hop he hs hz hlim h1 h2 hI hps hf h hk
      ·exact h.elim
     ·subst hopp
      simp only[zL] at h
      split at h
      ·rename_i rows hf
       obtain ⟨h1,h2,h⟩:=h
       exact Kq (f:=f) hop he hs hz hlim h1 h2 hI hps hf h hk
      ·rename_i rows _ hf
       obtain ⟨h1,h2,h⟩:=h
       exact Yp (f:=f) hop he hs hz hlim h1 h2 hI hps hf h hk
      ·exact h.elim
    ·cases htr
   ·cases htr
  ·cases htr
 case makeMap t r =>
  cases r with
  | some r=>simp at htr
  | none =>
   simp only[Option.some.injEq,Prod.mk.injEq] at htr
   obtain ⟨rfl,rfl⟩:=htr
   exact CP hop hI (hd h.1) h.2 hk
 case lookup t x i ok =>
  obtain ⟨rfl,rfl⟩:=htr
  exact FA hop (hR x (by simp[Op.operands])) (hR i (by simp[Op.operands])) hσ h hk
 case mapUpdate t m y x =>
  obtain ⟨rfl,rfl⟩:=htr
  cases hE
 case insert t m y x =>
  obtain ⟨rfl,rfl⟩:=htr
  cases hE
 case load t x =>
  obtain ⟨n,hn,rfl,rfl⟩:=htr
  exact aa2 hop hn (hR x (by simp[Op.operands])) hσ hυ h hk
 case store t x y =>
  obtain ⟨n,hn,rfl,rfl⟩:=htr
  cases hE
 case nilCheck x =>
  obtain ⟨rfl,rfl⟩:=htr
  simp only[zL,List.map_cons,List.map_nil] at h
  have hx:=hR x (by simp[Op.operands])
  split at h
  ·rename_i j off heq
   simp only[List.cons.injEq,and_true] at heq
   rw[heq] at hx
   exact mP hop hx (.inl ⟨_,_,rfl⟩) h hk
  ·rename_i j sz i off heq
   simp only[List.cons.injEq,and_true] at heq
   rw[heq] at hx
   exact mP hop hx (.inr (.inl ⟨_,_,_,_,rfl⟩)) h hk
  ·rename_i j sz i off heq
   simp only[List.cons.injEq,and_true] at heq
   rw[heq] at hx
   exact mP hop hx (.inr (.inr (.inr (.inr ⟨_,_,_,_,rfl⟩)))) h hk
  ·rename_i cells heq
   simp only[List.cons.injEq,and_true] at heq
   rw[heq] at hx
   exact mP hop hx (.inr (.inr (.inl ⟨_,rfl⟩))) h hk
  ·rename_i fn caps heq
   simp only[List.cons.injEq,and_true] at heq
   rw[heq] at hx
   exact mP hop hx (.inr (.inr (.inr (.inl ⟨_,_,rfl⟩)))) h hk
  ·exact h.elim
 case binOp op t x y t' =>
  split at htr
  ·simp only[Option.some.injEq,Prod.mk.injEq] at htr; obtain ⟨rfl,_⟩:=htr; cases hE
  simp only[Option.some.injEq,Prod.mk.injEq] at htr
  obtain ⟨rfl,rfl⟩:=htr
  exact adV hop (hR x (by simp[Op.operands])) (hR y (by simp[Op.operands])) h hk
 case unOp op t x =>
  obtain ⟨rfl,rfl⟩:=htr
  simp only[zL,List.map_cons,List.map_nil] at h
  have hx:=hR x (by simp[Op.operands])
  split at h
  ·rename_i v heq
   simp only[List.cons.injEq,and_true] at heq
   rw[heq] at hx
   exact agb hop hx h hk
  ·exact h.elim
 case convert s t x =>
  obtain ⟨rfl,rfl⟩:=htr
  simp only[zL,List.map_cons,List.map_nil] at h
  have hx:=hR x (by simp[Op.operands])
  split at h
  ·rename_i v heq
   simp only[List.cons.injEq,and_true] at heq
   rw[heq] at hx
   exact aaY hop hx h hk
  ·exact h.elim
 case makeFunc fn first caps =>
  cases fn<;>simp only[reduceCtorEq] at htr
  rename_i fid
  split at htr
  ·rename_i h0
   simp only[Option.some.injEq,Prod.mk.injEq] at htr
   obtain ⟨rfl,rfl⟩:=htr
   exact aa3 (f:=f) hop h0 (fun x hx=>hR x (by simp only[Op.operands,Array.toList_append]; exact List.mem_append_right _ hx)) h hk
  ·split at htr
   ·rename_i h0
    simp only[Option.some.injEq,Prod.mk.injEq] at htr
    obtain ⟨rfl,rfl⟩:=htr
    exact adY (f:=f) hop h0 (fun x hx=>hR x (by simp only[Op.operands,Array.toList_append]; exact List.mem_append_left _ hx)) h hk
   ·cases htr
 case makeInterface t x =>
  split at htr
  ·cases htr
  ·rename_i u hn hu
   simp only[Option.some.injEq,Prod.mk.injEq] at htr
   obtain ⟨rfl,rfl⟩:=htr
   exact aa4 hop hu (fun ms e=>hn ms (by rw[← e])) (hR x (by simp[Op.operands])) h.1 h.2 hk
  ·cases htr
 case makeSlice t l c =>
  split at htr
  ·rename_i e he
   split at htr
   ·rename_i n by_ z hn hby hz
    split at htr
    ·cases htr
    ·simp only[Option.some.injEq,Prod.mk.injEq] at htr
     obtain ⟨rfl,rfl⟩:=htr
     exact aga hop he hn hby hz hI hd (hR l (by simp[Op.operands])) (hR c (by simp[Op.operands])) h hk
   ·cases htr
  ·cases htr
 case slice t x lo hi mx =>
  have hx:=hR x (by simp[Op.operands])
  have hy:∀ y,lo=some y∨hi=some y∨mx=some y→R I w β lam (f (zn y)) (a.eval y):=by
   intro y hy
   refine hR y ?_
   rcases hy with rfl | rfl | rfl<;>simp[Op.operands]
  split at htr
  ·rename_i e he
   simp only[Option.map_eq_some_iff,Prod.mk.injEq] at htr
   obtain ⟨n,hn,rfl,rfl⟩:=htr
   exact CR hop he hn hx hy h hk
  ·split at htr
   ·rename_i ht
    simp only[Option.some.injEq,Prod.mk.injEq] at htr
    obtain ⟨rfl,rfl⟩:=htr
    simp only[zL,List.map_cons] at h
    split at h
    ·rename_i s ys heq
     simp only[List.cons.injEq] at heq
     obtain ⟨h1,rfl⟩:=heq
     rw[h1] at hx
     exact FC hop ht hx hy h hk
    ·exact h.elim
   ·cases htr
 case fieldAddr t x i =>
  split at htr
  ·rename_i fs hf
   split at htr
   ·rename_i fd hi
    split at htr
    ·rename_i n hn
     split at htr
     ·cases htr
     ·rename_i h0
      simp only[Option.some.injEq,Prod.mk.injEq] at htr
      obtain ⟨rfl,rfl⟩:=htr
      exact CN hop hf hi hn h0 (hR x (by simp[Op.operands])) h hk
    ·cases htr
   ·cases htr
  ·cases htr
 case field t x i =>
  split at htr
  ·rename_i fs hf
   split at htr
   ·rename_i fd hi
    simp only[Option.map_eq_some_iff,Prod.mk.injEq] at htr
    obtain ⟨n,hn,rfl,rfl⟩:=htr
    simp only[zL,List.map_cons,List.map_nil] at h
    have hx:=hR x (by simp[Op.operands])
    split at h
    ·rename_i cells heq
     simp only[List.cons.injEq,and_true] at heq
     rw[heq] at hx
     exact CO hop hf hi hn hx h hk
    ·rename_i cells heq
     simp only[List.cons.injEq,and_true] at heq
     rw[heq] at hx
     exact Fx hop hf hi hn hx h hk
    ·exact h.elim
   ·cases htr
  ·cases htr
 case indexAddr t x i =>
  split at htr
  ·rename_i e he
   simp only[Option.map_eq_some_iff,Prod.mk.injEq] at htr
   obtain ⟨n,hn,rfl,rfl⟩:=htr
   exact Fz hop he hn (hR x (by simp[Op.operands])) (hR i (by simp[Op.operands])) h hk
  ·rename_i len e _ ha
   simp only[Option.map_eq_some_iff,Prod.mk.injEq] at htr
   obtain ⟨n,hn,rfl,rfl⟩:=htr
   exact Fy hop ha hn (hR x (by simp[Op.operands])) (hR i (by simp[Op.operands])) h hk
  ·cases htr
 case index t x i =>
  have hx:=hR x (by simp[Op.operands])
  have hi:=hR i (by simp[Op.operands])
  split at htr
  ·rename_i len e ha
   split at htr
   ·rename_i n l hn hl
    simp only[Option.some.injEq,Prod.mk.injEq] at htr
    obtain ⟨rfl,rfl⟩:=htr
    simp only[zL,List.map_cons,List.map_nil] at h
    split at h
    ·rename_i cells ik j heq
     simp only[List.cons.injEq,and_true] at heq
     rw[heq.1] at hx
     rw[heq.2] at hi
     exact aa0 hop ha hn hl hx hi h.1 h.2.1 h.2.2 hk
    ·exact h.elim
   ·cases htr
  ·simp only[Option.some.injEq,Prod.mk.injEq] at htr
   obtain ⟨rfl,rfl⟩:=htr
   simp only[zL,List.map_cons,List.map_nil] at h
   split at h
   ·rename_i X v heq
    simp only[List.cons.injEq,and_true] at heq
    obtain ⟨rfl,h2⟩:=heq
    rw[h2] at hi
    split at h
    ·rename_i u hu
     exact aa1 hop hx hu hi h hk
    ·exact h.elim
   ·exact h.elim
 case extract x i =>
  obtain ⟨rfl,rfl⟩:=htr
  simp only[zL,List.map_cons,List.map_nil] at h
  have hx:=hR x (by simp[Op.operands])
  split at h
  ·rename_i vs heq
   simp only[List.cons.injEq,and_true] at heq
   rw[heq] at hx
   exact Kp hop hx h hk
  ·exact h.elim
 case call c =>
  have hargs:∀ x∈c.args.toList,R I w β lam (f (zn x)) (a.eval x):=fun x hx=>hR x (by
   simp only[Op.operands,Call.operands,Array.toList_append]
   exact List.mem_append_right _ hx)
  unfold pP at htr
  split at htr
  ·rename_i fid hc
   split at htr
   ·rename_i hok
    simp only[Option.some.injEq,Prod.mk.injEq] at htr
    obtain ⟨rfl,rfl⟩:=htr
    exact aaX hop hc hok hargs hσ hυ hI hβ hlm h hk
   ·cases htr
  ·rename_i t hc
   simp only[Option.some.injEq,Prod.mk.injEq] at htr
   obtain ⟨rfl,rfl⟩:=htr
   simp only[zL,List.map_cons] at h
   split at h
   ·rename_i fid caps ys heq
    simp only[List.cons.injEq] at heq
    obtain ⟨h1,rfl⟩:=heq
    have hv:=hR (.tmp t) (by simp[Op.operands,Call.operands,hc])
    simp only[zn] at hv
    rw[h1] at hv
    exact CM hop hc h.1 hv hargs hσ hυ hI hβ hlm h.2 hk
   ·rename_i ty ph fid bo caps ys heq
    simp only[List.cons.injEq] at heq
    obtain ⟨h1,rfl⟩:=heq
    have hv:=hR (.tmp t) (by simp[Op.operands,Call.operands,hc])
    simp only[zn] at hv
    rw[h1] at hv
    exact CK hop hc h.1 hv hargs hσ hυ hI hβ hlm h.2 hk
   ·exact h.elim
  ·rename_i recv name hc
   simp only[Option.some.injEq,Prod.mk.injEq] at htr
   obtain ⟨rfl,rfl⟩:=htr
   simp only[zL,List.map_cons] at h
   split at h
   ·rename_i t x ys heq
    simp only[List.cons.injEq] at heq
    obtain ⟨h1,rfl⟩:=heq
    split at h
    ·rename_i fid hm
     have hv:=hR recv (by simp[Op.operands,Call.operands,hc])
     rw[h1] at hv
     exact CL hop hc hm h.1 hv hargs hσ hυ hI hβ hlm h.2 hk
    ·exact h.elim
   ·exact h.elim
  ·rename_i hc
   split at htr
   ·rename_i t ht
    have one:∀ {X:AV} {l:List Operand},(l.map zn).map f=[X]→∃ x,l=[x]∧X=f (zn x):=by
     intro X l hl
     match l,hl with
     | [x],hl=>simp at hl; exact ⟨x,rfl,hl.symm⟩
    have fin:∀ {str:Bool},(if str=true then P.underlying t=some .string else ∃ e,P.underlying t=some (.slice e)) →
      lh str ((c.args.toList.map zn).map f) k→o.wp P a w K Q:=by
     intro str hs h
     have this:∀ L:List AV,lh str L k→∃ X,L=[X]:=by
      intro L hL
      unfold lh at hL
      split at hL
      ·exact ⟨_,rfl⟩
      ·exact hL.elim
     replace this:=this _ h
     obtain ⟨X,hX⟩:=this
     obtain ⟨x,hx,rfl⟩:=one hX
     rw[hX] at h
     exact adX hop hc (Array.ext' (by simpa using hx)) ht hs (hargs x (by simp[hx])) h hk
    split at htr
    ·rename_i hu
     simp only[Option.some.injEq,Prod.mk.injEq] at htr
     obtain ⟨rfl,rfl⟩:=htr
     exact fin (by simpa using hu) h
    ·rename_i e hu
     simp only[Option.some.injEq,Prod.mk.injEq] at htr
     obtain ⟨rfl,rfl⟩:=htr
     exact fin (by simp only[Bool.false_eq_true,if_false]; exact ⟨e,hu⟩) h
    ·cases htr
   ·cases htr
  ·rename_i hc
   simp only[Option.some.injEq,Prod.mk.injEq] at htr
   obtain ⟨rfl,rfl⟩:=htr
   simp only[zL] at h
   split at h
   ·rename_i vs hvs
    exact CQ hop hc (.inr rfl) hvs hargs h hk
   ·exact h.elim
  ·rename_i hc
   simp only[Option.some.injEq,Prod.mk.injEq] at htr
   obtain ⟨rfl,rfl⟩:=htr
   simp only[zL] at h
   split at h
   ·rename_i vs hvs
    exact CQ hop hc (.inl rfl) hvs hargs h hk
   ·exact h.elim
  ·split at htr
   ·split at htr
    ·split at htr
     ·split at htr
      ·simp only[Option.some.injEq,Prod.mk.injEq] at htr
       obtain ⟨rfl,rfl⟩:=htr
       cases hE
      ·cases htr
     ·cases htr
    ·cases htr
   ·cases htr
  ·obtain ⟨_,_,_,_,rfl,_⟩:=mX htr; cases hE
end
end Go.Am
