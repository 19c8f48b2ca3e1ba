/- What the proof rests on, part 8: PC GA GB GC GD GE GF GH GI GJ QA QB QC GK GL QT GM QW GN GQ GR GS GT GU. -/
import Derived.Test.YtpmaehfiifinhaaP7
set_option maxRecDepth 100000
set_option maxHeartbeats 4000000
namespace Go.Pb
section
variable {α:Type} {f g:α→Int} {l l':List α}
theorem sum_perm (h:l.Perm l'):(l.map f).sum=(l'.map f).sum:=by
 induction h with
 | nil=>rfl
 | cons x _ ih=>simp[ih]
 | swap x y l=>simp; omega
 | trans _ _ h1 h2=>rw[h1,h2]
theorem sum_nn (h:∀ x∈l,0≤f x):0≤(l.map f).sum:=by
 induction l with
 | nil=>simp
 | cons x l ih =>
  have h1:=h x (by simp)
  have h2:=ih fun y hy=>h y (by simp[hy])
  simp; omega
def fold (c:α→Prop) [DecidablePred c] (f:α→Int) (v0:Int) (l:List α):Int:=l.foldl (fun v x=>if c x then max v (f x) else v) v0
theorem fold_snoc {c:α→Prop} [DecidablePred c] {v0:Int} {x:α}:fold c f v0 (l++[x])=if c x then max (fold c f v0 l) (f x) else fold c f v0 l:=by
 unfold fold; rw[List.foldl_append]; rfl
theorem fold_spec {c:α→Prop} [DecidablePred c]:∀ (l:List α) (v0:Int),v0≤fold c f v0 l∧(∀ x∈l,c x→f x≤fold c f v0 l)∧(fold c f v0 l=v0∨∃ x∈l,c x∧fold c f v0 l=f x)
 | [],v0=>⟨Int.le_refl _,by simp,.inl rfl⟩
 | x::l,v0=>by
  have e:fold c f v0 (x::l)=fold c f (if c x then max v0 (f x) else v0) l:=rfl
  obtain ⟨h1,h2,h3⟩:=fold_spec (c:=c) l (if c x then max v0 (f x) else v0)
  rw[e]
  by_cases hc:c x
  ·simp only[if_pos hc] at h1 h2 h3 ⊢
   refine ⟨by omega,fun y hy hcy=>?_,?_⟩
   ·rcases List.mem_cons.1 hy with rfl | hy
    ·omega
    ·exact h2 y hy hcy
   ·rcases h3 with h3 | ⟨y,hy,hcy,h3⟩
    ·by_cases hm:f x≤v0
     ·left; omega
     ·right; exact ⟨x,by simp,hc,by omega⟩
    ·exact .inr ⟨y,by simp[hy],hcy,h3⟩
  ·simp only[if_neg hc] at h1 h2 h3 ⊢
   refine ⟨h1,fun y hy hcy=>?_,?_⟩
   ·rcases List.mem_cons.1 hy with rfl | hy
    ·exact absurd hcy hc
    ·exact h2 y hy hcy
   ·rcases h3 with h3 | ⟨y,hy,hcy,h3⟩
    ·exact .inl h3
    ·exact .inr ⟨y,by simp[hy],hcy,h3⟩
end
def Pb.out (P:Pb) (x:Of) (k:Nat):Int:=if P.cls k=0∨P.cls k=P.clOf x.b then 0 else x.w k
def bd (x:Of):Nat:=x.b.toNat
structure Sit where
 bs:List Nat
 l:Nat→Int
 o:Nat→Int
def rm (bs:List Nat) (b:Nat):List Nat:=bs.filter fun c=>!(c == b)
def lfit (P:Pb) (l o:Nat→Int) (x:Of):Prop:=∀ k,k<6→x.w k≤l k∧P.out x k≤o k
instance (P:Pb) (l o:Nat→Int) (x:Of):Decidable (lfit P l o x):=Nat.decidableBallLT 6 fun k _=>x.w k≤l k∧P.out x k≤o k
def subB (l w:Nat→Int):Nat→Int:=fun k=>l k-w k
def Pb.ok (P:Pb) (s:Sit) (x:Of):Prop:=bd x∈s.bs∧lfit P s.l s.o x
instance (P:Pb) (s:Sit) (x:Of):Decidable (P.ok s x):=inferInstanceAs (Decidable (bd x∈s.bs∧lfit P s.l s.o x))
def Pb.aft (P:Pb) (s:Sit) (x:Of):Sit:=⟨rm s.bs (bd x),subB s.l x.w,subB s.o (P.out x)⟩
def Pb.Feas (P:Pb) (s:Sit) (L:List Of):Prop :=
 (L.map bd).Nodup∧(∀ x∈L,bd x∈s.bs)∧∀ k,k<6→(L.map (fun x=>x.w k)).sum≤s.l k∧(L.map (fun x=>P.out x k)).sum≤s.o k
def sumV (L:List Of):Int:=(L.map (fun x=>x.v)).sum
def okL (L:List Of):Prop:=∀ x∈L,okB x.w
def Sit.nn (s:Sit):Prop:=∀ k,k<6→0≤s.l k∧0≤s.o k
section
variable {P:Pb} {s:Sit} {x:Of} {L L':List Of}
theorem out_ok (h:okB x.w) {k:Nat} (hk:k<6):0≤P.out x k∧P.out x k≤x.w k:=by
 have:=h k hk
 unfold Pb.out
 split<;>omega
theorem feas_nil (h:s.nn):P.Feas s []:=⟨by simp,by simp,fun k hk=>by have:=h k hk; simpa using this⟩
theorem mem_rm {bs:List Nat} {b c:Nat}:c∈rm bs b↔c∈bs∧c≠b:=by simp[rm]
theorem feas_cons (hw:okL (x::L)):P.Feas s (x::L)↔P.ok s x∧P.Feas (P.aft s x) L:=by
 have hx:okB x.w:=hw x (by simp)
 have nnw:∀ k,k<6→0≤(L.map (fun x=>x.w k)).sum:=fun k hk=>sum_nn fun y hy=>(hw y (by simp[hy]) k hk).1
 have nno:∀ k,k<6→0≤(L.map (fun x=>P.out x k)).sum:=fun k hk=>sum_nn fun y hy=>(out_ok (hw y (by simp[hy])) hk).1
 constructor
 ·rintro ⟨h1,h2,h3⟩
  simp only[List.map_cons,List.nodup_cons] at h1
  refine ⟨⟨h2 x (by simp),fun k hk=>?_⟩,h1.2,fun y hy=>?_,fun k hk=>?_⟩
  ·have:=h3 k hk
   have:=nnw k hk
   have:=nno k hk
   simp only[List.map_cons,List.sum_cons] at *
   omega
  ·refine mem_rm.2 ⟨h2 y (by simp[hy]),fun e=>h1.1 ?_⟩
   rw[← e]
   exact List.mem_map_of_mem hy
  ·have:=h3 k hk
   simp only[List.map_cons,List.sum_cons,Pb.aft,subB] at *
   omega
 ·rintro ⟨⟨h1,h2⟩,h3,h4,h5⟩
  refine ⟨?_,fun y hy=>?_,fun k hk=>?_⟩
  ·simp only[List.map_cons,List.nodup_cons]
   refine ⟨fun hm=>?_,h3⟩
   obtain ⟨y,hy,e⟩:=List.mem_map.1 hm
   exact (mem_rm.1 (h4 y hy)).2 e
  ·rcases List.mem_cons.1 hy with rfl | hy
   ·exact h1
   ·exact (mem_rm.1 (h4 y hy)).1
  ·have:=h5 k hk
   simp only[List.map_cons,List.sum_cons,Pb.aft,subB] at *
   omega
theorem feas_perm (h:L.Perm L') (hf:P.Feas s L):P.Feas s L':=by
 obtain ⟨h1,h2,h3⟩:=hf
 refine ⟨(h.map bd).nodup_iff.1 h1,fun x hx=>h2 x (h.mem_iff.2 hx),fun k hk=>?_⟩
 rw[← sum_perm h,← sum_perm h]
 exact h3 k hk
theorem okL_perm (h:L.Perm L') (hw:okL L):okL L':=fun x hx=>hw x (h.mem_iff.2 hx)
theorem sumV_perm (h:L.Perm L'):sumV L=sumV L':=sum_perm h
theorem sumV_cons:sumV (x::L)=x.v+sumV L:=by simp[sumV]
theorem aft_nn (hk:P.ok s x):(P.aft s x).nn:=fun k hk'=>by
 have:=hk.2 k hk'
 simp only[Pb.aft,subB]; omega
theorem take_out (hx:x∈L):∃ L',L.Perm (x::L')∧∀ y∈L',y∈L:=by
 obtain ⟨s,t,rfl⟩:=List.append_of_mem hx
 exact ⟨s++t,List.perm_middle,fun y hy=>by simp at hy ⊢; rcases hy with h | h<;>simp[h]⟩
theorem feas_take (hw:okL L) (hf:P.Feas s L) (hx:x∈L):∃ L',L.Perm (x::L')∧(∀ y∈L',y∈L∧bd y≠bd x)∧okL L'∧P.ok s x∧P.Feas (P.aft s x) L'∧sumV L=x.v+sumV L':=by
 obtain ⟨L',hp,hm⟩:=take_out hx
 have hw':=okL_perm hp hw
 obtain ⟨h1,h2⟩:=(feas_cons hw').1 (feas_perm hp hf)
 refine ⟨L',hp,fun y hy=>⟨hm y hy,(mem_rm.1 (h2.2.1 y hy)).2⟩,fun y hy=>hw' y (by simp[hy]),h1,h2,?_⟩
 rw[sumV_perm hp,sumV_cons]
theorem feas_bs {bs:List Nat} (hf:P.Feas s L) (h:∀ x∈L,bd x∈bs):P.Feas ⟨bs,s.l,s.o⟩ L:=⟨hf.1,h,hf.2.2⟩
end
def Pb.val (P:Pb):List Nat→(Nat→Int)→(Nat→Int)→Int
 | [],_,_=>0
 | b::bs,l,o=>fold (lfit P l o) (fun x=>x.v+P.val bs (subB l x.w) (subB o (P.out x))) (P.val bs l o) (P.of.filter fun x=>bd x == b)
def Pb.V (P:Pb) (s:Sit):Int:=P.val s.bs s.l s.o
section
variable {P:Pb} {s:Sit} {x:Of} {L L':List Of}
theorem rm_head {b:Nat} {bs:List Nat} (h:b ∉ bs):rm (b::bs) b=bs:=by
 unfold rm
 rw[List.filter_cons_of_neg (by simp),List.filter_eq_self.2]
 intro c hc
 have:c≠b:=fun e=>h (e▸hc)
 simpa using this
theorem rm_nodup {b:Nat} {bs:List Nat} (h:bs.Nodup):(rm bs b).Nodup:=h.filter _
theorem val_bound:∀ (bs:List Nat) (l o:Nat→Int) (L:List Of),bs.Nodup→okL L→(∀ x∈L,x∈P.of)→P.Feas ⟨bs,l,o⟩ L→sumV L≤P.val bs l o
 | [],l,o,L,_,_,_,hf=>by
  cases L with
  | nil=>simp[sumV,Pb.val]
  | cons x L=>have:=hf.2.1 x (by simp); cases this
 | b::bs,l,o,L,hn,hw,hm,hf=>by
  obtain ⟨hb,hn'⟩:=List.nodup_cons.1 hn
  unfold Pb.val
  obtain ⟨h1,h2,_⟩:=fold_spec (c:=lfit P l o) (f:=fun x=>x.v+P.val bs (subB l x.w) (subB o (P.out x))) (P.of.filter fun x=>bd x == b) (P.val bs l o)
  by_cases hc:∃ x∈L,bd x=b
  ·obtain ⟨x,hx,e⟩:=hc
   obtain ⟨L',hp,hb',hw',hk,hf',hs⟩:=feas_take hw hf hx
   have ha:P.aft ⟨b::bs,l,o⟩ x=⟨bs,subB l x.w,subB o (P.out x)⟩:=by
    unfold Pb.aft; rw[e]; simp only[rm_head hb]
   rw[ha] at hf'
   have h3:=val_bound bs _ _ L' hn' hw' (fun y hy=>hm y (hb' y hy).1) hf'
   have h4:=h2 x (List.mem_filter.2 ⟨hm x hx,by simp[e]⟩) hk.2
   omega
  ·have h3:=val_bound bs l o L hn' hw hm (feas_bs hf fun x hx=>by
    have:=hf.2.1 x hx
    rcases List.mem_cons.1 this with h | h
    ·exact absurd ⟨x,hx,h⟩ hc
    ·exact h)
   omega
theorem val_reach (hw:okL P.of):∀ (bs:List Nat) (l o:Nat→Int),bs.Nodup→Sit.nn ⟨bs,l,o⟩→∃ L,(∀ x∈L,x∈P.of)∧P.Feas ⟨bs,l,o⟩ L∧sumV L=P.val bs l o
 | [],l,o,_,h=>⟨[],by simp,feas_nil h,rfl⟩
 | b::bs,l,o,hn,h=>by
  obtain ⟨hb,hn'⟩:=List.nodup_cons.1 hn
  unfold Pb.val
  obtain ⟨_,_,h3⟩:=fold_spec (c:=lfit P l o) (f:=fun x=>x.v+P.val bs (subB l x.w) (subB o (P.out x))) (P.of.filter fun x=>bd x == b) (P.val bs l o)
  rcases h3 with h3 | ⟨x,hx,hc,h3⟩
  ·obtain ⟨L,h4,h5,h6⟩:=val_reach hw bs l o hn' h
   exact ⟨L,h4,feas_bs h5 (fun x hx=>List.mem_cons_of_mem _ (h5.2.1 x hx)),by rw[h6,h3]⟩
  ·obtain ⟨hx1,hx2⟩:=List.mem_filter.1 hx
   have e:bd x=b:=by simpa using hx2
   have hk:P.ok ⟨b::bs,l,o⟩ x:=⟨by rw[e]; simp,hc⟩
   have ha:P.aft ⟨b::bs,l,o⟩ x=⟨bs,subB l x.w,subB o (P.out x)⟩:=by
    unfold Pb.aft; rw[e]; simp only[rm_head hb]
   have hnn:=aft_nn hk
   rw[ha] at hnn
   obtain ⟨L,h4,h5,h6⟩:=val_reach hw bs _ _ hn' hnn
   have hL:∀ y∈x::L,y∈P.of:=fun y hy=>by
    rcases List.mem_cons.1 hy with rfl | hy
    ·exact hx1
    ·exact h4 y hy
   refine ⟨x::L,hL,(feas_cons fun y hy=>hw y (hL y hy)).2 ⟨hk,by rw[ha]; exact h5⟩,?_⟩
   rw[sumV_cons,h6,h3]
theorem val_size (hv:∀ x∈P.of,0≤x.v∧x.v≤1000000):∀ (bs:List Nat) (l o:Nat→Int),0≤P.val bs l o∧P.val bs l o≤1000000*bs.length
 | [],l,o=>by simp[Pb.val]
 | b::bs,l,o=>by
  unfold Pb.val
  obtain ⟨h1,_,h3⟩:=fold_spec (c:=lfit P l o) (f:=fun x=>x.v+P.val bs (subB l x.w) (subB o (P.out x))) (P.of.filter fun x=>bd x == b) (P.val bs l o)
  have h4:=val_size hv bs l o
  rw[List.length_cons,Int.natCast_add,Int.mul_add]
  refine ⟨by omega,?_⟩
  rcases h3 with h3 | ⟨x,hx,_,h3⟩
  ·rw[h3]; omega
  ·rw[h3]
   have h5:=val_size hv bs (subB l x.w) (subB o (P.out x))
   have h6:=hv x (List.mem_filter.1 hx).1
   omega
theorem val_congr:∀ (bs:List Nat) {l o l' o':Nat→Int},eqB l l'→eqB o o'→P.val bs l o=P.val bs l' o'
 | [],_,_,_,_,_,_=>rfl
 | b::bs,l,o,l',o',h1,h2=>by
  unfold Pb.val
  rw[val_congr bs h1 h2]
  have hc:∀ x,lfit P l o x↔lfit P l' o' x:=fun x=>by
   unfold lfit
   constructor
   ·intro h k hk; have:=h k hk; rw[← h1 k hk,← h2 k hk]; exact this
   ·intro h k hk; have:=h k hk; rw[h1 k hk,h2 k hk]; exact this
  have hf:∀ x:Of,P.val bs (subB l x.w) (subB o (P.out x))=P.val bs (subB l' x.w) (subB o' (P.out x)):=fun x =>
   val_congr bs (fun k hk=>by simp only[subB]; rw[h1 k hk]) (fun k hk=>by simp only[subB]; rw[h2 k hk])
  unfold fold
  congr 1
  funext v x
  simp only[hc,hf]
end
def Pb.F (P:Pb):List Of→Nat→Sit→List Nat × Int
 | [],_,_=>([],0)
 | x::X,i,s=>if P.ok s x∧(P.F X (i+1) s).2≤x.v+(P.F X (i+1) (P.aft s x)).2 then (i::(P.F X (i+1) (P.aft s x)).1,x.v+(P.F X (i+1) (P.aft s x)).2) else P.F X (i+1) s
def Pb.ofs (P:Pb) (T:List Nat):List Of:=T.map fun i=>P.of.getD i ⟨0,fun _=>0,0⟩
section
variable {P:Pb} {s:Sit} {x:Of} {L L':List Of}
theorem drop_cons {X:List Of} {i:Nat} (h:P.of.drop i=x::X):P.of[i]?=some x∧P.of.drop (i+1)=X∧i<P.of.length:=by
 have h1:i<P.of.length:=by
  have:=congrArg List.length h
  simp at this
  omega
 rw[List.drop_eq_getElem_cons h1] at h
 simp only[List.cons.injEq] at h
 exact ⟨by rw[List.getElem?_eq_getElem h1,h.1],h.2,h1⟩
theorem F_bound:∀ (X:List Of) (i:Nat) (s:Sit) (L:List Of),okL L→(∀ x∈L,x∈X)→P.Feas s L→sumV L≤(P.F X i s).2
 | [],i,s,L,_,hm,_=>by
  cases L with
  | nil=>simp[sumV,Pb.F]
  | cons x L=>have:=hm x (by simp); cases this
 | x::X,i,s,L,hw,hm,hf=>by
  by_cases hx:x∈L
  ·obtain ⟨L',hp,hb,hw',hk,hf',hs⟩:=feas_take hw hf hx
   have h1:=F_bound X (i+1) (P.aft s x) L' hw' (fun y hy=>by
    rcases List.mem_cons.1 (hm y (hb y hy).1) with rfl | h
    ·exact absurd rfl (hb y hy).2
    ·exact h) hf'
   unfold Pb.F
   split
   ·simp only; omega
   ·rename_i h
    have:¬ (P.F X (i+1) s).2≤x.v+(P.F X (i+1) (P.aft s x)).2:=fun h'=>h ⟨hk,h'⟩
    omega
  ·have h1:=F_bound X (i+1) s L hw (fun y hy=>by
    rcases List.mem_cons.1 (hm y hy) with rfl | h
    ·exact absurd hy hx
    ·exact h) hf
   unfold Pb.F
   split
   ·rename_i h
    simp only; omega
   ·exact h1
theorem F_reach (hw:okL P.of):∀ (X:List Of) (i:Nat) (s:Sit),P.of.drop i=X→s.nn→P.Feas s (P.ofs (P.F X i s).1)∧sumV (P.ofs (P.F X i s).1)=(P.F X i s).2 ∧
  (∀ j∈(P.F X i s).1,i≤j∧j<P.of.length)∧(P.F X i s).1.Pairwise (·<·)
 | [],i,s,_,h=>⟨feas_nil h,rfl,by simp[Pb.F],by simp[Pb.F]⟩
 | x::X,i,s,hX,h=>by
  obtain ⟨hi,hX',hl⟩:=drop_cons hX
  unfold Pb.F
  split
  ·rename_i hc
   obtain ⟨h1,h2,h3,h4⟩:=F_reach hw X (i+1) (P.aft s x) hX' (aft_nn hc.1)
   have e:P.ofs (i::(P.F X (i+1) (P.aft s x)).1)=x::P.ofs (P.F X (i+1) (P.aft s x)).1:=by
    unfold Pb.ofs
    rw[List.map_cons,List.getD_eq_getElem?_getD,hi]; rfl
   refine ⟨?_,?_,fun j hj=>?_,?_⟩
   ·rw[e]
    refine (feas_cons fun y hy=>?_).2 ⟨hc.1,h1⟩
    rcases List.mem_cons.1 hy with rfl | hy
    ·exact hw y (List.mem_of_getElem? hi)
    ·obtain ⟨j,hj,rfl⟩:=List.mem_map.1 hy
     have hj2:=(h3 j hj).2
     rw[List.getD_eq_getElem?_getD,List.getElem?_eq_getElem hj2]
     exact hw _ (List.getElem_mem hj2)
   ·rw[e,sumV_cons,h2]
   ·rcases List.mem_cons.1 hj with rfl | hj
    ·exact ⟨Nat.le_refl _,hl⟩
    ·have:=h3 j hj; omega
   ·exact List.pairwise_cons.2 ⟨fun j hj=>by have:=h3 j hj; omega,h4⟩
  ·obtain ⟨h1,h2,h3,h4⟩:=F_reach hw X (i+1) s hX' h
   exact ⟨h1,h2,fun j hj=>by have:=h3 j hj; omega,h4⟩
theorem ofs_mem {T:List Nat} (h:∀ j∈T,j<P.of.length):∀ x∈P.ofs T,x∈P.of:=fun x hx=>by
 obtain ⟨j,hj,rfl⟩:=List.mem_map.1 hx
 have hj2:=h j hj
 rw[List.getD_eq_getElem?_getD,List.getElem?_eq_getElem hj2]
 exact List.getElem_mem hj2
theorem F_le (hw:okL P.of) {X:List Of} {i:Nat} (hX:P.of.drop i=X) (hn:s.nn) (hb:s.bs.Nodup):(P.F X i s).2≤P.V s:=by
 obtain ⟨h1,h2,h3,_⟩:=F_reach hw X i s hX hn
 have hm:=ofs_mem (P:=P) fun j hj=>(h3 j hj).2
 rw[← h2]
 exact val_bound s.bs s.l s.o _ hb (fun x hx=>hw x (hm x hx)) hm h1
def Pb.G (P:Pb):List Of→Nat→Sit→Int→List Nat
 | [],_,_,_=>[]
 | x::X,i,s,r=>if P.ok s x∧x.v+P.V (P.aft s x)=r then i::P.G X (i+1) (P.aft s x) (r-x.v) else P.G X (i+1) s r
theorem V_step (hw:okL P.of) (hx:x∈P.of) (hb:s.bs.Nodup) (hk:P.ok s x):x.v+P.V (P.aft s x)≤P.V s:=by
 obtain ⟨L,h1,h2,h3⟩:=val_reach hw (P.aft s x).bs _ _ (rm_nodup hb) (aft_nn hk)
 have hL:∀ y∈x::L,y∈P.of:=fun y hy=>by
  rcases List.mem_cons.1 hy with rfl | hy
  ·exact hx
  ·exact h1 y hy
 have h4:=val_bound s.bs s.l s.o (x::L) hb (fun y hy=>hw y (hL y hy)) hL ((feas_cons fun y hy=>hw y (hL y hy)).2 ⟨hk,h2⟩)
 rw[sumV_cons,h3] at h4
 exact h4
def Pb.J (P:Pb) (X:List Of) (s:Sit):Prop:=∀ L,(∀ x∈L,x∈P.of)→P.Feas s L→sumV L=P.V s→∀ x∈L,x∈X
theorem J_val (hw:okL P.of) {X:List Of} {i:Nat} (hX:P.of.drop i=X) (hn:s.nn) (hb:s.bs.Nodup) (hJ:P.J X s):(P.F X i s).2=P.V s:=by
 have h1:=F_le hw hX hn hb
 obtain ⟨L,h2,h3,h4⟩:=val_reach hw s.bs s.l s.o hb hn
 have h5:=F_bound X i s L (fun x hx=>hw x (h2 x hx)) (hJ L h2 h3 h4) h3
 rw[h4] at h5
 unfold Pb.V at *
 omega
theorem G_eq (hw:okL P.of):∀ (X:List Of) (i:Nat) (s:Sit),P.of.drop i=X→s.nn→s.bs.Nodup→P.J X s→P.G X i s (P.V s)=(P.F X i s).1
 | [],i,s,_,_,_,_=>rfl
 | x::X,i,s,hX,hn,hb,hJ=>by
  obtain ⟨hi,hX',hl⟩:=drop_cons hX
  have hx:x∈P.of:=List.mem_of_getElem? hi
  unfold Pb.G
  by_cases hk:P.ok s x
  ·have hs:=V_step hw hx hb hk
   have hb':(P.aft s x).bs.Nodup:=rm_nodup hb
   by_cases he:x.v+P.V (P.aft s x)=P.V s
   ·rw[if_pos ⟨hk,he⟩]
    have hJ':P.J X (P.aft s x):=by
     intro L h1 h2 h3 y hy
     have hL:∀ z∈x::L,z∈P.of:=fun z hz=>by
      rcases List.mem_cons.1 hz with rfl | hz
      ·exact hx
      ·exact h1 z hz
     have hf:=(feas_cons (s:=s) fun y hy=>hw y (hL y hy)).2 ⟨hk,h2⟩
     have:=hJ (x::L) hL hf (by rw[sumV_cons,h3,he]) y (by simp[hy])
     rcases List.mem_cons.1 this with e | h
     ·have:=(mem_rm.1 (h2.2.1 y hy)).2
      rw[e] at this
      exact absurd rfl this
     ·exact h
    have hF:=J_val hw hX' (aft_nn hk) hb' hJ'
    have hG:=G_eq hw X (i+1) (P.aft s x) hX' (aft_nn hk) hb' hJ'
    have hr:=F_le hw (i:=i+1) hX' hn hb
    have e2:P.V s-x.v=P.V (P.aft s x):=by omega
    rw[e2,hG]
    conv=>rhs; unfold Pb.F
    rw[if_pos ⟨hk,by rw[hF]; omega⟩]
   ·rw[if_neg fun h=>he h.2]
    have hJ':P.J X s:=by
     intro L h1 h2 h3 y hy
     rcases List.mem_cons.1 (hJ L h1 h2 h3 y hy) with e | h
     ·exfalso
      have hxL:x∈L:=e▸hy
      obtain ⟨L',hp,hb2,hw',hk2,hf',hs'⟩:=feas_take (fun z hz=>hw z (h1 z hz)) h2 hxL
      have h5:=val_bound (P.aft s x).bs _ _ L' hb' hw' (fun z hz=>h1 z (hb2 z hz).1) hf'
      have:sumV L'≤P.V (P.aft s x):=h5
      omega
     ·exact h
    have hF:=J_val hw hX' hn hb hJ'
    have hr:=F_le hw (i:=i+1) hX' (aft_nn hk) hb'
    rw[G_eq hw X (i+1) s hX' hn hb hJ']
    conv=>rhs; unfold Pb.F
    rw[if_neg]
    rintro ⟨_,h⟩
    omega
  ·rw[if_neg fun h=>hk h.1]
   have hJ':P.J X s:=by
    intro L h1 h2 h3 y hy
    rcases List.mem_cons.1 (hJ L h1 h2 h3 y hy) with e | h
    ·exfalso
     obtain ⟨_,_,_,_,hk2,_⟩:=feas_take (fun z hz=>hw z (h1 z hz)) h2 (e▸hy:x∈L)
     exact hk hk2
    ·exact h
   rw[G_eq hw X (i+1) s hX' hn hb hJ']
   conv=>rhs; unfold Pb.F
   rw[if_neg fun h=>hk h.1]
end
end Go.Pb

namespace Go.Proofs.Ytpmaehfiifinhaa
open Go Go.Am
section
variable {ρ:List (Nat × Entry)} {l:List (Nat × Entry)} {k n B d:Nat} {e e0:Entry}
theorem low_lk (h:lowS B ρ) (hk:B≤k):lk ρ k=none:=by
 cases hl:lk ρ k with
 | none=>rfl
 | some e=>have:=(h _ (lk_mem hl)).1; simp at this; omega
theorem glk0 (h:lk ρ k=none):lk (ρ++l) k=lk l k:=by
 induction ρ with
 | nil=>rfl
 | cons p ρ ih =>
  obtain ⟨m,x⟩:=p
  simp only[lk,List.cons_append] at h ⊢
  split at h
  ·cases h
  ·rename_i hne; rw[if_neg hne]; exact ih h
theorem gpt0 (h:lk ρ k=none):pt (ρ++l) k e=ρ++pt l k e:=by
 induction ρ with
 | nil=>rfl
 | cons p ρ ih =>
  obtain ⟨m,x⟩:=p
  simp only[lk] at h
  split at h
  ·cases h
  ·rename_i hne; simp only[List.cons_append,pt]; rw[if_neg hne,ih h]
theorem glk (h:lowS B ρ):lk (ρ++l) (B+d)=lk l (B+d):=glk0 (low_lk h (Nat.le_add_right _ _))
theorem glkn (h:lowS B ρ):lk ρ (B+d)=none:=low_lk h (Nat.le_add_right _ _)
theorem gpt (h:lowS B ρ):pt (ρ++l) (B+d) e=ρ++pt l (B+d) e:=gpt0 (low_lk h (Nat.le_add_right _ _))
theorem gptn (h:lowS B ρ):pt ρ (B+d) e=ρ++[(B+d,e)]:=by
 have:=gpt (l:=[]) (d:=d) (e:=e) h
 rwa [List.append_nil] at this
theorem glk' (h:lk ρ n=some e):lk (ρ++l) n=some e:=by
 induction ρ with
 | nil=>cases h
 | cons p ρ ih =>
  obtain ⟨m,x⟩:=p
  simp only[lk,List.cons_append] at h ⊢
  split at h
  ·rename_i he; rw[if_pos he]; exact h
  ·rename_i hne; rw[if_neg hne]; exact ih h
theorem gpt' (h:lk ρ n=some e0):pt (ρ++l) n e=pt ρ n e++l:=by
 induction ρ with
 | nil=>cases h
 | cons p ρ ih =>
  obtain ⟨m,x⟩:=p
  simp only[lk] at h
  simp only[List.cons_append,pt]
  split at h
  ·rename_i he; rw[if_pos he,if_pos he]; rfl
  ·rename_i hne; rw[if_neg hne,if_neg hne,ih h]; rfl
theorem gdel_app {D:List Nat}:del D (ρ++l)=del D ρ++del D l:=by
 induction ρ with
 | nil=>rfl
 | cons p ρ ih =>
  obtain ⟨m,x⟩:=p
  simp only[List.cons_append,del]
  split
  ·exact ih
  ·rw[ih]; rfl
theorem gdel0 {D:List Nat} (h:lowS B ρ) (hD:(D.all fun k=>decide (B≤k))=true):del D ρ=ρ:=by
 induction ρ with
 | nil=>rfl
 | cons p ρ ih =>
  obtain ⟨m,x⟩:=p
  simp only[del]
  have h1:=(h (m,x) (by simp)).1
  have:D.elem m=false:=by
   cases hc:D.elem m with
   | false=>rfl
   | true=>have:=List.all_eq_true.1 hD m (by simpa using hc); simp at this h1; omega
  rw[this,ih fun p hp=>h p (by simp[hp])]; rfl
theorem gdel {D:List Nat} (h:lowS B ρ) (hD:(D.all fun k=>decide (B≤k))=true):del D (ρ++l)=ρ++del D l:=by rw[gdel_app,gdel0 h hD]
theorem gnoRefS_app:noRefS k (ρ++l)=(noRefS k ρ&&noRefS k l):=by
 induction ρ with
 | nil=>rfl
 | cons p ρ ih =>
  obtain ⟨m,x⟩:=p
  simp only[List.cons_append,noRefS,ih,Bool.and_assoc]
theorem gno (h:lowS B ρ):noRefS (B+d) (ρ++l)=noRefS (B+d) l:=by rw[gnoRefS_app,lowS_noRef (Nat.le_add_right B d) h]; rfl
theorem gnon (h:lowS B ρ):noRefS (B+d) ρ=true:=lowS_noRef (Nat.le_add_right B d) h
theorem geno {f:List (Nat × AV)} (h:lowF B f):noRef (B+d) f=true:=lowF_noRef (Nat.le_add_right B d) h
theorem gono {f:List (List (Nat × AV))} (h:lowO B f):noRefO (B+d) f=true:=lowO_noRef (Nat.le_add_right B d) h
theorem geno' {f:List (Nat × AV)} (h:lowF B f) (hk:B≤k):noRef k f=true:=lowF_noRef hk h
theorem gono' {f:List (List (Nat × AV))} (h:lowO B f) (hk:B≤k):noRefO k f=true:=lowO_noRef hk h
theorem lowS_pt (h:lowS B ρ) (hn:n<B) (he:lowE B e):lowS B (pt ρ n e):=by
 intro p hp
 induction ρ with
 | nil=>simp[pt] at hp; subst hp; exact ⟨hn,he⟩
 | cons q ρ ih =>
  obtain ⟨m,x⟩:=q
  simp only[pt] at hp
  split at hp
  ·rcases List.mem_cons.1 hp with rfl | hp
   ·exact ⟨hn,he⟩
   ·exact h p (by simp[hp])
  ·rcases List.mem_cons.1 hp with rfl | hp
   ·exact h _ (by simp)
   ·exact ih (fun p hp=>h p (by simp[hp])) hp
theorem lowE_mono {M N:Nat} (h:M≤N) {e:Entry} (he:lowE M e=true):lowE N e=true:=by
 cases e with
 | var cells=>simp only[lowE,List.all_eq_true] at he ⊢; exact fun x hx=>low_mono h (he x hx)
 | uarr sz rows=>simp only[lowE,List.all_eq_true] at he ⊢; exact fun r hr x hx=>low_mono h (he r hr x hx)
 | arr=>rfl
 | map=>rfl
theorem lowS_mono {M N:Nat} (h:M≤N) {ρ:List (Nat × Entry)} (hs:lowS M ρ):lowS N ρ:=fun p hp=>⟨Nat.lt_of_lt_of_le (hs p hp).1 h,lowE_mono h (hs p hp).2⟩
theorem lowS_app {M:Nat} {ρ l:List (Nat × Entry)}:lowS M (ρ++l)↔lowS M ρ∧lowS M l:=by
 unfold lowS
 simp only[List.mem_append]
 exact ⟨fun h=>⟨fun p hp=>h p (.inl hp),fun p hp=>h p (.inr hp)⟩,fun h p hp=>hp.elim (h.1 p) (h.2 p)⟩
theorem lowS_cons {M k:Nat} {e:Entry} {l:List (Nat × Entry)}:lowS M ((k,e)::l)↔(k<M∧lowE M e=true)∧lowS M l:=by simp[lowS]
theorem lowS_nil {M:Nat}:lowS M []:=fun _ h=>by cases h
end
section
variable {ρ:List (Nat × Entry)} {l:List (Nat × Entry)} {k n B d:Nat} {e e0:Entry}
theorem klk (h:lowS B ρ) (hk:B≤k):lk (ρ++l) k=lk l k:=glk0 (low_lk h hk)
theorem kpt (h:lowS B ρ) (hk:B≤k):pt (ρ++l) k e=ρ++pt l k e:=gpt0 (low_lk h hk)
theorem kptn (h:lowS B ρ) (hk:B≤k):pt ρ k e=ρ++[(k,e)]:=by
 have:=kpt (l:=[]) (e:=e) h hk
 rwa [List.append_nil] at this
theorem kno (h:lowS B ρ) (hk:B≤k):noRefS k (ρ++l)=noRefS k l:=by rw[gnoRefS_app,lowS_noRef hk h]; rfl
theorem kdg (h:lowS B ρ) (hk:B≤k):(ρ.map fun p=>(p.1,dgE k p.2))=ρ:=map_self fun p hp=>by rw[lowE_dg hk (h p hp).2]
theorem krn {j:Nat} (h:lowS B ρ) (hk:B≤k) (hj:B≤j):(ρ.map fun p=>(sw k j p.1,rnE k j p.2))=ρ:=map_self fun p hp=>by
 obtain ⟨h1,h2⟩:=h p hp
 rw[lowE_rn hk hj h2]
 have:sw k j p.1=p.1:=by unfold sw; rw[if_neg (by omega),if_neg (by omega)]
 rw[this]
end
section
variable {I I':Nat→Nat→Prop} {w:World} {β β':Blocks} {lam lam':Owned}
theorem R_pf1 {r:AV} {v:Value} (h:R I w β lam r v) (hp:pf1 r=true):R0 I' w r v:=by
 cases h with
 | base h=>exact pf1_R0 h hp
 | _=>simp[pf1] at hp
theorem R_pf {r:AV} {v:Value} (h:R I w β lam r v) (hp:pf r=true):R I' w β' lam' r v:=by
 cases h with
 | base h=>exact .base (pf_R0 h hp)
 | tuple cells vs hs hn hc =>
  refine .base (.tuple _ vs hs fun i c hi=>?_)
  simp only[pf,List.all_eq_true] at hp
  exact R_pf1 (hc i c hi) (hp c (List.mem_of_getElem? hi))
 | _=>simp[pf,pf1] at hp
end
theorem callI_postP {f:FuncId} {xs:List AV} {s:St} {K K':AV→St→Prop} (hc:CallI Try.prog f xs s K) (h:∀ r s',K r s'→pf r=true∧∃ t,St.imp s' t∧K' r t):CallI Try.prog f xs s K' :=
 fun F a w I β lam hI vs hn hv=>Calls.mono (hc F a w I β lam hI vs hn hv) fun e w' ⟨v,e1,r,s',I',β',lam',hK,hI',hR⟩=>by
  obtain ⟨hp,t,ht,hk⟩:=h r s' hK
  obtain ⟨I2,β2,lam2,h2⟩:=ht _ _ _ ⟨I',β',lam',hI'⟩
  exact ⟨v,e1,r,t,I2,β2,lam2,hk,h2,R_pf hR hp⟩
theorem imp_forget {ρ:List (Nat × Entry)} {env:List (Nat × AV)} {out:List (List (Nat × AV))} {B d base:Nat} {e:Entry} (h:lowS B ρ) (hE:lowF B env) (hO:lowO B out) :
  St.imp ⟨env,ρ++[(B+d,e)],out,base⟩ ⟨env,ρ,out,base⟩:=by
 have hB:B≤B+d:=Nat.le_add_right _ _
 refine St.imp_gone (k:=B+d) (e:=e) ?_ ?_ ?_ ?_ rfl ?_
 ·show lk (ρ++[(B+d,e)]) (B+d)=some e
  rw[glk h]; simp[lk]
 ·exact lowF_frz hB hE
 ·show (del [B+d] (ρ++[(B+d,e)])).map _=ρ
  rw[gdel h (by simp)]
  have:del [B+d] [(B+d,e)]=[]:=by simp[del]
  rw[this,List.append_nil]
  exact map_self fun p hp=>by rw[lowE_frz hB (h p hp).2]
 ·exact lowO_frz hB hO
 ·show (noRef (B+d) env&&noRefS (B+d) ρ&&noRefO (B+d) out)=true
  rw[geno hE,gnon h,gono hO]; rfl
theorem callI_leave {f:FuncId} {xs:List AV} {s:St} {K:AV→St→Prop} {ρ:List (Nat × Entry)} {env:List (Nat × AV)} {out:List (List (Nat × AV))} {B base:Nat} {r:AV} (d:Nat) (e:Entry)
  (h:lowS B ρ) (hE:lowF B env) (hO:lowO B out) (hp:pf r=true) (hk:K r ⟨env,ρ,out,base⟩)
  (hc:CallI Try.prog f xs s fun r' s'=>r'=r∧s'=⟨env,ρ++[(B+d,e)],out,base⟩):CallI Try.prog f xs s K :=
 callI_postP hc fun r' s' ⟨e1,e2⟩=>by
  subst e1 e2
  exact ⟨hp,_,imp_forget h hE hO,hk⟩
theorem eCallI_of {P:Program} {f:FuncId} {xs:List AV} {s:St} {dst:Option Nat} {K:St→Prop} (h:CallI P f xs s fun r s'=>s'.base=s.base∧K (s'.put dst r)):eCallI P f xs s dst K:=h
def eCallM (f:FuncId) (ds:List Nat) (s:St) (d:Option Nat) (K:St→Prop) (xs:List AV):Prop :=
 freshP s.sto s.base ds∧∀ D:List Nat,CallI Try.prog f xs {s with env:=del D s.env} fun r s'=>∃ A:St,s'={A with env:=del D A.env}∧A.base=s.base∧freshP A.sto A.base ds∧K (A.put d r)
@[simp] theorem ops_callM {f:FuncId} {ds:List Nat} {xs:List Opd} {d:Option Nat} {os:List AOper} {s:St} {KS:St→Prop} :
  awpOps Try.prog (⟨d,.callM f ds,xs,none⟩::os) s KS=(okFn Try.prog f=true∧eCallM f ds s d (opsC Try.prog os KS) (xs.map (ev s))):=propext Iff.rfl
theorem lowF_del {M:Nat} {D:List Nat} {env:List (Nat × AV)} (h:lowF M env):lowF M (del D env):=by
 intro p hp
 induction env with
 | nil=>cases hp
 | cons q env ih =>
  obtain ⟨m,x⟩:=q
  simp only[del] at hp
  split at hp
  ·exact ih (fun p hp=>h p (by simp[hp])) hp
  ·rcases List.mem_cons.1 hp with rfl | hp
   ·exact h _ (by simp)
   ·exact ih (fun p hp=>h p (by simp[hp])) hp
theorem low_iv {M:Nat} {n:Int}:Am.low M (iv n)=true:=rfl
theorem low_bv {M:Nat} {b:Bool}:Am.low M (bv b)=true:=rfl
theorem low_ptr {M k off:Nat}:Am.low M (.ptr k off)=decide (k<M):=rfl
end Go.Proofs.Ytpmaehfiifinhaa

namespace Go.Proofs.Ytpmaehfiifinhaa
open Go Go.Am Go.Pb
@[simp] theorem bC_isVal {w:Nat→Int}:(bC w).all isVal=true:=by rw[bC_eq]; rfl
@[simp] theorem bC_pf {w:Nat→Int}:pf (.agg (bC w))=true:=bC_isVal
noncomputable abbrev lsA (ls:Nat→List Of) (j:Nat):AV:=apc (2000+j) 8 (ofR (ls j))
@[irreducible] noncomputable def soC (P:Pb) (ls:Nat→List Of):List AV:=pbC P++([lsA ls 0,lsA ls 1,lsA ls 2,lsA ls 3,lsA ls 4,lsA ls 5,lsA ls 6,lsA ls 7]++[.mp 1007])
theorem soC_eq (P:Pb) (ls:Nat→List Of):soC P ls=[iv (P.sup 0),iv (P.sup 1),iv (P.sup 2),iv (P.sup 3),iv (P.sup 4),iv (P.sup 5),iv (P.opn 0),iv (P.opn 1),iv (P.opn 2),iv (P.opn 3),iv (P.opn 4),iv (P.opn 5),
  iv (P.cls 0),iv (P.cls 1),iv (P.cls 2),iv (P.cls 3),iv (P.cls 4),iv (P.cls 5),clA P.cl,ofA P.of,lsA ls 0,lsA ls 1,lsA ls 2,lsA ls 3,lsA ls 4,lsA ls 5,lsA ls 6,lsA ls 7,.mp 1007]:=by unfold soC; simp only[pbX_eq]; rfl
section
variable {P:Pb} {ls:Nat→List Of} {k b:Nat}
@[simp] theorem soC_len:(soC P ls).length=29:=by rw[soC_eq]; rfl
@[simp] theorem so_sup:goLoad (soC P ls) 0 (some 6)=some (.agg (bC P.sup)):=by rw[soC_eq,bC_eq]; rfl
@[simp] theorem so_opn:goLoad (soC P ls) 6 (some 6)=some (.agg (bC P.opn)):=by rw[soC_eq,bC_eq]; rfl
theorem so_cls (h:k<6):goLoad (soC P ls) (12+k) none=some (iv (P.cls k)):=by
 rw[soC_eq]
 match k,h with
 | 0,_=>rfl
 | 1,_=>rfl
 | 2,_=>rfl
 | 3,_=>rfl
 | 4,_=>rfl
 | 5,_=>rfl
 | n+6,h=>omega
@[simp] theorem so_18:goLoad (soC P ls) 18 none=some (clA P.cl):=by rw[soC_eq]; rfl
@[simp] theorem so_28:goLoad (soC P ls) 28 none=some (.mp 1007):=by rw[soC_eq]; rfl
@[simp] theorem so_18E {h:18<(soC P ls).length}:(soC P ls)[18]=clA P.cl:=by have:=so_18 (P:=P) (ls:=ls); simp only[goLoad,List.getElem?_eq_getElem h,Option.some.injEq] at this; exact this
@[simp] theorem so_28E {h:28<(soC P ls).length}:(soC P ls)[28]=.mp 1007:=by have:=so_28 (P:=P) (ls:=ls); simp only[goLoad,List.getElem?_eq_getElem h,Option.some.injEq] at this; exact this
theorem so_l (h:b<8):goLoad (soC P ls) (20+b) none=some (lsA ls b):=by
 rw[soC_eq]
 match b,h with
 | 0,_=>rfl
 | 1,_=>rfl
 | 2,_=>rfl
 | 3,_=>rfl
 | 4,_=>rfl
 | 5,_=>rfl
 | 6,_=>rfl
 | 7,_=>rfl
 | n+8,h=>omega
theorem low_apc {M tok sz:Nat} {rows:List (List AV)} (h:tok<M):low M (apc tok sz rows)=true:=by
 unfold apc
 split
 ·rfl
 ·simp[low,low1,h]
theorem soC_low:(soC P ls).all (low 3000)=true:=by
 have h:∀ j,j<8→low 3000 (lsA ls j)=true:=fun j hj=>low_apc (by omega)
 have hi:∀ n:Int,low 3000 (iv n)=true:=fun _=>rfl
 have hc:low 3000 (clA P.cl)=true:=rfl
 have ho:low 3000 (ofA P.of)=true:=rfl
 have hm:low 3000 (.mp 1007)=true:=rfl
 rw[soC_eq]
 simp only[List.all_cons,List.all_nil,hi,hc,ho,hm,h 0 (by omega),h 1 (by omega),h 2 (by omega),h 3 (by omega),h 4 (by omega),h 5 (by omega),h 6 (by omega),h 7 (by omega),Bool.and_true]
end
def outK (P:Pb) (x:Of) (k j:Nat):Int:=if j<k then P.out x j else x.w j
section
variable {P:Pb} {ls:Nat→List Of} {ρ:List (Nat × Entry)} {B:Nat} {x:Of} {s:St} {K:AV→St→Prop}
noncomputable def stOu (P:Pb) (x:Of) (B:Nat) (ρ:List (Nat × Entry)) (out:List (List (Nat × AV))) (k:Nat):St :=
 {env:=[(0,.ptr 1009 0),(3,.ptr (B+3) 0),(4,.ptr (B+4) 0),(5,.ptr (B+5) 0),(9,iv k)],sto:=ρ++[(B+3,.var (oC x)),(B+4,.var [iv 0,iv 0,iv 0,iv 0,iv 0,iv 0]),(B+5,.var (bC (outK P x k)))],out:=out,base:=B}
theorem outsideI (hs:s.sto=ρ) (hρ:lowS B ρ) (hE:lowF B s.env) (hO:lowO B s.out) (hS:lk ρ 1009=some (.var (soC P ls))) (hb:0≤x.b∧x.b<P.cl.length)
  (h:K (.agg (bC (P.out x))) s):CallI Try.prog F__p_coalition_solver__outside [.ptr 1009 0,.agg (oC x)] s K:=by
 obtain ⟨env,σ,out,base⟩:=s
 simp only at hs hE hO h
 subst hs
 have hSl:∀ l,lk (σ++l) 1009=some (.var (soC P ls)):=fun l=>glk' hS
 obtain ⟨b,hb1,hb2,hb3⟩:=clOf_get hb
 have hbn:(b:Int)<P.cl.length:=by omega
 have hcE:P.cl[b]=P.clOf (b:Int):=by rw[← hb1]; rw[List.getElem?_eq_getElem hb2] at hb3; exact Option.some.inj hb3
 have h0:bC x.w=bC (outK P x 0):=bC_congr fun j _=>by unfold outK; rw[if_neg (Nat.not_lt_zero j)]
 refine callI_leave 4 (.var (bC (P.out x))) hρ hE hO bC_pf h ?_
 refine soundI' B t__p_coalition_solver__outside (by simp) ?_
 simp[c__p_coalition_solver__outside,glkn hρ,gptn hρ,glk hρ,gpt hρ]
 rw[h0]
 refine awp_forW (stOu P x B σ (env::out)) (fun _=>True) 6 (by simp[stOu]) trivial (fun k hk _=>?_) (fun _=>?_)
 ·have e:(k:Int)<6:=by omega
  have w1:=wrap_succ (k:=k) (by omega)
  by_cases c1:P.cls k=0
  ·have hn:bC (outK P x (k+1))=bC (fun j=>if j=k then 0 else outK P x k j):=bC_congr fun j hj=>by
    unfold outK Pb.out
    by_cases ej:j=k
    ·subst ej; rw[if_pos (Nat.lt_succ_self j),if_pos rfl,if_pos (.inl c1)]
    ·rw[if_neg ej]
     by_cases hl:j<k
     ·rw[if_pos hl,if_pos (by omega)]
     ·rw[if_neg hl,if_neg (by omega)]
   have hset:=bC_set (w:=outK P x k) (x:=0) hk
   simp[c__p_coalition_solver__outside_l0,stOu,e,hSl,so_cls hk,c1,glk hρ,gpt hρ,hset,← hn,w1]
   omega
  ·by_cases c2:P.cls k=P.clOf x.b
   ·have hn:bC (outK P x (k+1))=bC (fun j=>if j=k then 0 else outK P x k j):=bC_congr fun j hj=>by
     unfold outK Pb.out
     by_cases ej:j=k
     ·subst ej; rw[if_pos (Nat.lt_succ_self j),if_pos rfl,if_pos (.inr c2)]
     ·rw[if_neg ej]
      by_cases hl:j<k
      ·rw[if_pos hl,if_pos (by omega)]
      ·rw[if_neg hl,if_neg (by omega)]
    have hset:=bC_set (w:=outK P x k) (x:=0) hk
    rw[hb1] at c2
    rw[c2] at c1
    simp[c__p_coalition_solver__outside_l0,stOu,e,hSl,so_cls hk,c1,c2,hb1,hb2,hbn,hcE,glk hρ,gpt hρ,hset,← hn,w1]
    omega
   ·have hn:bC (outK P x (k+1))=bC (outK P x k):=bC_congr fun j hj=>by
     unfold outK Pb.out
     by_cases ej:j=k
     ·subst ej; rw[if_pos (Nat.lt_succ_self j),if_neg (Nat.lt_irrefl j),if_neg (fun h=>h.elim c1 c2)]
     ·by_cases hl:j<k
      ·rw[if_pos hl,if_pos (by omega)]
      ·rw[if_neg hl,if_neg (by omega)]
    rw[hb1] at c2
    simp[c__p_coalition_solver__outside_l0,stOu,e,hSl,so_cls hk,c1,c2,hb1,hb2,hbn,hcE,glk hρ,hn,w1]
 ·have hn:bC (outK P x 6)=bC (P.out x):=bC_congr fun j hj=>by unfold outK; rw[if_pos hj]
  simp[c__p_coalition_solver__outside_l0,stOu,c__p_coalition_solver__outside_k1,r__p_coalition_solver__outside,glk hρ,gpt hρ,gdel hρ,gno hρ,geno hE,gono hO,hn]
end
@[irreducible] def siC (m:Int) (l o:Nat→Int):List AV:=iv m::(bC l++bC o)
theorem siC_eq (m:Int) (l o:Nat→Int):siC m l o=[iv m,iv (l 0),iv (l 1),iv (l 2),iv (l 3),iv (l 4),iv (l 5),iv (o 0),iv (o 1),iv (o 2),iv (o 3),iv (o 4),iv (o 5)]:=by unfold siC; rw[bC_eq,bC_eq]; rfl
section
variable {m m':Int} {l o l' o':Nat→Int} {k:Nat}
@[simp] theorem siC_len:(siC m l o).length=13:=by rw[siC_eq]; rfl
@[simp] theorem siC_rf:(siC m l o).all rf=true:=by rw[siC_eq]; rfl
@[simp] theorem siC_mem_rf:(∀ x,x∈siC m l o→rf x=true)=True:=eq_true fun x h=>List.all_eq_true.1 siC_rf x h
@[simp] theorem siC_strip:(siC m l o).map strip=siC m l o:=by rw[siC_eq]; rfl
@[simp] theorem siC_dg:(siC m l o).map (dg k)=siC m l o:=by rw[siC_eq]; simp
@[simp] theorem siC_ref:anyRef k (siC m l o)=false:=by rw[siC_eq]; simp
@[simp] theorem siC_isVal:(siC m l o).all isVal=true:=by rw[siC_eq]; rfl
theorem siC_low {M:Nat}:(siC m l o).all (low M)=true:=by rw[siC_eq]; rfl
theorem siC_pf:pf (.agg (siC m l o))=true:=siC_isVal
@[simp] theorem goLoad_si:goLoad (siC m l o) 0 (some 13)=some (.agg (siC m l o)):=by rw[goLoad_all siC_len siC_rf,siC_strip]
@[simp] theorem goLoad_si0:goLoad (siC m l o) 0 none=some (iv m):=by rw[siC_eq]; rfl
@[simp] theorem goLoad_si1:goLoad (siC m l o) 1 (some 6)=some (.agg (bC l)):=by rw[siC_eq,bC_eq]; rfl
@[simp] theorem goLoad_si7:goLoad (siC m l o) 7 (some 6)=some (.agg (bC o)):=by rw[siC_eq,bC_eq]; rfl
@[simp] theorem siC_0E {h:0<(siC m l o).length}:(siC m l o)[0]=iv m:=by have:=goLoad_si0 (m:=m) (l:=l) (o:=o); simp only[goLoad,List.getElem?_eq_getElem h,Option.some.injEq] at this; exact this
theorem siC_splice {r:List AV} (h:r.length=13):splice r 0 (siC m l o)=siC m l o:=by
 unfold splice
 rw[List.take_zero,List.nil_append,Nat.zero_add,siC_len,List.drop_of_length_le (by omega),List.append_nil]
@[simp] theorem siC_splice0:splice (siC m' l' o') 0 (siC m l o)=siC m l o:=siC_splice siC_len
@[simp] theorem siC_zero:splice [iv 0,iv 0,iv 0,iv 0,iv 0,iv 0,iv 0,iv 0,iv 0,iv 0,iv 0,iv 0,iv 0] 0 (siC m l o)=siC m l o:=siC_splice rfl
@[simp] theorem siC_set0 {x:Int}:(siC m l o).set 0 (iv x)=siC x l o:=by rw[siC_eq,siC_eq]; rfl
theorem siC_build:splice (splice [iv m,iv 0,iv 0,iv 0,iv 0,iv 0,iv 0,iv 0,iv 0,iv 0,iv 0,iv 0,iv 0] 1 (bC l)) 7 (bC o)=siC m l o:=by rw[siC_eq,bC_eq,bC_eq]; rfl
@[simp] theorem siC_len1 {n:Int}:(splice [iv n,iv 0,iv 0,iv 0,iv 0,iv 0,iv 0,iv 0,iv 0,iv 0,iv 0,iv 0,iv 0] 1 (bC l)).length=13:=by rw[bC_eq]; rfl
theorem zeros13:[iv 0,iv 0,iv 0,iv 0,iv 0,iv 0,iv 0,iv 0,iv 0,iv 0,iv 0,iv 0,iv 0]=siC 0 (fun _=>0) (fun _=>0):=by rw[siC_eq]
end
section
variable {P:Pb} {ls:Nat→List Of} {ρ:List (Nat × Entry)} {B:Nat} {x:Of} {s:St} {K:AV→St→Prop} {m:Int} {l o w u:Nat→Int}
theorem startI (hs:s.sto=ρ) (hρ:lowS B ρ) (hE:lowF B s.env) (hO:lowO B s.out) (hS:lk ρ 1009=some (.var (soC P ls)))
  (h:K (.agg (siC m P.sup P.opn)) s):CallI Try.prog F__p_coalition_solver__start [.ptr 1009 0,iv m] s K:=by
 obtain ⟨env,σ,out,base⟩:=s
 simp only at hs hE hO h
 subst hs
 have hSl:∀ l,lk (σ++l) 1009=some (.var (soC P ls)):=fun l=>glk' hS
 refine callI_leave 4 (.var (siC m P.sup P.opn)) hρ hE hO siC_pf h ?_
 refine soundI' B t__p_coalition_solver__start (by simp) ?_
 simp[c__p_coalition_solver__start,r__p_coalition_solver__start,glkn hρ,gptn hρ,glk hρ,gpt hρ,hSl,siC_build]
def subK (w u:Nat→Int) (k j:Nat):Int:=if j<k then w j-u j else w j
def stSu (w u:Nat→Int) (k:Nat):St:={env:=[(2,.ptr 2 0),(3,.ptr 3 0),(4,.ptr 4 0),(6,iv k)],sto:=[(2,.var (bC (subK w u k))),(3,.var (bC u)),(4,.var [iv 0,iv 0,iv 0,iv 0,iv 0,iv 0])]}
theorem sub_s (hw:∀ j,j<6→0≤w j∧w j≤1000000) (hu:∀ j,j<6→0≤u j∧u j≤1000000):SoundCall Try.prog F_bundle_Sub [.agg (bC w),.agg (bC u)] (.agg (bC (subB w u))):=by
 refine sound' t_bundle_Sub (by simp) ?_
 have h0:bC w=bC (subK w u 0):=bC_congr fun j _=>by unfold subK; rw[if_neg (Nat.not_lt_zero j)]
 have h6:bC (subB w u)=bC (subK w u 6):=bC_congr fun j hj=>by unfold subK subB; rw[if_pos hj]
 rw[h6]
 simp[c_bundle_Sub]
 rw[h0]
 refine awp_forW (stSu w u) (fun _=>True) 6 (by simp[stSu]) trivial (fun i hi _=>?_) (fun _=>?_)
 ·have e:(i:Int)<6:=by omega
  have w1:=wrap_succ (k:=i) (by omega)
  have e1:subK w u i i=w i:=by unfold subK; rw[if_neg (Nat.lt_irrefl i)]
  have b1:=hw i hi
  have b2:=hu i hi
  have w2:IntKind.i64.wrap (w i-u i)=w i-u i:=by rw[wrap64]<;>omega
  have hs:splice (bC (subK w u i)) i [iv (w i-u i)]=bC (fun j=>if j=i then w i-u i else subK w u i j):=bC_set hi
  have h1:bC (fun j=>if j=i then w i-u i else subK w u i j)=bC (subK w u (i+1)):=bC_congr fun j _=>by
   unfold subK
   by_cases e:j=i
   ·subst e; rw[if_pos rfl,if_pos (Nat.lt_succ_self j)]
   ·rw[if_neg e]
    by_cases h:j<i
    ·rw[if_pos h,if_pos (by omega)]
    ·rw[if_neg h,if_neg (by omega)]
  simp[c_bundle_Sub_l0,stSu,e,goLoad_bk hi,e1,w1,w2,hs,h1]
  omega
 ·simp[c_bundle_Sub_l0,stSu,c_bundle_Sub_k1,r_bundle_Sub]
end
end Go.Proofs.Ytpmaehfiifinhaa

namespace Go.Proofs.Ytpmaehfiifinhaa
open Go Go.Am Go.Pb
def clrN (m b:Nat):Nat:=if m.testBit b then m-2^b else m
theorem clr_fact:∀ m:Nat,m<256→∀ b:Nat,b<8→bitI .andNot .i64 (m:Int) ((2^b:Nat):Int)=((clrN m b:Nat):Int)∧clrN m b<256:=by decide +kernel
theorem shl_fact:∀ b:Nat,b<8→IntKind.i64.wrap ((2:Int)^b)=((2^b:Nat):Int):=by decide +kernel
theorem ok_outside:okFn Try.prog F__p_coalition_solver__outside=true:=by kernel_rfl
theorem low_agg {M:Nat} {l:List AV}:Am.low M (.agg l)=true:=rfl
noncomputable def aftA (P:Pb) (m:Nat) (l o:Nat→Int) (x:Of):AV :=
 if lfit P l o x then .tuple [.agg (siC (clrN m (bd x)) (subB l x.w) (subB o (P.out x))),bv true] else .tuple [.agg (siC 0 (fun _=>0) (fun _=>0)),bv false]
section
variable {P:Pb} {ls:Nat→List Of} {ρ:List (Nat × Entry)} {B m:Nat} {x:Of} {s:St} {K:AV→St→Prop} {l o w u:Nat→Int}
theorem lfit_iff:lfit P l o x↔leB x.w l∧leB (P.out x) o:=⟨fun h=>⟨fun k hk=>(h k hk).1,fun k hk=>(h k hk).2⟩,fun h k hk=>⟨h.1 k hk,h.2 k hk⟩⟩
theorem afterI (hs:s.sto=ρ) (hρ:lowS B ρ) (hE:lowF B s.env) (hO:lowO B s.out) (hS:lk ρ 1009=some (.var (soC P ls))) (hB:3000≤B) (hb:0≤x.b∧x.b<P.cl.length) (hb8:x.b<8) (hm:m<256)
  (hl:∀ j,j<6→0≤l j∧l j≤1000000) (ho:∀ j,j<6→0≤o j∧o j≤1000000) (hx:okB x.w)
  (h:K (aftA P m l o x) s):CallI Try.prog F__p_coalition_solver__after [.ptr 1009 0,.agg (siC m l o),.agg (oC x)] s K:=by
 obtain ⟨env,σ,out,base⟩:=s
 simp only at hs hE hO h
 subst hs
 have hSl:∀ l,lk (σ++l) 1009=some (.var (soC P ls)):=fun l=>glk' hS
 obtain ⟨b,hb1,hb2⟩:∃ b:Nat,x.b=b∧b<8:=⟨x.b.toNat,by omega,by omega⟩
 have hbd:bd x=b:=by unfold bd; omega
 obtain ⟨hc1,hc2⟩:=clr_fact m hm b hb2
 have hsh:=shl_fact b hb2
 have hc1':bitI .andNot .i64 (m:Int) ((2:Int)^b)=((clrN m b:Nat):Int):=by rw[← hc1,Int.natCast_pow]; rfl
 have h64:IntKind.i64.bits=64:=rfl
 have hmin:min b 64=b:=by omega
 have hb0:¬ (b:Int)<0:=by omega
 have hox:∀ j,j<6→0≤P.out x j∧P.out x j≤1000000:=fun j hj=>by have:=out_ok (P:=P) hx hj; have:=hx j hj; omega
 have hwx:∀ j,j<6→0≤x.w j∧x.w j≤1000000:=fun j hj=>by have:=hx j hj; omega
 have low1:lowS (B+100) (σ++[(B+4,.var (siC m l o)),(B+5,.var (oC x)),(B+6,.var [iv 0,iv 0,iv 0,iv 0,iv 0,iv 0,iv 0,iv 0,iv 0,iv 0,iv 0,iv 0,iv 0])]):=by
  have e1:lowE (B+100) (.var (siC m l o))=true:=siC_low
  have e2:lowE (B+100) (.var (oC x))=true:=by rw[oC_eq]; rfl
  have e3:lowE (B+100) (.var [iv 0,iv 0,iv 0,iv 0,iv 0,iv 0,iv 0,iv 0,iv 0,iv 0,iv 0,iv 0,iv 0])=true:=rfl
  exact lowS_app.2 ⟨lowS_mono (by omega) hρ,lowS_cons.2 ⟨⟨by omega,e1⟩,lowS_cons.2 ⟨⟨by omega,e2⟩,lowS_cons.2 ⟨⟨by omega,e3⟩,lowS_nil⟩⟩⟩⟩
 have low3:lowO (B+100) (env::out):=lowO_mono (Nat.le_add_right _ _) (lowO_cons.2 ⟨hE,hO⟩)
 have fin:CallI Try.prog F__p_coalition_solver__after [.ptr 1009 0,.agg (siC m l o),.agg (oC x)] ⟨env,σ,out,base⟩ (fun r' s'=>r'=aftA P m l o x∧∃ c,s'=⟨env,σ++[(B+6,.var c)],out,base⟩):=by
  refine soundI' B t__p_coalition_solver__after (by simp) ?_
  simp[c__p_coalition_solver__after,glkn hρ,gptn hρ,glk hρ,gpt hρ,ok_outside]
  refine eCallI_of (outsideI (P:=P) (ls:=ls) (B:=B+100) rfl low1 ?_ low3 (hSl _) hb ?_)
  ·simp[lowF_cons,lowF_nil,low_ptr,low_agg]
   omega
  simp[glk hρ,gpt hρ]
  refine eCall_i (within_s (w:=x.w) (u:=l)) (by simp) (by simp) ?_
  by_cases f1:leB x.w l
  ·simp[f1,glk hρ]
   refine eCall_i (within_s (w:=P.out x) (u:=o)) (by simp) (by simp) ?_
   by_cases f2:leB (P.out x) o
   ·have hA:aftA P m l o x=.tuple [.agg (siC (clrN m b) (subB l x.w) (subB o (P.out x))),bv true]:=by unfold aftA; rw[if_pos (lfit_iff.2 ⟨f1,f2⟩),hbd]
    simp[f2,glk hρ,hb1,eBin_shl hb0,h64,hmin,hsh,hc1']
    refine eCall_i (sub_s (w:=l) (u:=x.w) hl hwx) (by simp) (by simp) ?_
    simp[glk hρ]
    refine eCall_i (sub_s (w:=o) (u:=P.out x) ho hox) (by simp) (by simp) ?_
    simp[glk hρ,gpt hρ,gdel hρ,gno hρ,geno hE,gono hO,siC_build,r__p_coalition_solver__after,hA]
   ·have hA:aftA P m l o x=.tuple [.agg (siC 0 (fun _=>0) (fun _=>0)),bv false]:=by unfold aftA; rw[if_neg (fun h=>f2 (lfit_iff.1 h).2)]
    simp[f2,glk hρ,gpt hρ,gdel hρ,gno hρ,geno hE,gono hO,zeros13,r__p_coalition_solver__after,hA]
  ·have hA:aftA P m l o x=.tuple [.agg (siC 0 (fun _=>0) (fun _=>0)),bv false]:=by unfold aftA; rw[if_neg (fun h=>f1 (lfit_iff.1 h).1)]
   simp[f1,glk hρ,gpt hρ,gdel hρ,gno hρ,geno hE,gono hO,zeros13,r__p_coalition_solver__after,hA]
 refine callI_postP fin fun r' s' ⟨e1,c,e2⟩=>?_
 subst e1 e2
 refine ⟨?_,_,imp_forget hρ hE hO,h⟩
 unfold aftA
 split<;>simp[pf,pf1]
end
end Go.Proofs.Ytpmaehfiifinhaa

namespace Go.Proofs.Ytpmaehfiifinhaa
open Go Go.Am Go.Pb
def bitsN (m:Nat):List Nat:=(List.range 8).filter fun b=>m.testBit b
theorem bits_first:∀ m:Nat,m<256→m≠0→∃ f,f<8∧(m.testBit f=true∧(∀ j,j<f→m.testBit j=false)∧bitsN m=f::bitsN (clrN m f)∧clrN m f<m):=by decide +kernel
theorem bits_clr:∀ m:Nat,m<256→∀ b:Nat,b<8→bitsN (clrN m b)=rm (bitsN m) b:=by decide +kernel
theorem bits_nodup {m:Nat}:(bitsN m).Nodup:=List.nodup_range.filter _
theorem mem_bits {m b:Nat}:b∈bitsN m↔b<8∧m.testBit b=true:=by unfold bitsN; simp
def valN (P:Pb) (m:Nat) (l o:Nat→Int):Int:=P.val (bitsN m) l o
def keyS (m:Nat) (l o:Nat→Int):List Int:=(m:Int)::(bI l++bI o)
theorem keyS_len {m:Nat} {l o:Nat→Int}:(keyS m l o).length=13:=rfl
theorem siC_key {m:Nat} {l o:Nat→Int}:siC m l o=(keyS m l o).map iv:=by
 unfold siC keyS bC; simp
theorem key13 {k:List Int} (h:k.length=13):∃ a b c d e f g h' i j q r s,k=[a,b,c,d,e,f,g,h',i,j,q,r,s]:=by
 match k,h with
 | [a,b,c,d,e,f,g,h',i,j,q,r,s],_=>exact ⟨a,b,c,d,e,f,g,h',i,j,q,r,s,rfl⟩
theorem keySChk (b:Bool) (a0 a1 a2 a3 a4 a5 a6 a7 a8 a9 a10 a11 a12:Int):semPure Try.prog (Instr.checkKey b 10000 T_coalition_situation (keyV [a0,a1,a2,a3,a4,a5,a6,a7,a8,a9,a10,a11,a12]))=some ():=by kernel_rfl
theorem keyTS {t:TypeId}:KeyT Try.prog t T_coalition_situation 13 where
 kd:=kd_coalition_situation
 ag:=ag_coalition_situation
 chk:=fun b k h=>by
  obtain ⟨a0,a1,a2,a3,a4,a5,a6,a7,a8,a9,a10,a11,a12,rfl⟩:=key13 h
  exact keySChk b a0 a1 a2 a3 a4 a5 a6 a7 a8 a9 a10 a11 a12
theorem umS:Try.prog.underlying T_mapacoalition_situation_int64=some (.map T_coalition_situation T_int64):=um_mapacoalition_situation_int64
theorem zvS:semPure Try.prog (zeroValue T_int64)=some (.int .i64 0):=by kernel_rfl
def Good (P:Pb) (es:Ents):Prop:=keysN 13 es∧∀ (m:Nat) l o x,findL (keyS m l o) es=some x→x=.int .i64 (valN P m l o)
theorem keyS_eq {m m':Nat} {l o l' o':Nat→Int} (h:keyS m l o=keyS m' l' o'):m=m'∧eqB l l'∧eqB o o':=by
 unfold keyS at h
 rw[List.cons.injEq] at h
 obtain ⟨h1,h2⟩:=h
 obtain ⟨h3,h4⟩:=List.append_inj h2 rfl
 exact ⟨by omega,bI_eq.1 h3,bI_eq.1 h4⟩
theorem good_set {P:Pb} {es:Ents} {m:Nat} {l o:Nat→Int} (h:Good P es):Good P (setL (keyS m l o) (.int .i64 (valN P m l o)) es):=by
 refine ⟨setL_keys keyS_len h.1,fun m' l' o' x hx=>?_⟩
 rw[findL_set] at hx
 split at hx
 ·rename_i e
  obtain ⟨rfl,e1,e2⟩:=keyS_eq e
  cases hx
  unfold valN
  rw[val_congr _ e1 e2]
 ·exact h.2 m' l' o' x hx
theorem good_nil {P:Pb}:Good P []:=⟨fun x hx=>(by cases hx),fun m l o x hx=>(by simp[findL] at hx)⟩
def rhoM (ρ:List (Nat × Entry)) (es:Ents):List (Nat × Entry):=pt ρ 1007 (.map (mapA es) es.length)
section
variable {P:Pb} {ls:Nat→List Of} {ρ l:List (Nat × Entry)} {B:Nat} {es es':Ents} {e:Entry}
theorem rhoM_map:lk (rhoM ρ es) 1007=some (.map (mapA es) es.length):=by unfold rhoM; rw[lk_pt,if_pos rfl]
theorem rhoM_sol (h:lk ρ 1009=some e):lk (rhoM ρ es) 1009=some e:=by unfold rhoM; rw[lk_pt,if_neg (by decide),h]
theorem rhoM_low (h:lowS B ρ) (hB:3000≤B):lowS B (rhoM ρ es):=lowS_pt h (by omega) rfl
theorem rhoM_set:pt (rhoM ρ es++l) 1007 (.map (mapA es') es'.length)=rhoM ρ es'++l:=by
 rw[gpt' rhoM_map]
 unfold rhoM
 rw[pt_pt_same]
theorem rhoM_app:rhoM (rhoM ρ es++l) es'=rhoM ρ es'++l:=rhoM_set
theorem pt_self {k:Nat} (h:lk ρ k=some e):pt ρ k e=ρ:=by
 induction ρ with
 | nil=>cases h
 | cons p ρ ih =>
  obtain ⟨m,x⟩:=p
  simp only[lk] at h
  simp only[pt]
  split at h
  ·rename_i he; subst he; cases h; rw[if_pos rfl]
  ·rename_i hne; rw[if_neg hne,ih h]
theorem rhoM_self (h:lk ρ 1007=some (.map (mapA es) es.length)):rhoM ρ es=ρ:=pt_self h
end
end Go.Proofs.Ytpmaehfiifinhaa

namespace Go.Proofs.Ytpmaehfiifinhaa
open Go Go.Am Go.Pb
theorem ok_after:okFn Try.prog F__p_coalition_solver__after=true:=by kernel_rfl
theorem ok_best:okFn Try.prog F__p_coalition_solver__best=true:=by kernel_rfl
theorem ok_start:okFn Try.prog F__p_coalition_solver__start=true:=by kernel_rfl
def lsP (P:Pb) (j:Nat):List Of:=P.of.filter fun x=>bd x == j
def rngB (l:Nat→Int):Prop:=∀ j,j<6→0≤l j∧l j≤1000000
def BestOf (P:Pb) (m:Nat):Prop:=∀ (l o:Nat→Int) (ρ:List (Nat × Entry)) (B:Nat) (es:Ents) (s:St) (K:AV→St→Prop),s.sto=ρ→lowS B ρ→lowF B s.env→lowO B s.out→3000≤B →
 lk ρ 1009=some (.var (soC P (lsP P)))→lk ρ 1007=some (.map (mapA es) es.length)→Good P es→rngB l→rngB o →
 (∀ es',Good P es'→K (iv (valN P m l o)) ⟨s.env,rhoM ρ es',s.out,s.base⟩)→CallI Try.prog F__p_coalition_solver__best [.ptr 1009 0,.agg (siC m l o)] s K
noncomputable def stB0 (m:Nat) (l o:Nat→Int) (B:Nat) (ρ:List (Nat × Entry)) (out:List (List (Nat × AV))) (k:Nat):St :=
 {env:=[(0,.ptr 1009 0),(3,.ptr (B+3) 0),(7,iv k)],sto:=ρ++[(B+3,.var (siC m l o))],out:=out,base:=B}
noncomputable def stB1 (P:Pb) (m f:Nat) (l o:Nat→Int) (B:Nat) (ρ:List (Nat × Entry)) (out:List (List (Nat × AV))) (es:Ents) (v:Int) (k:Nat):St :=
 {env:=[(0,.ptr 1009 0),(3,.ptr (B+3) 0),(9,iv v),(51,lsA (lsP P) f),(52,iv (lsP P f).length),(53,iv k)],sto:=rhoM ρ es++[(B+3,.var (siC m l o))],out:=out,base:=B}
theorem rhoM_app0 {ρ l:List (Nat × Entry)} {e:Entry} {es:Ents} (h:lk ρ 1007=some e):rhoM (ρ++l) es=rhoM ρ es++l:=gpt' h
section
variable {P:Pb} {ρ:List (Nat × Entry)} {B m:Nat} {l o:Nat→Int}
theorem mb_lookup {es:Ents} {σ:Nat→Option Entry} {K:AV→Option Entry→Prop} (h1:σ 1007=some (.map (mapA es) es.length)) (hG:Good P es) :
  eLookup Try.prog T_mapacoalition_situation_int64 true σ [.mp 1007,.agg (siC m l o)] K=K (.tuple [ofV ((findL (keyS m l o) es).getD (.int .i64 0)),bv (findL (keyS m l o) es).isSome]) none:=by
 rw[siC_key,eLookup_ints keyTS umS zvS h1 keyS_len hG.1]
 rfl
theorem mb_set {s:St} {KS:St→Prop} {es:Ents} {v:Int} (h1:lk s.sto 1007=some (.map (mapA es) es.length)) (hG:Good P es) :
  eMapset Try.prog T_mapacoalition_situation_int64 s none KS [.mp 1007,.agg (siC m l o),iv v]=KS {s with sto:=pt s.sto 1007 (.map (mapA (setL (keyS m l o) (.int .i64 v) es)) (setL (keyS m l o) (.int .i64 v) es).length)}:=by
 rw[siC_key,eMapset_ints keyTS umS h1 keyS_len hG.1 rfl]
 simp
theorem lsP_good (hG:P.Good) {f:Nat} {x:Of} (h:x∈lsP P f):x∈P.of∧bd x=f∧(0≤x.b∧x.b<P.cl.length)∧x.b<8∧(0≤x.v∧x.v≤1000000)∧okB x.w:=by
 obtain ⟨h1,h2⟩:=List.mem_filter.1 h
 have h3:=sim_ok (off_sim (hG.off x h1)).1
 have h8:=hG.n
 exact ⟨h1,by simpa using h2,h3.1,by omega,by omega,h3.2.2⟩
theorem vals_good (hG:P.Good):∀ x∈P.of,0≤x.v∧x.v≤1000000:=fun x hx=>by
 have h3:=sim_ok (off_sim (hG.off x hx)).1
 omega
theorem bits_len {m:Nat}:(bitsN m).length≤8:=by
 have:=List.length_filter_le (fun b=>m.testBit b) (List.range 8)
 simpa [bitsN] using this
theorem valN_rng (hG:P.Good) (m:Nat) (l o:Nat→Int):0≤valN P m l o∧valN P m l o≤8000000:=by
 have h:=val_size (vals_good hG) (bitsN m) l o
 have:=bits_len (m:=m)
 unfold valN
 omega
theorem sub_rng {w:Nat→Int} (hl:rngB l) (h:leB w l) (hw:∀ j,j<6→0≤w j):rngB (subB l w):=fun j hj=>by
 have:=hl j hj
 have:=h j hj
 have:=hw j hj
 unfold subB; omega
theorem bestI (hG:P.Good) (m:Nat) (hm:m<256):BestOf P m:=by
 induction m using Nat.strongRecOn with
 | ind m ih =>
 intro l o ρ B es s K hs hρ hE hO hB hS hM hes hl ho h
 obtain ⟨env,σ,out,base⟩:=s
 simp only at hs hE hO h
 subst hs
 have hSl:∀ t,lk (σ++t) 1009=some (.var (soC P (lsP P))):=fun t=>glk' hS
 have hMl:∀ t,lk (σ++t) 1007=some (.map (mapA es) es.length):=fun t=>glk' hM
 refine soundI' B t__p_coalition_solver__best (by simp) ?_
 by_cases m0:m=0
 ·subst m0
  have hv:valN P 0 l o=0:=rfl
  have hk:=h es hes
  rw[hv,rhoM_self hM] at hk
  simp[c__p_coalition_solver__best,glkn hρ,gptn hρ,glk hρ,gdel hρ,geno hE,gono hO,gnon hρ,r__p_coalition_solver__best]
  exact hk
 ·obtain ⟨f,hf8,hft,hfl,hfb,hfm⟩:=bits_first m hm m0
  obtain ⟨hc1,hc2⟩:=clr_fact m hm f hf8
  have hv:valN P m l o=fold (lfit P l o) (fun x=>x.v+valN P (clrN m f) (subB l x.w) (subB o (P.out x))) (valN P (clrN m f) l o) (lsP P f):=by
   unfold valN
   rw[hfb]
   rfl
  simp[c__p_coalition_solver__best,m0,glkn hρ,gptn hρ,glk hρ,hSl]
  rw[mb_lookup (hMl _) hes]
  cases hfi:findL (keyS m l o) es with
  | some x =>
   have hx:=hes.2 _ _ _ _ hfi
   subst hx
   have hk:=h es hes
   rw[rhoM_self hM] at hk
   simp[ofV,ofV1,glk hρ,gdel hρ,geno hE,gono hO,gnon hρ,r__p_coalition_solver__best]
   exact hk
  | none =>
   have h64:IntKind.i64.bits=64:=rfl
   simp[ofV,ofV1]
   have hbit:∀ k,k<8→bitI .and .i64 ((m:Int).fdiv (2^k)) 1=if m.testBit k then 1 else 0:=fun k hk=>by
    rw[mb_one (m:Int) k (by omega) (by omega) (by omega),mb_nat m k (by omega)]
   refine awp_forW (stB0 m l o B σ (env::out)) (fun _=>True) f (by simp[stB0]) trivial (fun k hk _=>?_) (fun _=>?_)
   ·have w1:=wrap_succ (k:=k) (by omega)
    have hb:=hbit k (by omega)
    rw[hfl k hk] at hb
    simp at hb
    have k0:¬ (k:Int)<0:=by omega
    have hmin:min k 64=k:=by omega
    simp[c__p_coalition_solver__best_l0,stB0,glk hρ,eBin_shr k0,h64,hmin,hb,w1]
   ·have hb:=hbit f hf8
    rw[hft] at hb
    simp at hb
    have k0:¬ (f:Int)<0:=by omega
    have hmin:min f 64=f:=by omega
    have key:∀ K:Exit→St→Prop,K (.exit 0) {env:=[(0,.ptr 1009 0),(3,.ptr (B+3) 0),(7,iv f),(33,bv false)],sto:=σ++[(B+3,.var (siC m l o))],out:=env::out,base:=B}→awp Try.prog c__p_coalition_solver__best_l0 (stB0 m l o B σ (env::out) f) (lastC K):=by
     intro K h
     simp[c__p_coalition_solver__best_l0,stB0,glk hρ,eBin_shr k0,h64,hmin,hb]
     exact h
    refine key _ ?_
    have hsh:=shl_fact f hf8
    have hc1':bitI .andNot .i64 (m:Int) ((2:Int)^f)=((clrN m f:Nat):Int):=by rw[← hc1,Int.natCast_pow]; rfl
    have hsh':IntKind.i64.wrap ((2:Int)^f)=(2:Int)^f:=by rw[hsh,Int.natCast_pow]; rfl
    simp[c__p_coalition_solver__best_k3,glk hρ,gpt hρ,eBin_shl k0,h64,hmin,hsh',hc1',ok_best]
    have low1:lowS (B+100) (σ++[(B+3,.var (siC m l o)),(B+8,.var (siC (clrN m f) l o))]) :=
     lowS_app.2 ⟨lowS_mono (by omega) hρ,lowS_cons.2 ⟨⟨by omega,siC_low⟩,lowS_cons.2 ⟨⟨by omega,siC_low⟩,lowS_nil⟩⟩⟩
    have low3:lowO (B+100) (env::out):=lowO_mono (Nat.le_add_right _ _) (lowO_cons.2 ⟨hE,hO⟩)
    refine eCallI_of (ih (clrN m f) hfm (by omega) l o _ (B+100) es _ _ rfl low1 ?_ low3 (by omega) (hSl _) (hMl _) hes hl ho fun es1 hes1=>?_)
    ·simp[lowF_cons,lowF_nil,low_iv,low_ptr,low_agg]
     omega
    rw[rhoM_app0 hM]
    have hρ1:lowS B (rhoM σ es1):=rhoM_low hρ hB
    have hS1:∀ t,lk (rhoM σ es1++t) 1009=some (.var (soC P (lsP P))):=fun t=>glk' (rhoM_sol hS)
    simp[-eLen1,glk hρ1,gdel hρ1,gno hρ1,geno hE,gono hO,hS1,so_l hf8]
    generalize hL:lsP P f=L at *
    have hvr:∀ y l' o',0≤valN P y l' o'∧valN P y l' o'≤8000000:=fun y l' o'=>valN_rng hG y l' o'
    have hLg:∀ x∈L,x∈P.of∧bd x=f∧(0≤x.b∧x.b<P.cl.length)∧x.b<8∧(0≤x.v∧x.v≤1000000)∧okB x.w:=fun x hx=>lsP_good hG (hL▸hx)
    obtain ⟨g,hg⟩:∃ g:Of→Int,g=fun x=>x.v+valN P (clrN m f) (subB l x.w) (subB o (P.out x)):=⟨_,rfl⟩
    rw[← hg] at hv
    have hgr:∀ x∈L,0≤g x∧g x≤9000000:=fun x hx=>by
     have h1:=(hLg x hx).2.2.2.2.1
     have h2:=hvr (clrN m f) (subB l x.w) (subB o (P.out x))
     rw[hg]; dsimp only; omega
    have hLk:L.length≤160:=by rw[← hL]; exact Nat.le_trans (List.length_filter_le _ _) hG.k
    refine ⟨by omega,by omega,?_⟩
    rw[awp_loop]
    refine ⟨fun n s=>∃ j es',n=L.length-j∧j≤L.length∧Good P es'∧s=stB1 P m f l o B σ (env::out) es' (fold (lfit P l o) g (valN P (clrN m f) l o) (L.take j)) j,L.length,stB1 P m f l o B σ (env::out) es1 (valN P (clrN m f) l o) 0,St.imp_of (by simp[stB1,hL]),⟨0,es1,rfl,Nat.zero_le _,hes1,rfl⟩,?_⟩
    rintro n s ⟨j,es',rfl,hj,hes',rfl⟩
    have hρ':lowS B (rhoM σ es'):=rhoM_low hρ hB
    have hS':∀ t,lk (rhoM σ es'++t) 1009=some (.var (soC P (lsP P))):=fun t=>glk' (rhoM_sol hS)
    have hM':∀ t,lk (rhoM σ es'++t) 1007=some (.map (mapA es') es'.length):=fun t=>glk' rhoM_map
    by_cases hjl:j<L.length
    ·have e:(j:Int)<L.length:=by omega
     have w1:=wrap_succ (k:=j) (by omega)
     have hja:j<(ofR L).length:=by simpa using hjl
     have hgx:L[j]?=some L[j]:=by simp[hjl]
     have htk:=take_succ' hgx
     obtain ⟨x,hx⟩:∃ x,L[j]=x:=⟨_,rfl⟩
     rw[hx] at hgx htk
     have hxm:x∈L:=hx▸List.getElem_mem hjl
     obtain ⟨x1,x2,x3,x4,x5,x6⟩:=hLg x hxm
     have hfold:=fold_snoc (c:=lfit P l o) (f:=g) (v0:=valN P (clrN m f) l o) (l:=L.take j) (x:=x)
     rw[← htk] at hfold
     obtain ⟨u,hu⟩:∃ u,fold (lfit P l o) g (valN P (clrN m f) l o) (L.take j)=u:=⟨_,rfl⟩
     rw[hu] at hfold
     have hlast:∀ (es2:Ents) (u2:Int),Good P es2→u2=fold (lfit P l o) g (valN P (clrN m f) l o) (L.take (j+1))→∃ m',m'<L.length-j∧∃ s',s'=stB1 P m f l o B σ (env::out) es2 u2 (j+1)∧∃ j' es',m'=L.length-j'∧j'≤L.length∧Good P es'∧s'=stB1 P m f l o B σ (env::out) es' (fold (lfit P l o) g (valN P (clrN m f) l o) (L.take j')) j' :=
      fun es2 u2 h2 h3=>⟨L.length-(j+1),by omega,_,rfl,j+1,es2,rfl,by omega,h2,by rw[h3]⟩
     simp[-eIaddrS,c__p_coalition_solver__best_l1,stB1,lsA,hL,e,eIaddrS_apc hja,hx,hu,glk hρ',gpt hρ',ok_after]
     have lowA:lowS (B+100) (rhoM σ es'++[(B+3,.var (siC m l o)),(B+11,.var (oC x))]) :=
      lowS_app.2 ⟨lowS_mono (by omega) hρ',lowS_cons.2 ⟨⟨by omega,siC_low⟩,lowS_cons.2 ⟨⟨by omega,by rw[oC_eq]; rfl⟩,lowS_nil⟩⟩⟩
     refine eCallI_of (afterI (P:=P) (ls:=lsP P) (B:=B+100) rfl lowA ?_ low3 (hS' _) (by omega) x3 x4 hm hl ho x6 ?_)
     ·have hap:=low_apc (M:=B+100) (tok:=2000+f) (sz:=8) (rows:=ofR L) (by omega)
      simp[lowF_cons,lowF_nil,low_iv,low_ptr,low_agg,hap]
      omega
     by_cases hfit:lfit P l o x
     ·rw[if_pos hfit] at hfold
      have hA:aftA P m l o x=.tuple [.agg (siC (clrN m f) (subB l x.w) (subB o (P.out x))),bv true]:=by unfold aftA; rw[if_pos hfit,x2]
      rw[hA]
      have hx0:∀ k,k<6→0≤x.w k:=fun k hk=>(x6 k hk).1
      have hl':rngB (subB l x.w):=sub_rng hl (lfit_iff.1 hfit).1 hx0
      have ho':rngB (subB o (P.out x)):=sub_rng ho (lfit_iff.1 hfit).2 fun k hk=>(out_ok (P:=P) x6 hk).1
      simp[glk hρ',gpt hρ',ok_best,freshP]
      have lowB:lowS (B+100) (rhoM σ es'++[(B+3,.var (siC m l o)),(B+11,.var (oC x)),(B+12,.var (siC (clrN m f) (subB l x.w) (subB o (P.out x))))]) :=
       lowS_app.2 ⟨lowS_mono (by omega) hρ',lowS_cons.2 ⟨⟨by omega,siC_low⟩,lowS_cons.2 ⟨⟨by omega,by rw[oC_eq]; rfl⟩,lowS_cons.2 ⟨⟨by omega,siC_low⟩,lowS_nil⟩⟩⟩⟩
      refine ⟨by simp[freshP,glk hρ'],fun D=>ih (clrN m f) hfm (by omega) _ _ _ (B+100) es' _ _ rfl lowB ?_ low3 (by omega) (hS' _) (hM' _) hes' hl' ho' fun es2 hes2=>?_⟩
      ·refine lowF_del ?_
       have hap:=low_apc (M:=B+100) (tok:=2000+f) (sz:=8) (rows:=ofR L) (by omega)
       simp[lowF_cons,lowF_nil,low_iv,low_bv,low_ptr,low_agg,hap]
       omega
      ·rw[rhoM_app]
       have hρ2:lowS B (rhoM σ es2):=rhoM_low hρ hB
       refine ⟨⟨_,rhoM σ es2++[(B+3,.var (siC m l o)),(B+11,.var (oC x)),(B+12,.var (siC (clrN m f) (subB l x.w) (subB o (P.out x))))],env::out,B⟩,rfl,rfl,by simp[freshP,glk hρ2],?_⟩
       have hgx1:=hgr x hxm
       have hgxv:g x=x.v+valN P (clrN m f) (subB l x.w) (subB o (P.out x)):=by rw[hg]
       have w3:IntKind.i64.wrap (x.v+valN P (clrN m f) (subB l x.w) (subB o (P.out x)))=g x:=by rw[← hgxv,wrap64]<;>omega
       simp[glk hρ2,gdel hρ2,gno hρ2,geno hE,gono hO,w3,w1]
       exact ⟨by omega,L.length-(j+1),by omega,_,St.imp.refl,j+1,rfl,by omega,es2,hes2,by rw[hfold]; rfl⟩
     ·rw[if_neg hfit] at hfold
      have hA:aftA P m l o x=.tuple [.agg (siC 0 (fun _=>0) (fun _=>0)),bv false]:=by unfold aftA; rw[if_neg hfit]
      rw[hA]
      simp[glk hρ',gpt hρ',gdel hρ',gno hρ',geno hE,gono hO,w1]
      exact ⟨by omega,L.length-(j+1),by omega,_,St.imp.refl,j+1,rfl,by omega,es',hes',by rw[hfold]; rfl⟩
    ·have hje:j=L.length:=by omega
     subst hje
     have e:¬ ((L.length:Nat):Int)<L.length:=by omega
     have hall:L.take L.length=L:=List.take_of_length_le (Nat.le_refl _)
     rw[hall,← hv]
     simp[c__p_coalition_solver__best_l1,stB1,lsA,hL,c__p_coalition_solver__best_k2,glk hρ',hS']
     rw[mb_set (hM' _) hes',rhoM_set]
     have hρ2:lowS B (rhoM σ (setL (keyS m l o) (.int .i64 (valN P m l o)) es')):=rhoM_low hρ hB
     simp[glk hρ2,gdel hρ2,geno hE,gono hO,gnon hρ2,r__p_coalition_solver__best]
     exact h _ (good_set hes')
end
end Go.Proofs.Ytpmaehfiifinhaa

namespace Go.Proofs.Ytpmaehfiifinhaa
open Go Go.Am Go.Pb
noncomputable abbrev lsT (tk:Nat→Nat) (ls:Nat→List Of) (j:Nat):AV:=apc (tk j) 8 (ofR (ls j))
@[irreducible] noncomputable def soT (P:Pb) (tk:Nat→Nat) (ls:Nat→List Of):List AV:=pbC P++([lsT tk ls 0,lsT tk ls 1,lsT tk ls 2,lsT tk ls 3,lsT tk ls 4,lsT tk ls 5,lsT tk ls 6,lsT tk ls 7]++[.mp 1007])
theorem soT_eq (P:Pb) (tk:Nat→Nat) (ls:Nat→List Of):soT P tk ls=[iv (P.sup 0),iv (P.sup 1),iv (P.sup 2),iv (P.sup 3),iv (P.sup 4),iv (P.sup 5),iv (P.opn 0),iv (P.opn 1),iv (P.opn 2),iv (P.opn 3),iv (P.opn 4),iv (P.opn 5),
  iv (P.cls 0),iv (P.cls 1),iv (P.cls 2),iv (P.cls 3),iv (P.cls 4),iv (P.cls 5),clA P.cl,ofA P.of,lsT tk ls 0,lsT tk ls 1,lsT tk ls 2,lsT tk ls 3,lsT tk ls 4,lsT tk ls 5,lsT tk ls 6,lsT tk ls 7,.mp 1007]:=by unfold soT; simp only[pbX_eq]; rfl
theorem soC_T (P:Pb) (ls:Nat→List Of):soC P ls=soT P (fun j=>2000+j) ls:=by rw[soC_eq,soT_eq]
section
variable {P:Pb} {tk:Nat→Nat} {ls:Nat→List Of} {b l t a c:Nat} {r:List Of}
@[simp] theorem soT_len:(soT P tk ls).length=29:=by rw[soT_eq]; rfl
theorem apc_rn {sz:Nat} {rows:List (List AV)}:rn a c (apc t sz rows)=apc (sw a c t) sz rows:=by
 unfold apc
 split<;>rfl
theorem soT_rn (h:sw a c 1007=1007):(soT P tk ls).map (rn a c)=soT P (fun j=>sw a c (tk j)) ls:=by
 have hm:rn a c (.mp 1007)=.mp 1007:=by show AV.mp (sw a c 1007)=_; rw[h]
 have hi:∀ n:Int,rn a c (iv n)=iv n:=fun _=>rfl
 have hc:rn a c (clA P.cl)=clA P.cl:=rfl
 have ho:rn a c (ofA P.of)=ofA P.of:=rfl
 rw[soT_eq,soT_eq]
 simp only[List.map_cons,List.map_nil,apc_rn,hm,hi,hc,ho,lsT]
theorem soT_dg (h:∀ j,j<8→¬ tk j=l):(soT P tk ls).map (dg l)=soT P tk ls:=by
 have hm:dg l (.mp 1007)=.mp 1007:=rfl
 have hi:∀ n:Int,dg l (iv n)=iv n:=fun _=>rfl
 have hc:dg l (clA P.cl)=clA P.cl:=rfl
 have ho:dg l (ofA P.of)=ofA P.of:=rfl
 have d:∀ j,j<8→dg l (lsT tk ls j)=lsT tk ls j:=fun j hj=>apc_dg (h j hj)
 rw[soT_eq]
 simp only[List.map_cons,List.map_nil,hm,hi,hc,ho,d 0 (by omega),d 1 (by omega),d 2 (by omega),d 3 (by omega),d 4 (by omega),d 5 (by omega),d 6 (by omega),d 7 (by omega)]
theorem dgE_varR {l:Nat} {c:List AV}:dgE l (.var c)=.var (c.map (dg l)):=rfl
theorem dgE_mapR {l c:Nat} {es:Array MapEntry}:dgE l (.map es c)=.map es c:=rfl
theorem rnE_varR {a c:Nat} {l:List AV}:rnE a c (.var l)=.var (l.map (rn a c)):=rfl
theorem rnE_mapR {a c n:Nat} {es:Array MapEntry}:rnE a c (.map es n)=.map es n:=rfl
theorem rn_ptrR {a c k off:Nat}:rn a c (.ptr k off)=.ptr (sw a c k) off:=rfl
theorem rn_valR {a c:Nat} {v:Value}:rn a c (.val v)=.val v:=rfl
theorem rn_plainR {a c sz:Nat} {rows:List (List AV)}:rn a c (.list sz .plain rows)=.list sz .plain rows:=rfl
theorem spl1 {l:List AV} {i:Nat} {y:AV} (h:i<l.length):splice l i [y]=l.set i y:=by
 unfold splice
 rw[List.set_eq_take_append_cons_drop,if_pos h]
 simp
def updN {α:Type} (f:Nat→α) (b:Nat) (x:α):Nat→α:=fun j=>if j=b then x else f j
theorem soT_put (hb:b<8) (h:∀ j,j<8→¬ j=b→¬ tk j=l):((soT P tk ls).map (dg l)).set (20+b) (apc t 8 (ofR r))=soT P (updN tk b t) (updN ls b r):=by
 have hm:dg l (.mp 1007)=.mp 1007:=rfl
 have hi:∀ n:Int,dg l (iv n)=iv n:=fun _=>rfl
 have hc:dg l (clA P.cl)=clA P.cl:=rfl
 have ho:dg l (ofA P.of)=ofA P.of:=rfl
 have d:∀ j,j<8→¬ j=b→dg l (lsT tk ls j)=lsT tk ls j:=fun j hj hn=>apc_dg (h j hj hn)
 have u:∀ j,¬ j=b→lsT (updN tk b t) (updN ls b r) j=lsT tk ls j:=fun j hn=>by unfold lsT updN; rw[if_neg hn,if_neg hn]
 have v:lsT (updN tk b t) (updN ls b r) b=apc t 8 (ofR r):=by unfold lsT updN; rw[if_pos rfl,if_pos rfl]
 rw[soT_eq,soT_eq]
 simp only[List.map_cons,List.map_nil,hm,hi,hc,ho]
 match b,hb with
 | 0,_=>rw[v,u 1 (by decide),u 2 (by decide),u 3 (by decide),u 4 (by decide),u 5 (by decide),u 6 (by decide),u 7 (by decide),d 1 (by decide) (by decide),d 2 (by decide) (by decide),d 3 (by decide) (by decide),d 4 (by decide) (by decide),d 5 (by decide) (by decide),d 6 (by decide) (by decide),d 7 (by decide) (by decide)]; rfl
 | 1,_=>rw[v,u 0 (by decide),u 2 (by decide),u 3 (by decide),u 4 (by decide),u 5 (by decide),u 6 (by decide),u 7 (by decide),d 0 (by decide) (by decide),d 2 (by decide) (by decide),d 3 (by decide) (by decide),d 4 (by decide) (by decide),d 5 (by decide) (by decide),d 6 (by decide) (by decide),d 7 (by decide) (by decide)]; rfl
 | 2,_=>rw[v,u 0 (by decide),u 1 (by decide),u 3 (by decide),u 4 (by decide),u 5 (by decide),u 6 (by decide),u 7 (by decide),d 0 (by decide) (by decide),d 1 (by decide) (by decide),d 3 (by decide) (by decide),d 4 (by decide) (by decide),d 5 (by decide) (by decide),d 6 (by decide) (by decide),d 7 (by decide) (by decide)]; rfl
 | 3,_=>rw[v,u 0 (by decide),u 1 (by decide),u 2 (by decide),u 4 (by decide),u 5 (by decide),u 6 (by decide),u 7 (by decide),d 0 (by decide) (by decide),d 1 (by decide) (by decide),d 2 (by decide) (by decide),d 4 (by decide) (by decide),d 5 (by decide) (by decide),d 6 (by decide) (by decide),d 7 (by decide) (by decide)]; rfl
 | 4,_=>rw[v,u 0 (by decide),u 1 (by decide),u 2 (by decide),u 3 (by decide),u 5 (by decide),u 6 (by decide),u 7 (by decide),d 0 (by decide) (by decide),d 1 (by decide) (by decide),d 2 (by decide) (by decide),d 3 (by decide) (by decide),d 5 (by decide) (by decide),d 6 (by decide) (by decide),d 7 (by decide) (by decide)]; rfl
 | 5,_=>rw[v,u 0 (by decide),u 1 (by decide),u 2 (by decide),u 3 (by decide),u 4 (by decide),u 6 (by decide),u 7 (by decide),d 0 (by decide) (by decide),d 1 (by decide) (by decide),d 2 (by decide) (by decide),d 3 (by decide) (by decide),d 4 (by decide) (by decide),d 6 (by decide) (by decide),d 7 (by decide) (by decide)]; rfl
 | 6,_=>rw[v,u 0 (by decide),u 1 (by decide),u 2 (by decide),u 3 (by decide),u 4 (by decide),u 5 (by decide),u 7 (by decide),d 0 (by decide) (by decide),d 1 (by decide) (by decide),d 2 (by decide) (by decide),d 3 (by decide) (by decide),d 4 (by decide) (by decide),d 5 (by decide) (by decide),d 7 (by decide) (by decide)]; rfl
 | 7,_=>rw[v,u 0 (by decide),u 1 (by decide),u 2 (by decide),u 3 (by decide),u 4 (by decide),u 5 (by decide),u 6 (by decide),d 0 (by decide) (by decide),d 1 (by decide) (by decide),d 2 (by decide) (by decide),d 3 (by decide) (by decide),d 4 (by decide) (by decide),d 5 (by decide) (by decide),d 6 (by decide) (by decide)]; rfl
 | n+8,hb=>omega
theorem soT_l (h:b<8):(soT P tk ls)[20+b]?=some (lsT tk ls b):=by
 rw[soT_eq]
 match b,h with
 | 0,_=>rfl
 | 1,_=>rfl
 | 2,_=>rfl
 | 3,_=>rfl
 | 4,_=>rfl
 | 5,_=>rfl
 | 6,_=>rfl
 | 7,_=>rfl
 | n+8,h=>omega
theorem soT_gl (h:b<8):goLoad (soT P tk ls) (20+b) none=some (lsT tk ls b):=soT_l h
theorem soT_ref {k:Nat} (h:¬ 1007=k):anyRef k (soT P tk ls)=false:=by
 have hm:refsTo k (.mp 1007)=false:=by show (1007 == k)=false; simpa using h
 have hi:∀ n:Int,refsTo k (iv n)=false:=fun _=>rfl
 have hc:refsTo k (clA P.cl)=false:=rfl
 have ho:refsTo k (ofA P.of)=false:=rfl
 rw[soT_eq]
 simp only[anyRef,lsT,apc_refs,hm,hi,hc,ho,Bool.or_false]
theorem soT_new:splice (splice [iv 0,iv 0,iv 0,iv 0,iv 0,iv 0,iv 0,iv 0,iv 0,iv 0,iv 0,iv 0,iv 0,iv 0,iv 0,iv 0,iv 0,iv 0,nilL,nilL,nilL,nilL,nilL,nilL,nilL,nilL,nilL,nilL,.val (.map none)] 0 (pbC P)) 28 [.mp 1007]=soT P tk (fun _=>[]):=by
 rw[soT_eq]
 simp only[pbX_eq,lsT,ofR_nil,apc_nil0]
 rfl
def lsK (P:Pb) (k j:Nat):List Of:=(P.of.take k).filter fun x=>bd x == j
theorem lsK_succ {P:Pb} {k:Nat} {x:Of} (h:P.of[k]?=some x):lsK P (k+1)=updN (lsK P k) (bd x) (lsK P k (bd x)++[x]):=by
 funext j
 unfold lsK updN
 rw[take_succ' h,List.filter_append]
 by_cases e:j=bd x
 ·subst e; rw[if_pos rfl]; simp
 ·rw[if_neg e]
  have:(bd x == j)=false:=by simpa using fun e'=>e e'.symm
  simp[this]
theorem lsK_zero {P:Pb}:lsK P 0=fun _=>[]:=by funext j; rfl
theorem lsK_all {P:Pb}:lsK P P.of.length=lsP P:=by funext j; unfold lsK lsP; rw[List.take_of_length_le (Nat.le_refl _)]
theorem lsK_len {P:Pb} {k j:Nat}:(lsK P k j).length≤P.of.length:=Nat.le_trans (List.length_filter_le _ _) (by rw[List.length_take]; omega)
end
section
variable {P:Pb} {ρ:List (Nat × Entry)} {K:AV→St→Prop} {s:St}
noncomputable def stNs (P:Pb) (ρ:List (Nat × Entry)) (out:List (List (Nat × AV))) (k:Nat):St :=
 {env:=[(3,.ptr 1009 0),(11,ofA P.of),(12,iv P.of.length),(13,iv k)],sto:=ρ++[(1007,.map (mapA []) 0),(1009,.var (soT P (fun j=>2000+j) (lsK P k)))],out:=out,base:=1000}
theorem soT_fill {tk:Nat→Nat}:fillR [iv 0,iv 0,iv 0,iv 0,iv 0,iv 0,iv 0,iv 0,iv 0,iv 0,iv 0,iv 0,iv 0,iv 0,iv 0,iv 0,iv 0,iv 0,nilL,nilL,nilL,nilL,nilL,nilL,nilL,nilL,nilL,nilL,.val (.map none)] [(0,20),(28,1)] [.agg (pbC P),.mp 1007]=some (soT P tk (fun _=>[])):=by
 have h1:cellsOf (.agg (pbC P))=some (pbC P):=rfl
 have h2:cellsOf (.mp 1007)=some [.mp 1007]:=rfl
 have h3:(splice [iv 0,iv 0,iv 0,iv 0,iv 0,iv 0,iv 0,iv 0,iv 0,iv 0,iv 0,iv 0,iv 0,iv 0,iv 0,iv 0,iv 0,iv 0,nilL,nilL,nilL,nilL,nilL,nilL,nilL,nilL,nilL,nilL,.val (.map none)] 0 (pbC P)).length=29:=by simp only[pbX_eq]; rfl
 unfold fillR
 rw[h1]
 simp only[pbX_len]
 rw[if_pos (by decide)]
 unfold fillR
 rw[h2]
 simp only[h3]
 rw[if_pos (by decide)]
 unfold fillR
 rw[soT_new]
theorem newSolverI (hG:P.Good) (hs:s.sto=ρ) (hρ:lowS 1000 ρ) (hE:lowF 1000 s.env) (hO:lowO 1000 s.out)
  (h:K (.ptr 1009 0) ⟨s.env,ρ++[(1007,.map (mapA []) 0),(1009,.var (soC P (lsP P)))],s.out,s.base⟩):CallI Try.prog F_coalition_newSolver [.agg (pbC P)] s K:=by
 obtain ⟨env,σ,out,base⟩:=s
 simp only at hs hE hO h
 subst hs
 have hmz:.map #[] 0=Entry.map (mapA []) 0:=rfl
 refine soundI' 1000 t_coalition_newSolver (by simp) ?_
 simp[c_coalition_newSolver,klk hρ,kpt hρ,kptn hρ,gdel hρ,kno hρ,low_lk hρ,soT_fill (P:=P) (tk:=fun j=>2000+j),geno' hE,gono' hO]
 refine ⟨soT_ref (by decide),?_⟩
 refine awp_forS (stNs P σ (env::out)) (fun _=>True) P.of.length (by simp[stNs,lsK_zero,hmz]; exact St.imp.refl) trivial (fun k hk _=>?_) (fun _=>?_)
 ·have e:(k:Int)<P.of.length:=by omega
  have hk160:=hG.k
  have w1:=wrap_succ (k:=k) (by omega)
  have hgk:P.of[k]?=some P.of[k]:=by simp[hk]
  have hls:=lsK_succ hgk
  obtain ⟨hb,_,_⟩:=sim_ok (off_sim (hG.off _ (List.getElem_mem hk))).1
  obtain ⟨x,hx⟩:∃ x,P.of[k]=x:=⟨_,rfl⟩
  rw[hx] at hls hb
  have h8:=hG.n
  obtain ⟨b,hb1,hb2⟩:∃ b:Nat,x.b=b∧b<8:=⟨x.b.toNat,by omega,by omega⟩
  have hbd:bd x=b:=by unfold bd; omega
  rw[hbd] at hls
  have hb8:(b:Int)<8:=by omega
  have hlen:=lsK_len (P:=P) (k:=k) (j:=b)
  have hupd:updN (fun j=>2000+j) b (2000+b)=fun j=>2000+j:=by
   funext j; unfold updN; split
   ·rename_i h; rw[h]
   ·rfl
  by_cases hz:lsK P k b=[]
  ·have hSd:=kdg (k:=1029) hρ (by omega)
   have hEd:=lowF_dg (k:=1029) (M:=1000) (by omega) hE
   have hOd:=lowO_dg (k:=1029) (M:=1000) (by omega) hO
   have hTd:(soT P (fun j=>2000+j) (lsK P k)).map (dg 1029)=soT P (fun j=>2000+j) (lsK P k):=soT_dg fun j hj=>by omega
   have hput:(soT P (fun j=>2000+j) (lsK P k)).set (20+b) (.list 8 (.own 1029) [oC x])=soT P (updN (fun j=>2000+j) b 1029) (lsK P (k+1)):=by
    have h:=soT_put (P:=P) (tk:=fun j=>2000+j) (ls:=lsK P k) (l:=1029) (t:=1029) (r:=[x]) hb2 (fun j hj _=>by omega)
    rw[hTd] at h
    rw[hls,hz]
    exact h
   simp[-dgE,dgE_varR,dgE_mapR,hSd,hEd,hOd,hTd,c_coalition_newSolver_l0,stNs,e,hk,hx,hb1,hb8,klk hρ,kpt hρ,gdel hρ,kno hρ,geno' hE,gono' hO,soT_gl hb2,lsT,hz,freshP]
   have hsp:splice (soT P (fun j=>2000+j) (lsK P k)) (20+b) [.list 8 (.own 1029) [oC x]]=soT P (updN (fun j=>2000+j) b 1029) (lsK P (k+1)):=by
    rw[spl1 (by simp; omega)]; exact hput
   rw[hsp,w1]
   refine ⟨by omega,soT_ref (by decide),St.imp.trans (St.imp_rn 1029 (2000+b)) ?_⟩
   have hsw:∀ n,n<1029→sw 1029 (2000+b) n=n:=fun n hn=>by unfold sw; rw[if_neg (by omega),if_neg (by omega)]
   have hSr:=krn (k:=1029) (j:=2000+b) hρ (by omega) (by omega)
   have hEr:=lowF_rn (k:=1029) (j:=2000+b) (M:=1000) (by omega) (by omega) hE
   have hOr:=lowO_rn (k:=1029) (j:=2000+b) (M:=1000) (by omega) (by omega) hO
   have hTr:(soT P (updN (fun j=>2000+j) b 1029) (lsK P (k+1))).map (rn 1029 (2000+b))=soT P (fun j=>2000+j) (lsK P (k+1)):=by
    rw[soT_rn (hsw 1007 (by omega))]
    congr 1
    funext j
    by_cases hj:j=b
    ·have hu:updN (fun j=>2000+j) b 1029 j=1029:=by unfold updN; rw[if_pos hj]
     rw[hu,hj]
     unfold sw; rw[if_pos rfl]
    ·have hu:updN (fun j=>2000+j) b 1029 j=2000+j:=by unfold updN; rw[if_neg hj]
     rw[hu]
     unfold sw; rw[if_neg (by omega),if_neg (by omega)]
   simp only[St.rn,List.map_append,List.map_cons,List.map_nil,hSr,hEr,hOr,rnE_varR,rnE_mapR,hTr,hsw 1007 (by omega),hsw 1009 (by omega),rn_ptrR,rn_valR,rn_plainR]
   exact St.imp.refl
  ·have hSd:=kdg (k:=2000+b) hρ (by omega)
   have hEd:=lowF_dg (k:=2000+b) (M:=1000) (by omega) hE
   have hOd:=lowO_dg (k:=2000+b) (M:=1000) (by omega) hO
   have hv:lsT (fun j=>2000+j) (lsK P k) b=.list 8 (.own (2000+b)) (ofR (lsK P k b)):=apc_some (by simpa using hz)
   have hput:((soT P (fun j=>2000+j) (lsK P k)).map (dg (2000+b))).set (20+b) (.list 8 (.own (2000+b)) (ofR (lsK P k b)++[oC x]))=soT P (fun j=>2000+j) (lsK P (k+1)):=by
    have h:=soT_put (P:=P) (tk:=fun j=>2000+j) (ls:=lsK P k) (l:=2000+b) (t:=2000+b) (r:=lsK P k b++[x]) hb2 (fun j hj hn=>by omega)
    rw[hupd] at h
    rw[hls,← h,ofR_app]
    congr 1
    exact (apc_some (by simp)).symm
   have hlk1:∀ l,lk (σ++l) (2000+b)=lk l (2000+b):=fun l=>klk hρ (by omega)
   simp[-dgE,dgE_varR,dgE_mapR,hSd,hEd,hOd,hlk1,c_coalition_newSolver_l0,stNs,e,hk,hx,hb1,hb8,klk hρ,kpt hρ,gdel hρ,kno hρ,geno' hE,gono' hO,soT_gl hb2,hv,freshP]
   have hsp:splice ((soT P (fun j=>2000+j) (lsK P k)).map (dg (2000+b))) (20+b) [.list 8 (.own (2000+b)) (ofR (lsK P k b)++[oC x])]=soT P (fun j=>2000+j) (lsK P (k+1)):=by
    rw[spl1 (by simp; omega)]; exact hput
   rw[hsp,w1]
   exact ⟨by omega,by omega,by rw[if_neg (by omega),if_neg (by omega),if_neg (by omega)],by omega,soT_ref (by decide),St.imp.refl⟩
 ·simp[c_coalition_newSolver_l0,stNs,c_coalition_newSolver_k1,r_coalition_newSolver]
  rw[lsK_all,← soC_T]
  exact h
end
end Go.Proofs.Ytpmaehfiifinhaa

namespace Go.Proofs.Ytpmaehfiifinhaa
open Go Go.Am Go.Pb
theorem ok_newSolver:okFn Try.prog F_coalition_newSolver=true:=by kernel_rfl
def fauE (P:Pb) (m:Int):Int:=if P.chk≠0 then P.chk else if m<0∨2^P.cl.length≤m then 4 else 0
section
variable {P:Pb} {m:Int}
theorem pow_fact:∀ n:Nat,n≤8→IntKind.i64.wrap ((2:Int)^(min n 64))=2^n∧(2:Int)^n≤256∧(1:Int)≤2^n:=by decide +kernel
theorem shl_n {n:Nat}:¬ ((n:Int)<0):=by omega
theorem fault_s (hn:P.cl.length≤1000) (hk:P.of.length≤1000000):SoundCall Try.prog F_coalition_fault [.agg (pbC P),iv m] (iv (fauE P m)):=by
 refine sound' t_coalition_fault (by simp) ?_
 simp[c_coalition_fault]
 refine eCall_i (check_s hn hk) (by simp) (by simp) ?_
 unfold fauE
 by_cases c1:P.chk=0
 ·have hG:=chk_good c1
  obtain ⟨p1,p2,p3⟩:=pow_fact P.cl.length hG.n
  have h64:IntKind.i64.bits=64:=rfl
  by_cases c2:m<0
  ·simp[c1,c2,r_coalition_fault]
  ·by_cases c3:(2:Int)^P.cl.length≤m
   ·simp[c1,c2,c3,eBin_shl shl_n,h64,p1,r_coalition_fault]
   ·simp[c1,c2,c3,eBin_shl shl_n,h64,p1,r_coalition_fault]
 ·simp[c1,r_coalition_fault]
theorem fau_zero (h:fauE P m=0):P.Good∧P.chk=0∧∃ n:Nat,m=n∧n<256∧n<2^P.cl.length:=by
 unfold fauE at h
 split at h
 ·rename_i h1; exact absurd h h1
 ·rename_i h1
  have hG:=chk_good (Decidable.not_not.1 h1)
  split at h
  ·cases h
  ·rename_i h2
   obtain ⟨p1,p2,p3⟩:=pow_fact P.cl.length hG.n
   have e:((2^P.cl.length:Nat):Int)=2^P.cl.length:=by rw[Int.natCast_pow]; rfl
   exact ⟨hG,Decidable.not_not.1 h1,m.toNat,by omega,by omega,by omega⟩
theorem rng_sup (hG:P.Good):rngB P.sup:=fun j hj=>by have:=hG.sup j hj; omega
theorem rng_opn (hG:P.Good):rngB P.opn:=fun j hj=>by
 have:=hG.sup j hj
 have h2:=hG.set j hj
 unfold Pb.okC at h2
 omega
noncomputable abbrev solS (P:Pb) (es:Ents):List (Nat × Entry):=[(1007,.map (mapA es) es.length),(1009,.var (soC P (lsP P)))]
theorem solS_low {es:Ents}:lowS 3000 (solS P es):=lowS_cons.2 ⟨⟨by omega,rfl⟩,lowS_cons.2 ⟨⟨by omega,soC_low⟩,lowS_nil⟩⟩
def worN (P:Pb) (m:Nat):Int:=valN P m P.sup P.opn
def worE (P:Pb) (m:Int):Int:=if fauE P m=0 then worN P m.toNat else 0
theorem worth_s (hn:P.cl.length≤1000) (hk:P.of.length≤1000000):SoundCall Try.prog F_coalition_Worth [.agg (pbC P),iv m] (.tuple [iv (worE P m),iv (fauE P m)]):=by
 refine sound' t_coalition_Worth (by simp) ?_
 simp[c_coalition_Worth]
 refine eCall_i (fault_s (P:=P) (m:=m) hn hk) (by simp) (by simp) ?_
 unfold worE
 by_cases c:fauE P m=0
 ·obtain ⟨hG,_,n,rfl,hn256,_⟩:=fau_zero c
  simp[c,ok_newSolver]
  refine eCallI_of (newSolverI (P:=P) hG rfl ?_ ?_ lowO_nil ?_)
  ·refine lowS_cons.2 ⟨⟨by omega,?_⟩,lowS_nil⟩
   simp only[pbX_eq]; rfl
  ·simp[lowF_cons,lowF_nil,low_iv,low_bv,low_ptr,low_agg]
  have hr2:anyRef 2 (soC P (lsP P))=false:=by rw[soC_T]; exact soT_ref (by decide)
  simp[ok_start,hr2]
  refine eCallI_of (startI (P:=P) (ls:=lsP P) (B:=3000) rfl (solS_low (P:=P) (es:=[])) ?_ lowO_nil rfl ?_)
  ·simp[lowF_cons,lowF_nil,low_iv,low_ptr]
  simp[ok_best]
  refine eCallI_of (bestI hG n hn256 P.sup P.opn _ 3000 [] _ _ rfl (solS_low (P:=P) (es:=[])) ?_ lowO_nil (by omega) rfl rfl good_nil (rng_sup hG) (rng_opn hG) fun es' hes'=>?_)
  ·simp[lowF_cons,lowF_nil,low_iv,low_ptr,low_agg]
  simp[r_coalition_Worth,worN]
 ·simp[c,r_coalition_Worth]
end
end Go.Proofs.Ytpmaehfiifinhaa

namespace Go.Proofs.Ytpmaehfiifinhaa
open Go Go.Am Go.Pb
structure Gst where
 m:Nat
 l:Nat→Int
 o:Nat→Int
 r:Int
 T:List Nat
def gTake (P:Pb) (g:Gst) (x:Of):Prop:=g.m.testBit (bd x)=true∧lfit P g.l g.o x∧x.v+valN P (clrN g.m (bd x)) (subB g.l x.w) (subB g.o (P.out x))=g.r
instance (P:Pb) (g:Gst) (x:Of):Decidable (gTake P g x):=by unfold gTake; exact inferInstance
def gNext (P:Pb) (k:Nat) (x:Of) (g:Gst):Gst:=if gTake P g x then ⟨clrN g.m (bd x),subB g.l x.w,subB g.o (P.out x),g.r-x.v,g.T++[k]⟩ else g
def gRun (P:Pb) (m:Nat):Nat→Gst
 | 0=>⟨m,P.sup,P.opn,worN P m,[]⟩
 | k+1=>match P.of[k]? with
  | some x=>gNext P k x (gRun P m k)
  | none=>gRun P m k
def gOk (_:Pb) (g:Gst):Prop:=g.m<256∧rngB g.l∧rngB g.o∧0≤g.r∧g.r≤8000000
section
variable {P:Pb} {m k:Nat} {x:Of}
theorem gNext_ok {g:Gst} (hG:P.Good) (hx:x∈P.of) (h:gOk P g):gOk P (gNext P k x g):=by
 unfold gNext
 split
 ·rename_i ht
  obtain ⟨h1,h2,h3,h4,h5⟩:=h
  obtain ⟨t1,t2,t3⟩:=ht
  have hs:=sim_ok (off_sim (hG.off x hx)).1
  have hb8:bd x<8:=by have:=hG.n; unfold bd; omega
  have hv:=valN_rng hG (clrN g.m (bd x)) (subB g.l x.w) (subB g.o (P.out x))
  exact ⟨(clr_fact g.m h1 (bd x) hb8).2,sub_rng h2 (lfit_iff.1 t2).1 fun j hj=>(hs.2.2 j hj).1,sub_rng h3 (lfit_iff.1 t2).2 fun j hj=>(out_ok (P:=P) hs.2.2 hj).1,by simp only; omega,by simp only; omega⟩
 ·exact h
theorem gRun_ok (hG:P.Good) (hm:m<256):∀ k,gOk P (gRun P m k)
 | 0=>by
  have hv:=valN_rng hG m P.sup P.opn
  exact ⟨hm,rng_sup hG,rng_opn hG,hv.1,hv.2⟩
 | k+1=>by
  unfold gRun
  cases h:P.of[k]? with
  | none=>exact gRun_ok hG hm k
  | some x=>exact gNext_ok hG (List.mem_of_getElem? h) (gRun_ok hG hm k)
theorem gRun_len:∀ k,(gRun P m k).T.length≤k
 | 0=>Nat.zero_le _
 | k+1=>by
  have ih:=gRun_len k
  unfold gRun
  cases P.of[k]? with
  | none=>simp only; omega
  | some x =>
   simp only[gNext]
   split
   ·simp only[List.length_append,List.length_singleton]; omega
   ·omega
theorem gRun_G (hG:P.Good) (hm:m<256):∀ d k,k+d=P.of.length→(gRun P m P.of.length).T=(gRun P m k).T++P.G (P.of.drop k) k ⟨bitsN (gRun P m k).m,(gRun P m k).l,(gRun P m k).o⟩ (gRun P m k).r
 | 0,k,h=>by
  have:k=P.of.length:=by omega
  subst this
  rw[List.drop_of_length_le (Nat.le_refl _)]
  simp[Pb.G]
 | d+1,k,h=>by
  have hk:k<P.of.length:=by omega
  have ih:=gRun_G hG hm d (k+1) (by omega)
  have hg:P.of[k]?=some P.of[k]:=by simp[hk]
  have hd:P.of.drop k=P.of[k]::P.of.drop (k+1):=List.drop_eq_getElem_cons hk
  obtain ⟨x,hx⟩:∃ x,P.of[k]=x:=⟨_,rfl⟩
  have hxm:x∈P.of:=hx▸List.getElem_mem hk
  have hs:=sim_ok (off_sim (hG.off x hxm)).1
  have hb8:bd x<8:=by have:=hG.n; unfold bd; omega
  rw[hx] at hg hd
  have e:gRun P m (k+1)=gNext P k x (gRun P m k):=by
   conv=>lhs; unfold gRun
   rw[hg]
  obtain ⟨h1,_⟩:=gRun_ok hG hm k
  rw[ih,e,hd]
  generalize gRun P m k=g at *
  rw[Pb.G]
  unfold gNext
  by_cases ht:gTake P g x
  ·have ht':P.ok ⟨bitsN g.m,g.l,g.o⟩ x∧x.v+P.V (P.aft ⟨bitsN g.m,g.l,g.o⟩ x)=g.r:=by
    refine ⟨⟨mem_bits.2 ⟨hb8,ht.1⟩,ht.2.1⟩,?_⟩
    rw[← ht.2.2]
    unfold Pb.V Pb.aft valN
    rw[bits_clr g.m h1 (bd x) hb8]
   rw[if_pos ht,if_pos ht']
   unfold Pb.aft
   simp only
   rw[bits_clr g.m h1 (bd x) hb8,List.append_assoc]
   rfl
  ·have ht':¬ (P.ok ⟨bitsN g.m,g.l,g.o⟩ x∧x.v+P.V (P.aft ⟨bitsN g.m,g.l,g.o⟩ x)=g.r):=by
    rintro ⟨⟨a1,a2⟩,a3⟩
    refine ht ⟨(mem_bits.1 a1).2,a2,?_⟩
    rw[← a3]
    unfold Pb.V Pb.aft valN
    rw[bits_clr g.m h1 (bd x) hb8]
   rw[if_neg ht,if_neg ht']
def chosN (P:Pb) (m:Nat):List Nat:=(gRun P m P.of.length).T
theorem nn_sit (hG:P.Good):Sit.nn ⟨bitsN m,P.sup,P.opn⟩:=fun k hk=>⟨(rng_sup hG k hk).1,(rng_opn hG k hk).1⟩
theorem okL_of (hG:P.Good):okL P.of:=fun x hx=>(sim_ok (off_sim (hG.off x hx)).1).2.2
theorem chos_F (hG:P.Good) (hm:m<256):chosN P m=(P.F P.of 0 ⟨bitsN m,P.sup,P.opn⟩).1:=by
 have h:=gRun_G hG hm P.of.length 0 (by omega)
 have h0:gRun P m 0=⟨m,P.sup,P.opn,worN P m,[]⟩:=rfl
 rw[h0] at h
 simp only[List.drop_zero,List.nil_append] at h
 unfold chosN
 rw[h]
 exact G_eq (okL_of hG) P.of 0 ⟨bitsN m,P.sup,P.opn⟩ rfl (nn_sit hG) bits_nodup (fun _ h1 _ _ x hx=>h1 x hx)
theorem wor_F (hG:P.Good):worN P m=(P.F P.of 0 ⟨bitsN m,P.sup,P.opn⟩).2 :=
 (J_val (okL_of hG) (i:=0) rfl (nn_sit hG) bits_nodup (fun _ h1 _ _ x hx=>h1 x hx)).symm
end
end Go.Proofs.Ytpmaehfiifinhaa

namespace Go.Proofs.Ytpmaehfiifinhaa
open Go Go.Am Go.Pb
noncomputable def stBs (P:Pb) (v:Int) (es:Ents) (g:Gst) (k:Nat):St :=
 {env:=[(4,.ptr 4 0),(7,.ptr 1009 0),(8,.ptr 8 0),(9,.ptr 9 0),(10,iv g.r),(34,ofA P.of),(35,iv P.of.length),(36,iv k)],
  sto:=[(4,.var [nilL,iv 0]),(1007,.map (mapA es) es.length),(1009,.var (soC P (lsP P))),(8,.var (siC g.m g.l g.o)),(9,.var [apc 70 1 (clR (ints g.T)),iv v])]}
def besA (P:Pb) (m:Int):AV:=.tuple [if fauE P m=0 then .agg [clA (ints (chosN P m.toNat)),iv (worN P m.toNat)] else .agg [nilL,iv 0],iv (fauE P m)]
section
variable {P:Pb} {m:Int}
theorem soC_ref {ls:Nat→List Of} {k:Nat} (h:¬ 1007=k):anyRef k (soC P ls)=false:=by rw[soC_T]; exact soT_ref h
theorem cells_aggR {cs:List AV}:cellsOf (.agg cs)=some cs:=rfl
theorem low_nl {M:Nat}:lowE M (.var [nilL,iv 0])=true:=rfl
theorem low_res {M:Nat} {v:Int} {T:List Nat} (h:70<M):lowE M (.var [apc 70 1 (clR (ints T)),iv v])=true:=by
 have hap:=low_apc (M:=M) (tok:=70) (sz:=1) (rows:=clR (ints T)) h
 simp[lowE,hap,low_iv]
theorem low_oC {M:Nat} {x:Of}:lowE M (.var (oC x))=true:=by rw[oC_eq]; rfl
@[simp] theorem ints_len {l:List Nat}:(ints l).length=l.length:=by simp[ints]
@[simp] theorem ints_nil:ints []=[]:=rfl
theorem ints_app {l m:List Nat}:clR (ints (l++m))=clR (ints l)++clR (ints m):=by simp[ints,clR]
theorem best_s (hn:P.cl.length≤1000) (hk:P.of.length≤1000000):SoundCall Try.prog F_coalition_Best [.agg (pbC P),iv m] (besA P m):=by
 refine soundW' t_coalition_Best (by simp) ?_
 unfold besA
 simp[c_coalition_Best]
 refine eCall_i (fault_s (P:=P) (m:=m) hn hk) (by simp) (by simp) ?_
 by_cases c:fauE P m=0
 ·obtain ⟨hG,_,n,rfl,hn256,_⟩:=fau_zero c
  simp[c,ok_newSolver]
  refine eCallI_of (newSolverI (P:=P) hG rfl ?_ ?_ lowO_nil ?_)
  ·refine lowS_cons.2 ⟨⟨by omega,?_⟩,lowS_cons.2 ⟨⟨by omega,low_nl⟩,lowS_nil⟩⟩
   simp only[pbX_eq]; rfl
  ·simp[lowF_cons,lowF_nil,low_iv,low_bv,low_ptr,low_agg]
  simp[ok_start]
  refine eCallI_of (startI (P:=P) (ls:=lsP P) (B:=3000) rfl ?_ ?_ lowO_nil rfl ?_)
  ·refine lowS_cons.2 ⟨⟨by omega,?_⟩,lowS_cons.2 ⟨⟨by omega,low_nl⟩,solS_low (P:=P) (es:=[])⟩⟩
   simp only[pbX_eq]; rfl
  ·simp[lowF_cons,lowF_nil,low_iv,low_ptr]
  simp[ok_best]
  refine eCallI_of (bestI hG n hn256 P.sup P.opn _ 3000 [] _ _ rfl ?_ ?_ lowO_nil (by omega) rfl rfl good_nil (rng_sup hG) (rng_opn hG) fun es0 hes0=>?_)
  ·refine lowS_cons.2 ⟨⟨by omega,?_⟩,lowS_cons.2 ⟨⟨by omega,low_nl⟩,lowS_cons.2 ⟨⟨by omega,rfl⟩,lowS_cons.2 ⟨⟨by omega,soC_low⟩,lowS_cons.2 ⟨⟨by omega,siC_low⟩,lowS_nil⟩⟩⟩⟩⟩
   simp only[pbX_eq]; rfl
  ·simp[lowF_cons,lowF_nil,low_ptr,low_agg]
  have hr2:anyRef 2 (soC P (lsP P))=false:=by rw[soC_T]; exact soT_ref (by decide)
  obtain ⟨v,hv⟩:∃ v,valN P n P.sup P.opn=v:=⟨_,rfl⟩
  simp[rhoM,hr2,hv]
  have hall:∀ k,gOk P (gRun P n k):=gRun_ok hG hn256
  have h64:IntKind.i64.bits=64:=rfl
  rw[awp_loop]
  refine ⟨fun N s=>∃ j es',N=P.of.length-j∧j≤P.of.length∧Good P es'∧s=stBs P v es' (gRun P n j) j,P.of.length,stBs P v es0 (gRun P n 0) 0,St.imp_of (by simp[stBs,gRun,worN,hv]),⟨0,es0,rfl,Nat.zero_le _,hes0,rfl⟩,?_⟩
  rintro N s ⟨j,es',rfl,hj,hes',rfl⟩
  by_cases hjl:j<P.of.length
  ·have e:(j:Int)<P.of.length:=by omega
   have hk160:=hG.k
   have w1:=wrap_succ (k:=j) (by omega)
   have hgx:P.of[j]?=some P.of[j]:=by simp[hjl]
   obtain ⟨x,hx⟩:∃ x,P.of[j]=x:=⟨_,rfl⟩
   rw[hx] at hgx
   have hxm:x∈P.of:=List.mem_of_getElem? hgx
   obtain ⟨x3,x5,x6⟩:=sim_ok (off_sim (hG.off x hxm)).1
   have h8:=hG.n
   have x4:x.b<8:=by omega
   obtain ⟨b,hb1,hb2⟩:∃ b:Nat,x.b=b∧b<8:=⟨x.b.toNat,by omega,by omega⟩
   have hbd:bd x=b:=by unfold bd; omega
   have hb0:¬ (b:Int)<0:=by omega
   have hmin:min b 64=b:=by omega
   have hnx:gRun P n (j+1)=gNext P j x (gRun P n j):=by
    conv=>lhs; unfold gRun
    rw[hgx]
   have hTl:=gRun_len (P:=P) (m:=n) j
   obtain ⟨g1,g2,g3,g4,g5⟩:=hall j
   generalize gRun P n j=g at *
   have hbit:bitI .and .i64 ((g.m:Int).fdiv (2^b)) 1=if g.m.testBit b then 1 else 0:=by
    rw[mb_one (g.m:Int) b (by omega) (by omega) (by omega),mb_nat g.m b (by omega)]
   have hfin:∀ (es2:Ents),Good P es2→∃ N',N'<P.of.length-j∧∃ j' es',N'=P.of.length-j'∧j'≤P.of.length∧Good P es'∧stBs P v es2 (gNext P j x g) (j+1)=stBs P v es' (gRun P n j') j' :=
    fun es2 h2=>⟨P.of.length-(j+1),by omega,j+1,es2,rfl,by omega,h2,by rw[hnx]⟩
   by_cases f1:g.m.testBit b=true
   ·rw[if_pos f1] at hbit
    simp[c_coalition_Best_l0,stBs,e,hjl,hx,hb1,eBin_shr hb0,h64,hmin,hbit,ok_after]
    refine eCallI_of (afterI (P:=P) (ls:=lsP P) (B:=3000) rfl ?_ ?_ lowO_nil rfl (by omega) x3 x4 g1 g2 g3 x6 ?_)
    ·exact lowS_cons.2 ⟨⟨by omega,low_nl⟩,lowS_cons.2 ⟨⟨by omega,rfl⟩,lowS_cons.2 ⟨⟨by omega,soC_low⟩,lowS_cons.2 ⟨⟨by omega,siC_low⟩,lowS_cons.2 ⟨⟨by omega,low_res (by omega)⟩,lowS_cons.2 ⟨⟨by omega,low_oC⟩,lowS_nil⟩⟩⟩⟩⟩⟩
    ·simp[lowF_cons,lowF_nil,low_iv,low_bv,low_ptr,low_agg]
     rfl
    by_cases f2:lfit P g.l g.o x
    ·have hA:aftA P g.m g.l g.o x=.tuple [.agg (siC (clrN g.m b) (subB g.l x.w) (subB g.o (P.out x))),bv true]:=by unfold aftA; rw[if_pos f2,hbd]
     rw[hA]
     have hl':rngB (subB g.l x.w):=sub_rng g2 (lfit_iff.1 f2).1 fun k hk=>(x6 k hk).1
     have ho':rngB (subB g.o (P.out x)):=sub_rng g3 (lfit_iff.1 f2).2 fun k hk=>(out_ok (P:=P) x6 hk).1
     have hc2:=(clr_fact g.m g1 b hb2).2
     simp[ok_best,freshP]
     refine ⟨by simp[freshP],fun D=>bestI hG (clrN g.m b) hc2 _ _ _ 3000 es' _ _ rfl ?_ ?_ lowO_nil (by omega) rfl rfl hes' hl' ho' fun es2 hes2=>?_⟩
     ·exact lowS_cons.2 ⟨⟨by omega,low_nl⟩,lowS_cons.2 ⟨⟨by omega,rfl⟩,lowS_cons.2 ⟨⟨by omega,soC_low⟩,lowS_cons.2 ⟨⟨by omega,siC_low⟩,lowS_cons.2 ⟨⟨by omega,low_res (by omega)⟩,lowS_cons.2 ⟨⟨by omega,low_oC⟩,lowS_cons.2 ⟨⟨by omega,siC_low⟩,lowS_nil⟩⟩⟩⟩⟩⟩⟩
     ·refine lowF_del ?_
      simp[lowF_cons,lowF_nil,low_iv,low_bv,low_ptr,low_agg]
      rfl
     ·refine ⟨⟨_,rhoM [(4,.var [nilL,iv 0]),(1007,.map (mapA es') es'.length),(1009,.var (soC P (lsP P))),(8,.var (siC g.m g.l g.o)),(9,.var [apc 70 1 (clR (ints g.T)),iv v]),(12,.var (oC x)),(13,.var (siC (clrN g.m b) (subB g.l x.w) (subB g.o (P.out x))))] es2,[],0⟩,rfl,rfl,by simp[freshP,rhoM],?_⟩
      have hvr:=valN_rng hG (clrN g.m b) (subB g.l x.w) (subB g.o (P.out x))
      obtain ⟨u,hu⟩:∃ u,valN P (clrN g.m b) (subB g.l x.w) (subB g.o (P.out x))=u:=⟨_,rfl⟩
      rw[hu] at hvr ⊢
      have w3:IntKind.i64.wrap (x.v+u)=x.v+u:=by rw[wrap64]<;>omega
      by_cases f3:x.v+u=g.r
      ·have ht:gTake P g x:=⟨by rw[hbd]; exact f1,f2,by rw[hbd,hu]; exact f3⟩
       have hgn:gNext P j x g=⟨clrN g.m b,subB g.l x.w,subB g.o (P.out x),g.r-x.v,g.T++[j]⟩:=by unfold gNext; rw[if_pos ht,hbd]
       have w4:IntKind.i64.wrap (g.r-x.v)=g.r-x.v:=by rw[wrap64]<;>omega
       have w3':IntKind.i64.wrap (x.v+u)=g.r:=by rw[w3,f3]
       simp[rhoM,w3']
       refine apc_add (by decide) rfl ?_ ?_ (by simp) ?_
       ·simp only[clR_len,ints_len]; omega
       ·simp only[clR_len,ints_len]; omega
       ·have hro:clR (ints g.T)++[[iv j]]=clR (ints (g.T++[j])):=by rw[ints_app]; rfl
        rw[hro]
        have hdg:(soC P (lsP P)).map (dg 70)=soC P (lsP P):=by rw[soC_T]; exact soT_dg fun j hj=>by omega
        simp[-cellsOf,cells_aggR,freshP,w1,w4,hdg]
        exact ⟨⟨soC_ref (by decide),soC_ref (by decide)⟩,P.of.length-(j+1),by omega,_,St.imp.refl,j+1,rfl,by omega,es2,hes2,by rw[hnx,hgn]; rfl⟩
      ·have ht:¬ gTake P g x:=fun h=>f3 (by have:=h.2.2; rw[hbd,hu] at this; exact this)
       have hgn:gNext P j x g=g:=by unfold gNext; rw[if_neg ht]
       rw[hgn] at hfin
       simp[rhoM,w3,f3,w1]
       exact ⟨⟨soC_ref (by decide),soC_ref (by decide)⟩,P.of.length-(j+1),by omega,_,St.imp.refl,j+1,rfl,by omega,es2,hes2,by rw[hnx,hgn]; rfl⟩
    ·have hA:aftA P g.m g.l g.o x=.tuple [.agg (siC 0 (fun _=>0) (fun _=>0)),bv false]:=by unfold aftA; rw[if_neg f2]
     have ht:¬ gTake P g x:=fun h=>f2 h.2.1
     have hgn:gNext P j x g=g:=by unfold gNext; rw[if_neg ht]
     rw[hgn] at hfin
     rw[hA]
     simp[freshP,w1]
     exact ⟨⟨soC_ref (by decide),soC_ref (by decide)⟩,P.of.length-(j+1),by omega,_,St.imp.refl,j+1,rfl,by omega,es',hes',by rw[hnx,hgn]; rfl⟩
   ·rw[if_neg f1] at hbit
    have ht:¬ gTake P g x:=fun h=>f1 (by have:=h.1; rw[hbd] at this; exact this)
    have hgn:gNext P j x g=g:=by unfold gNext; rw[if_neg ht]
    rw[hgn] at hfin
    simp[c_coalition_Best_l0,stBs,e,hjl,hx,hb1,eBin_shr hb0,h64,hmin,hbit,w1]
    exact ⟨⟨soC_ref (by decide),soC_ref (by decide)⟩,P.of.length-(j+1),by omega,_,St.imp.refl,j+1,rfl,by omega,es',hes',by rw[hnx,hgn]; rfl⟩
  ·have hje:j=P.of.length:=by omega
   subst hje
   simp[c_coalition_Best_l0,stBs,c_coalition_Best_k1,r_coalition_Best]
   refine ⟨⟨soC_ref (by decide),soC_ref (by decide)⟩,?_⟩
   have hw:worN P n=v:=hv
   rw[hw]
   exact imp_tup (imps_cons (imp_agg (imps_cons (plc_imp impr_refl) imps_refl)) imps_refl)
 ·simp[c,r_coalition_Best]
  exact AV.imp.refl
end
end Go.Proofs.Ytpmaehfiifinhaa

namespace Go.Proofs.Ytpmaehfiifinhaa
open Go Go.Am Go.Pb
def stVd (w:Nat→Int) (k:Nat):St:={env:=[(1,.ptr 1 0),(3,iv k)],sto:=[(1,.var (bC w))]}
theorem rvalid_s {w:Nat→Int}:SoundCall Try.prog F_ref08_Valid [.agg (bC w)] (bv (decide (okB w))):=by
 refine sound' t_ref08_Valid (by simp) ?_
 simp[c_ref08_Valid]
 refine awp_forW (stVd w) (fun i=>∀ j,j<i→0≤w j∧w j≤4) 6 (by simp[stVd]) (fun j hj=>by omega) (fun i hi hI=>?_) (fun hI=>?_)
 ·have e:(i:Int)<6:=by omega
  have w1:=wrap_succ (k:=i) (by omega)
  by_cases c1:w i<0
  ·have hf:¬ okB w:=fun h=>by have:=h i hi; omega
   simp[c_ref08_Valid_l0,stVd,e,goLoad_bk hi,c1,hf,r_ref08_Valid]
  ·by_cases c2:4<w i
   ·have hf:¬ okB w:=fun h=>by have:=h i hi; omega
    simp[c_ref08_Valid_l0,stVd,e,goLoad_bk hi,c1,c2,hf,r_ref08_Valid]
   ·simp[c_ref08_Valid_l0,stVd,e,goLoad_bk hi,c1,c2,w1]
    exact fun j hj=>by
     by_cases e:j=i
     ·subst e; omega
     ·exact hI j (by omega)
 ·have hf:okB w:=hI
  simp[c_ref08_Valid_l0,stVd,hf,c_ref08_Valid_k1,r_ref08_Valid]
section
variable {P:Pb} {r n:Nat} {o:Of}
theorem rcoef_s (hn:P.cl.length≤1000) (hb:0≤o.b) (hr:r<P.rows):∃ c,(o.b<P.cl.length→c=P.coef r o)∧SoundCall Try.prog F_ref20_coef [.agg (pbC P),iv r,.agg (oC o)] (.tuple [iv c,iv (P.bnd r)]):=by
 unfold Pb.rows at hr
 unfold Pb.coef Pb.bnd
 obtain ⟨n,hn'⟩:∃ n,P.cl.length=n:=⟨_,rfl⟩
 rw[hn'] at hr hn ⊢
 by_cases h1:r<n
 ·refine ⟨if o.b=r then 1 else 0,fun _=>by rw[if_pos h1],?_⟩
  refine sound' t_ref20_coef (by simp) ?_
  rw[if_pos h1]
  by_cases h2:o.b=r
  ·rw[if_pos h2]
   simp[c_ref20_coef,hn',h1,h2,r_ref20_coef]
  ·rw[if_neg h2]
   simp[c_ref20_coef,hn',h1,h2,r_ref20_coef]
 ·have w0:IntKind.i64.wrap ((n:Int)+6)=(n:Int)+6:=by rw[wrap64]<;>omega
  obtain ⟨k,hk⟩:∃ k,r=n+k:=⟨r-n,by omega⟩
  have e0:(r:Int)-n=k:=by omega
  have e2:r-n=k:=by omega
  have w1:IntKind.i64.wrap (k:Int)=k:=by rw[wrap64]<;>omega
  rw[if_neg h1,if_neg h1,e2]
  have c1:¬ (r:Int)<n:=by omega
  by_cases h2:k<6
  ·have c2:(r:Int)<(n:Int)+6:=by omega
   have h2':(k:Int)<6:=by omega
   refine ⟨o.w k,fun _=>by rw[if_pos (by omega)],?_⟩
   rw[if_pos (by omega)]
   refine sound' t_ref20_coef (by simp) ?_
   simp[c_ref20_coef,hn',w0,c1,c2,e0,w1,h2',goLoad_oCk h2,goLoad_supk h2,r_ref20_coef]
  ·obtain ⟨j,hj0⟩:∃ j,k=6+j:=⟨k-6,by omega⟩
   have hj:j<6:=by omega
   have hj':(j:Int)<6:=by omega
   have c2:¬ (r:Int)<(n:Int)+6:=by omega
   have e3:(k:Int)-6=j:=by omega
   have w2:IntKind.i64.wrap (j:Int)=j:=by rw[wrap64]<;>omega
   have hr6:¬ r<n+6:=by omega
   rw[if_neg hr6,if_neg hr6,show k-6=j by omega]
   by_cases h3:P.cls j=0
   ·refine ⟨0,fun _=>by rw[if_pos (.inl h3)],?_⟩
    refine sound' t_ref20_coef (by simp) ?_
    simp[c_ref20_coef,hn',w0,c1,c2,e0,w1,e3,w2,hj',goLoad_clsk hj,goLoad_opnk hj,h3,r_ref20_coef]
   ·by_cases h5:o.b<n
    ·obtain ⟨b,hb1,hb2,hb3⟩:=clOf_get (P:=P) (o:=o) (by rw[hn']; exact ⟨hb,h5⟩)
     have hbn:(b:Int)<n:=by omega
     have hbn':b<n:=by omega
     have hc:P.cl[b]?=some (P.clOf (b:Int)):=by rw[← hb1]; exact hb3
     have hE:P.cl[b]=P.clOf (b:Int):=by rw[List.getElem?_eq_getElem hb2] at hc; exact Option.some.inj hc
     rw[hb1]
     by_cases h4:P.cls j=P.clOf (b:Int)
     ·refine ⟨0,fun _=>by rw[if_pos (.inr h4)],?_⟩
      rw[h4] at h3
      refine sound' t_ref20_coef (by simp) ?_
      simp[c_ref20_coef,hn',w0,c1,c2,e0,w1,e3,w2,hj',goLoad_clsk hj,goLoad_opnk hj,h3,hb1,hbn,hbn',hE,h4,r_ref20_coef]
     ·refine ⟨o.w j,fun _=>by rw[if_neg (fun h=>h.elim h3 h4)],?_⟩
      refine sound' t_ref20_coef (by simp) ?_
      simp[c_ref20_coef,hn',w0,c1,c2,e0,w1,e3,w2,hj',goLoad_clsk hj,goLoad_opnk hj,goLoad_oCk hj,h3,hb1,hbn,hbn',hE,h4,r_ref20_coef]
    ·refine ⟨0,fun h=>absurd h h5,?_⟩
     refine sound' t_ref20_coef (by simp) ?_
     simp[c_ref20_coef,hn',w0,c1,c2,e0,w1,e3,w2,hj',goLoad_clsk hj,goLoad_opnk hj,h3,h5,r_ref20_coef]
end
end Go.Proofs.Ytpmaehfiifinhaa

namespace Go.Proofs.Ytpmaehfiifinhaa
open Go Go.Am Go.Pb
def oZ:Of:=⟨0,fun _=>0,0⟩
theorem oC_zero:[iv 0,iv 0,iv 0,iv 0,iv 0,iv 0,iv 0,iv 0]=oC oZ:=by rw[oC_eq]; rfl
def stRf (P:Pb) (L:List Of) (r:Nat):St:={env:=[(1,ofA L),(2,.ptr 2 0),(5,iv r)],sto:=[(2,.var (pbC P))]}
def stRi (P:Pb) (L:List Of) (r k:Nat):St:={env:=[(1,ofA L),(2,.ptr 2 0),(5,iv r),(6,iv (preS (P.coef r) L k)),(7,iv k)],sto:=[(2,.var (pbC P))]}
section
variable {P:Pb} {r n:Nat} {o:Of} {L:List Of}
theorem rfits_s (hn:P.cl.length≤1000) (hL:L.length≤1000) (hb:∀ o∈L,0≤o.b∧o.b<P.cl.length) (hw:∀ o∈L,okB o.w):SoundCall Try.prog F_ref20_fits [.agg (pbC P),ofA L] (bv (decide (P.fits L))):=by
 have hR:P.rows≤1012:=by unfold Pb.rows; omega
 have hRi:((P.rows:Nat):Int)=(P.cl.length:Int)+12:=by unfold Pb.rows; omega
 have w0:IntKind.i64.wrap ((P.cl.length:Int)+12)=(P.cl.length:Int)+12:=by rw[wrap64]<;>omega
 refine sound' t_ref20_fits (by simp) ?_
 simp[c_ref20_fits]
 refine awp_forW (stRf P L) (fun r=>∀ q,q<r→(L.map (P.coef q)).sum≤P.bnd q) P.rows (by simp[stRf]) (fun q hq=>by omega) (fun r hr hI=>?_) (fun hI=>?_)
 ·have e:(r:Int)<(P.cl.length:Int)+12:=by omega
  have w1:=wrap_succ (k:=r) (by omega)
  simp[c_ref20_fits_l3,stRf,e,w0]
  refine awp_forW (stRi P L r) (fun _=>True) L.length (by simp[stRi,preS_zero]) trivial (fun k hk _=>?_) (fun _=>?_)
  ·have e':(k:Int)<L.length:=by omega
   have hg:L[k]?=some L[k]:=by simp[hk]
   have hm:L[k]∈L:=List.getElem_mem hk
   have w2:=wrap_succ (k:=k) (by omega)
   obtain ⟨p1,p2⟩:=preS_bound (f:=P.coef r) (fun o ho=>coef_ok (P:=P) (hw o ho) hr) k (by omega)
   obtain ⟨p3,p4⟩:=coef_ok (P:=P) (hw _ hm) hr
   have w3:IntKind.i64.wrap (preS (P.coef r) L k+P.coef r L[k])=preS (P.coef r) L k+P.coef r L[k]:=by rw[wrap64]<;>omega
   have hs:=preS_succ (f:=P.coef r) hg
   obtain ⟨c,hc,hk'⟩:=rcoef_s (P:=P) (o:=L[k]) hn (hb _ hm).1 hr
   have hc:=hc (hb _ hm).2
   subst hc
   simp[c_ref20_fits_l0,stRi,e',hk]
   refine eCall_i hk' (by simp) (by simp) ?_
   simp[w2,w3,hs,stRi]
  ·have hall:preS (P.coef r) L L.length=(L.map (P.coef r)).sum:=preS_all
   obtain ⟨z,hz,hz0⟩:∃ z:Of,[iv 0,iv 0,iv 0,iv 0,iv 0,iv 0,iv 0,iv 0]=oC z∧0≤z.b:=⟨oZ,oC_zero,Int.le_refl 0⟩
   obtain ⟨c,_,hk'⟩:=rcoef_s (P:=P) (o:=z) hn hz0 hr
   have key:∀ K:Exit→St→Prop,K (.exit 2) {env:=[(1,ofA L),(2,.ptr 2 0),(5,iv r),(6,iv (preS (P.coef r) L L.length)),(7,iv L.length),(23,bv false)],sto:=[(2,.var (pbC P))]}→awp Try.prog c_ref20_fits_l0 (stRi P L r L.length) (lastC K):=by
    intro K h
    simp[c_ref20_fits_l0,stRi]
    exact h
   refine key _ ?_
   simp[c_ref20_fits_k1,hz]
   refine eCall_i hk' (by simp) (by simp) ?_
   by_cases hc:P.bnd r<(L.map (P.coef r)).sum
   ·have hf:¬ P.fits L:=fun h=>by have:=h r hr; omega
    simp[hall,hc,hf,r_ref20_fits]
   ·simp[hall,hc,c_ref20_fits_k2,w1,stRf]
    exact fun q hq=>by
     by_cases eq:q=r
     ·subst eq; omega
     ·exact hI q (by omega)
 ·have hf:P.fits L:=hI
  have e:¬ ((P.rows:Nat):Int)<(P.cl.length:Int)+12:=by omega
  simp[c_ref20_fits_l3,stRf,w0,e,hf,c_ref20_fits_k4,r_ref20_fits]
end
end Go.Proofs.Ytpmaehfiifinhaa

namespace Go.Proofs.Ytpmaehfiifinhaa
open Go Go.Am Go.Pb
@[simp] theorem goLoad_oCt {u:Of}:goLoad (oC u).tail 0 (some 6)=some (.agg (bC u.w)):=by rw[oC_eq,bC_eq]; rfl
section
variable {P:Pb} {r n:Nat} {o:Of} {L:List Of}
def stRc0 (P:Pb) (k:Nat):St:={env:=[(1,.ptr 1 0),(3,iv k)],sto:=[(1,.var (pbC P))]}
def stRc1 (P:Pb) (k:Nat):St:={env:=[(1,.ptr 1 0),(4,iv k)],sto:=[(1,.var (pbC P))]}
def stRc2 (P:Pb) (k:Nat):St:={env:=[(1,.ptr 1 0),(5,iv k)],sto:=[(1,.var (pbC P))]}
def stRc3 (P:Pb) (o:Of) (k j:Nat):St:={env:=[(1,.ptr 1 0),(5,iv k),(6,.ptr 6 0),(7,iv j)],sto:=[(1,.var (pbC P)),(6,.var (oC o))]}
theorem offI_of {i:Nat} (h:P.offE o≠0):P.offI i o=P.offE o:=by unfold Pb.offI; rw[if_pos h]
theorem offE_b (h:o.b<0∨(P.cl.length:Int)≤o.b):P.offE o=6:=by
 have:fldE P.cl.length o=6:=by unfold fldE; rw[if_pos h]
 unfold Pb.offE; rw[this]; rfl
theorem offE_v (hb:¬ (o.b<0∨(P.cl.length:Int)≤o.b)) (h:o.v<1∨1000000<o.v):P.offE o=4:=by
 have:fldE P.cl.length o=4:=by unfold fldE; rw[if_neg hb,if_pos h]
 unfold Pb.offE; rw[this]; rfl
theorem offE_w (hb:¬ (o.b<0∨(P.cl.length:Int)≤o.b)) (hv:¬ (o.v<1∨1000000<o.v)) (h:¬ okB o.w):P.offE o=4:=by
 have:fldE P.cl.length o=4:=by unfold fldE; rw[if_neg hb,if_neg hv,if_neg h]
 unfold Pb.offE; rw[this]; rfl
theorem fldE_0 (hb:¬ (o.b<0∨(n:Int)≤o.b)) (hv:¬ (o.v<1∨1000000<o.v)) (h:okB o.w):fldE n o=0:=by unfold fldE; rw[if_neg hb,if_neg hv,if_pos h]
theorem offE_z (hf:fldE P.cl.length o=0) (h:zeroB o.w):P.offE o=4:=by unfold Pb.offE; rw[if_neg (fun h=>h hf),if_pos h]
theorem offE_f (hf:fldE P.cl.length o=0) (hz:¬ zeroB o.w):P.offE o=if P.fits [o] then 0 else 14:=by unfold Pb.offE; rw[if_neg (fun h=>h hf),if_neg hz]
theorem rcheck_s (hn:P.cl.length≤1000) (hk:P.of.length≤1000000):SoundCall Try.prog F_ref20_Check [.agg (pbC P)] (iv P.chk):=by
 have hkd:kds Try.prog Op.maxDepth T_api_Bundle=some (List.replicate 6 (.i .i64)):=by kernel_rfl
 have hg:Try.prog.eqGuardType Try.prog.depth T_api_Bundle=false:=by kernel_rfl
 have hA:agT Try.prog T_api_Bundle=true:=by kernel_rfl
 refine sound' t_ref20_Check (by simp) ?_
 simp[c_ref20_Check]
 refine eCall_i (rvalid_s (w:=P.sup)) (by simp) (by simp) ?_
 unfold Pb.chk
 by_cases c1:okB P.sup
 ·simp[c1]
  refine awp_forW (stRc0 P) (fun r=>∀ q,q<r→P.okC q) 6 (by simp[stRc0]) (fun q hq=>by omega) (fun k hk hI=>?_) (fun hI=>?_)
  ·have e:(k:Int)<6:=by omega
   have w1:=wrap_succ (k:=k) (by omega)
   by_cases d:P.okC k
   ·have d':=d
    unfold Pb.okC at d'
    obtain ⟨d1,d2,d3,d4,d5⟩:=d'
    have b1:¬ P.cls k<0:=by omega
    have b2:¬ 4<P.cls k:=by omega
    have b3:¬ P.opn k<0:=by omega
    have b4:¬ P.sup k<P.opn k:=by omega
    have hx:∀ q,q<k+1→P.okC q:=fun q hq=>by
     by_cases eq:q=k
     ·subst eq; exact d
     ·exact hI q (by omega)
    by_cases b5:P.cls k=0
    ·have b6:=d5 b5
     rw[b5] at b1 b2
     rw[b6] at b3 b4
     simp[c_ref20_Check_l0,stRc0,e,goLoad_opnk hk,goLoad_clsk hk,goLoad_supk hk,b3,b5,b6,w1]
     exact hx
    ·simp[c_ref20_Check_l0,stRc0,e,goLoad_opnk hk,goLoad_clsk hk,goLoad_supk hk,b1,b2,b3,b4,b5,w1]
     exact hx
   ·have hF:P.frameE=4:=by unfold Pb.frameE; rw[if_neg (fun h=>h c1),if_pos (show ¬ P.okCs from fun h=>d (h k hk))]
    rw[hF]
    by_cases b1:P.cls k<0
    ·simp[c_ref20_Check_l0,stRc0,e,goLoad_clsk hk,b1,r_ref20_Check]
    ·by_cases b2:4<P.cls k
     ·simp[c_ref20_Check_l0,stRc0,e,goLoad_clsk hk,b1,b2,r_ref20_Check]
     ·by_cases b3:P.opn k<0
      ·simp[c_ref20_Check_l0,stRc0,e,goLoad_opnk hk,goLoad_clsk hk,b1,b2,b3,r_ref20_Check]
      ·by_cases b4:P.sup k<P.opn k
       ·simp[c_ref20_Check_l0,stRc0,e,goLoad_opnk hk,goLoad_clsk hk,goLoad_supk hk,b1,b2,b3,b4,r_ref20_Check]
       ·have b5:P.cls k=0∧¬ P.opn k=P.sup k:=by
         unfold Pb.okC at d
         by_cases b5:P.cls k=0
         ·exact ⟨b5,fun h=>d ⟨by omega,by omega,by omega,by omega,fun _=>h⟩⟩
         ·exact absurd (⟨by omega,by omega,by omega,by omega,fun h=>absurd h b5⟩) d
        simp[c_ref20_Check_l0,stRc0,e,goLoad_opnk hk,goLoad_clsk hk,goLoad_supk hk,b3,b4,b5,r_ref20_Check]
  ·have hs:P.okCs:=hI
   have key:∀ K:Exit→St→Prop,K (.exit 0) {env:=[(1,.ptr 1 0),(3,iv (6:Nat)),(13,bv false)],sto:=[(1,.var (pbC P))]}→awp Try.prog c_ref20_Check_l0 (stRc0 P 6) (lastC K):=by
    intro K h
    simp[c_ref20_Check_l0,stRc0]
    exact h
   refine key _ ?_
   by_cases f1:8<P.cl.length
   ·have f1':(8:Int)<P.cl.length:=by omega
    have hF:P.frameE=3:=by unfold Pb.frameE; rw[if_neg (fun h=>h c1),if_neg (fun h=>h hs),if_pos (.inl f1)]
    simp[c_ref20_Check_k7,f1',hF,r_ref20_Check]
   ·have f1':¬ (8:Int)<P.cl.length:=by omega
    by_cases f2:160<P.of.length
    ·have f2':(160:Int)<P.of.length:=by omega
     have hF:P.frameE=3:=by unfold Pb.frameE; rw[if_neg (fun h=>h c1),if_neg (fun h=>h hs),if_pos (.inr f2)]
     simp[c_ref20_Check_k7,f1',f2',hF,r_ref20_Check]
    ·have f2':¬ (160:Int)<P.of.length:=by omega
     simp[c_ref20_Check_k7,f1',f2']
     refine awp_forW (stRc1 P) (fun r=>∀ q,q<r→(hq:q<P.cl.length)→okCl P.cl[q]) P.cl.length (by simp[stRc1]) (fun q hq=>by omega) (fun k hk hI=>?_) (fun hI=>?_)
     ·have e:(k:Int)<P.cl.length:=by omega
      have w1:=wrap_succ (k:=k) (by omega)
      by_cases d:okCl P.cl[k]
      ·have d':=d
       unfold okCl at d'
       have b1:¬ P.cl[k]<0:=by omega
       have b2:¬ 4<P.cl[k]:=by omega
       simp[c_ref20_Check_l1,stRc1,e,hk,b1,b2,w1]
       exact fun q hq hl=>by
        by_cases eq:q=k
        ·subst eq; exact d
        ·exact hI q (by omega) hl
      ·have hF:P.frameE=4:=by unfold Pb.frameE; rw[if_neg (fun h=>h c1),if_neg (fun h=>h hs),if_neg (by omega),if_neg (fun h=>d (h _ (List.getElem_mem hk)))]
       rw[hF]
       unfold okCl at d
       by_cases b1:P.cl[k]<0
       ·simp[c_ref20_Check_l1,stRc1,e,hk,b1,r_ref20_Check]
       ·have b2:4<P.cl[k]:=by omega
        simp[c_ref20_Check_l1,stRc1,e,hk,b1,b2,r_ref20_Check]
     ·have hc:=frC P fun i hi=>hI i hi hi
      have hF:P.frameE=0:=by unfold Pb.frameE; rw[if_neg (fun h=>h c1),if_neg (fun h=>h hs),if_neg (by omega),if_pos hc]
      rw[if_pos hF]
      have key:∀ K:Exit→St→Prop,K (.exit 2) {env:=[(1,.ptr 1 0),(4,iv P.cl.length),(78,bv false)],sto:=[(1,.var (pbC P))]}→awp Try.prog c_ref20_Check_l1 (stRc1 P P.cl.length) (lastC K):=by
       intro K h
       simp[c_ref20_Check_l1,stRc1]
       exact h
      refine key _ ?_
      simp[c_ref20_Check_k6]
      refine awp_forW (stRc2 P) (fun k=>P.chkL k=0) P.of.length (by simp[stRc2]) rfl (fun k hk' hI=>?_) (fun hI=>?_)
      ·have e:(k:Int)<P.of.length:=by omega
       have hgk:P.of[k]?=some P.of[k]:=by simp[hk']
       have w1:=wrap_succ (k:=k) (by omega)
       obtain ⟨o,ho⟩:∃ o,P.of[k]=o:=⟨_,rfl⟩
       rw[ho] at hgk
       have fin:P.offE o≠0→P.chkL P.of.length=P.offE o:=fun h=>by
        rw[chkL_first hI hgk (by rw[offI_of h]; exact h) hk',offI_of h]
       by_cases b1:o.b<0
       ·rw[fin (by rw[offE_b (.inl b1)]; decide),offE_b (.inl b1)]
        simp[c_ref20_Check_l4,stRc2,e,hk',ho,b1,r_ref20_Check]
       ·by_cases b2:(P.cl.length:Int)≤o.b
        ·rw[fin (by rw[offE_b (.inr b2)]; decide),offE_b (.inr b2)]
         simp[c_ref20_Check_l4,stRc2,e,hk',ho,b1,b2,r_ref20_Check]
        ·have hb:¬ (o.b<0∨(P.cl.length:Int)≤o.b):=by omega
         by_cases b3:o.v<1
         ·rw[fin (by rw[offE_v hb (.inl b3)]; decide),offE_v hb (.inl b3)]
          simp[c_ref20_Check_l4,stRc2,e,hk',ho,b1,b2,b3,r_ref20_Check]
         ·by_cases b4:1000000<o.v
          ·rw[fin (by rw[offE_v hb (.inr b4)]; decide),offE_v hb (.inr b4)]
           simp[c_ref20_Check_l4,stRc2,e,hk',ho,b1,b2,b3,b4,r_ref20_Check]
          ·have hv:¬ (o.v<1∨1000000<o.v):=by omega
           simp[c_ref20_Check_l4,stRc2,e,hk',ho,b1,b2,b3,b4]
           refine eCall_i (rvalid_s (w:=o.w)) (by simp) (by simp) ?_
           by_cases b5:okB o.w
           ·have hf:=fldE_0 (n:=P.cl.length) hb hv b5
            have hz:decide (bI o.w=bI (fun _=>0))=decide (zeroB o.w):=by
             rw[decide_eq_decide,bI_eq]
             exact Iff.rfl
            simp[b5,bC_zero]
            rw[eBin_eql_ints hkd hg hA isInts_bC isInts_bC]
            by_cases b6:zeroB o.w
            ·rw[fin (by rw[offE_z hf b6]; decide),offE_z hf b6]
             simp[hz,b6,r_ref20_Check]
            ·simp[hz,b6]
             have hfs:=rfits_s (P:=P) (L:=[o]) hn (by simp) (fun x hx=>by rw[List.mem_singleton.1 hx]; omega) (fun x hx=>by rw[List.mem_singleton.1 hx]; exact b5)
             refine eCall_i (imp_q2 hfs (imp_full (rows:=[oC o]))) (by simp) (by simp) ?_
             by_cases b7:P.fits [o]
             ·have hE:P.offE o=0:=by rw[offE_f hf b6,if_pos b7]
              simp[b7]
              refine awp_forW (stRc3 P o k) (fun j=>∀ (q:Nat) u,q<j→P.of[q]?=some u→¬ sameO u o) k (by simp[stRc3]) (fun q u hq=>by omega) (fun j hj hJ=>?_) (fun hJ=>?_)
              ·have ej:(j:Int)<k:=by omega
               have hj2:j<P.of.length:=by omega
               have ej2:(j:Int)<P.of.length:=by omega
               have w2:=wrap_succ (k:=j) (by omega)
               obtain ⟨u,hu⟩:∃ u,P.of[j]=u:=⟨_,rfl⟩
               have hgj:P.of[j]?=some u:=by simp[hj2,hu]
               have hzu:decide (bI u.w=bI o.w)=decide (eqB u.w o.w):=by rw[decide_eq_decide,bI_eq]
               by_cases d1:u.b=o.b
               ·simp[c_ref20_Check_l2,stRc3,ej,ej2,hj2,hu,d1]
                rw[eBin_eql_ints hkd hg hA isInts_bC isInts_bC]
                by_cases d2:eqB u.w o.w
                ·have hi:P.offI k o=7:=by
                  unfold Pb.offI
                  rw[if_neg (fun h=>h hE),if_pos ⟨u,List.mem_of_getElem? (i:=j) (by rw[List.getElem?_take,if_pos hj]; exact hgj),d1,d2⟩]
                 rw[chkL_first hI hgk (by rw[hi]; decide) hk',hi]
                 simp[hzu,d2,r_ref20_Check]
                ·simp[hzu,d2,w2,stRc3]
                 intro q x hq hx
                 by_cases eq:q=j
                 ·subst eq
                  rw[hgj] at hx
                  rw[← Option.some.inj hx]
                  exact fun h=>d2 h.2
                 ·exact hJ q x (by omega) hx
               ·simp[c_ref20_Check_l2,stRc3,ej,ej2,hj2,hu,d1,w2]
                intro q x hq hx
                by_cases eq:q=j
                ·subst eq
                 rw[hgj] at hx
                 rw[← Option.some.inj hx]
                 exact fun h=>d1 h.1
                ·exact hJ q x (by omega) hx
              ·have hi:P.offI k o=0:=by
                unfold Pb.offI
                rw[if_neg (fun h=>h hE),if_neg]
                rintro ⟨u,hu,hs'⟩
                obtain ⟨q,hq⟩:=List.mem_iff_getElem?.1 hu
                rw[List.getElem?_take] at hq
                split at hq
                ·rename_i hqk; exact hJ q u hqk hq hs'
                ·cases hq
               have hx:=chkL_next hI hgk hi
               have key:∀ K:Exit→St→Prop,K (.exit 6) {env:=[(1,.ptr 1 0),(5,iv k),(6,.ptr 6 0),(7,iv k),(145,bv false)],sto:=[(1,.var (pbC P)),(6,.var (oC o))]}→awp Try.prog c_ref20_Check_l2 (stRc3 P o k k) (lastC K):=by
                intro K h
                simp[c_ref20_Check_l2,stRc3]
                exact h
               refine key _ ?_
               simp[c_ref20_Check_k3,w1,hx,stRc2]
             ·have hE:P.offE o=14:=by rw[offE_f hf b6,if_neg b7]
              rw[fin (by rw[hE]; decide),hE]
              simp[b7,r_ref20_Check]
           ·rw[fin (by rw[offE_w hb hv b5]; decide),offE_w hb hv b5]
            simp[b5,r_ref20_Check]
      ·rw[hI]
       have key:∀ K:Exit→St→Prop,K (.exit 4) {env:=[(1,.ptr 1 0),(5,iv P.of.length),(99,bv false)],sto:=[(1,.var (pbC P))]}→awp Try.prog c_ref20_Check_l4 (stRc2 P P.of.length) (lastC K):=by
        intro K h
        simp[c_ref20_Check_l4,stRc2]
        exact h
       refine key _ ?_
       simp[c_ref20_Check_k5,r_ref20_Check]
 ·have hF:P.frameE=4:=by unfold Pb.frameE; rw[if_pos c1]
  simp[c1,hF,r_ref20_Check]
end
end Go.Proofs.Ytpmaehfiifinhaa

namespace Go.Proofs.Ytpmaehfiifinhaa
open Go Go.Am Go.Pb
def w0:List Int→Nat→Int:=fun l k=>l.getD k 0
def P3:Pb:=⟨w0 [1,1],w0 [1,1],w0 [],[0,0,0],[⟨0,w0 [1,1],10⟩,⟨1,w0 [1],6⟩,⟨2,w0 [0,1],6⟩]⟩
theorem exam_0:SoundCall Try.prog F_law26_example [] (.agg [iv 1,iv 1,iv 0,iv 0,iv 0,iv 0,iv 1,iv 1,iv 0,iv 0,iv 0,iv 0,iv 0,iv 0,iv 0,iv 0,iv 0,iv 0,.list 1 .full [[iv 0],[iv 0],[iv 0]],.list 8 .full [[iv 0,iv 1,iv 1,iv 0,iv 0,iv 0,iv 0,iv 10],[iv 1,iv 1,iv 0,iv 0,iv 0,iv 0,iv 0,iv 6],[iv 2,iv 0,iv 1,iv 0,iv 0,iv 0,iv 0,iv 6]]]):=.of_run tab_ok 1000 100 (by kernel_rfl)
theorem exam_s:SoundCall Try.prog F_law26_example [] (.agg (pbC P3)):=by
 refine sound_imp exam_0 ?_
 have e:ofR P3.of=[[iv 0,iv 1,iv 1,iv 0,iv 0,iv 0,iv 0,iv 10],[iv 1,iv 1,iv 0,iv 0,iv 0,iv 0,iv 0,iv 6],[iv 2,iv 0,iv 1,iv 0,iv 0,iv 0,iv 0,iv 6]]:=by
  unfold ofR P3
  simp only[List.map_cons,List.map_nil,oC_eq]
  rfl
 simp only[pbX_eq]
 refine imp_agg ?_
 have h2:AV.imp (.list 8 .full [[iv 0,iv 1,iv 1,iv 0,iv 0,iv 0,iv 0,iv 10],[iv 1,iv 1,iv 0,iv 0,iv 0,iv 0,iv 0,iv 6],[iv 2,iv 0,iv 1,iv 0,iv 0,iv 0,iv 0,iv 6]]) (ofA P3.of):=by
  unfold ofA
  rw[e]
  exact imp_full
 have h1:AV.imp (.list 1 .full [[iv 0],[iv 0],[iv 0]]) (clA P3.cl):=imp_full
 repeat' first | exact imps_cons h1 (imps_cons h2 imps_nil) | refine imps_cons AV.imp.refl ?_
theorem P3_n:P3.cl.length≤1000:=by decide
theorem P3_k:P3.of.length≤1000000:=by decide
theorem ex_w7:SoundCall Try.prog F_coalition_Worth [.agg (pbC P3),iv 7] (.tuple [iv 12,iv 0]):=by
 have h:=worth_s (m:=7) P3_n P3_k
 rwa [show worE P3 7=12 by decide +kernel,show fauE P3 7=0 by decide +kernel] at h
theorem ex_w3:SoundCall Try.prog F_coalition_Worth [.agg (pbC P3),iv 3] (.tuple [iv 10,iv 0]):=by
 have h:=worth_s (m:=3) P3_n P3_k
 rwa [show worE P3 3=10 by decide +kernel,show fauE P3 3=0 by decide +kernel] at h
theorem ex_w8:SoundCall Try.prog F_coalition_Worth [.agg (pbC P3),iv 8] (.tuple [iv 0,iv 4]):=by
 have h:=worth_s (m:=8) P3_n P3_k
 rwa [show worE P3 8=0 by decide +kernel,show fauE P3 8=4 by decide +kernel] at h
theorem ex_b7:SoundCall Try.prog F_coalition_Best [.agg (pbC P3),iv 7] (.tuple [.agg [clA [1,2],iv 12],iv 0]):=by
 have h:=best_s (m:=7) P3_n P3_k
 unfold besA at h
 rwa [show fauE P3 7=0 by decide +kernel,if_pos rfl,show ints (chosN P3 (Int.toNat 7))=[1,2] by decide +kernel,show worN P3 (Int.toNat 7)=12 by decide +kernel] at h
theorem lives_s:SoundCall Try.prog F_law26_lives [] (bv true):=by
 refine sound' t_law26_lives (by simp) ?_
 simp[c_law26_lives]
 refine eCall_i (xs:=[]) (args:=[]) exam_s rfl (.inl rfl) ?_
 simp
 refine eCall_i ex_w7 (by simp) (by simp) ?_
 simp
 refine eCall_i (xs:=[]) (args:=[]) exam_s rfl (.inl rfl) ?_
 simp
 refine eCall_i ex_w3 (by simp) (by simp) ?_
 simp
 refine eCall_i (xs:=[]) (args:=[]) exam_s rfl (.inl rfl) ?_
 simp
 refine eCall_i ex_b7 (by simp) (by simp) ?_
 simp
 refine eCall_i (xs:=[]) (args:=[]) exam_s rfl (.inl rfl) ?_
 simp
 refine eCall_i ex_w8 (by simp) (by simp) ?_
 simp[r_law26_lives]
theorem light_s {P:Pb} {n:Int}:SoundCall Try.prog F_law26_light [.agg (pbC P),iv n] (bv (decide ((P.of.length:Int)≤n∧P.cl.length≤5))):=by
 refine sound' t_law26_light (by simp) ?_
 by_cases c1:(P.of.length:Int)≤n
 ·by_cases c2:(P.cl.length:Int)≤5
  ·have c3:P.cl.length≤5:=by omega
   simp[c_law26_light,c1,c2,c3,r_law26_light]
  ·have c3:¬ P.cl.length≤5:=by omega
   simp[c_law26_light,c1,c2,c3,r_law26_light]
 ·simp[c_law26_light,c1,r_law26_light]
end Go.Proofs.Ytpmaehfiifinhaa

namespace Go.Proofs.Ytpmaehfiifinhaa
open Go Go.Am Go.Pb
theorem cnt_eq (r:Nat):∀ (L:List Of),(∀ x∈L,0≤x.b)→(L.map fun o=>if o.b=(r:Int) then (1:Int) else 0).sum=((L.map bd).count r:Int)
 | [],_=>by simp
 | x::L,h=>by
  have ih:=cnt_eq r L fun y hy=>h y (by simp[hy])
  have h0:=h x (by simp)
  simp only[List.map_cons,List.sum_cons,List.count_cons,ih]
  by_cases e:x.b=r
  ·have e2:bd x=r:=by unfold bd; omega
   simp[e,e2]
   omega
  ·have e2:¬ bd x=r:=by unfold bd; omega
   simp[e,e2]
section
variable {P:Pb} {m m':Nat} {L:List Of} {x:Of}
theorem coef_b {r:Nat} (h:r<P.cl.length):P.coef r x=if x.b=(r:Int) then 1 else 0:=by unfold Pb.coef; rw[if_pos h]
theorem coef_w {k:Nat} (h:k<6):P.coef (P.cl.length+k) x=x.w k:=by
 unfold Pb.coef
 rw[if_neg (by omega),if_pos (by omega)]
 congr 1; omega
theorem coef_o {k:Nat} (h:k<6):P.coef (P.cl.length+6+k) x=P.out x k:=by
 unfold Pb.coef Pb.out
 rw[if_neg (by omega),if_neg (by omega)]
 have e:P.cl.length+6+k-P.cl.length-6=k:=by omega
 rw[e]
theorem bnd_b {r:Nat} (h:r<P.cl.length):P.bnd r=1:=by unfold Pb.bnd; rw[if_pos h]
theorem bnd_w {k:Nat} (h:k<6):P.bnd (P.cl.length+k)=P.sup k:=by
 unfold Pb.bnd
 rw[if_neg (by omega),if_pos (by omega)]
 congr 1; omega
theorem bnd_o {k:Nat} (h:k<6):P.bnd (P.cl.length+6+k)=P.opn k:=by
 unfold Pb.bnd
 rw[if_neg (by omega),if_neg (by omega)]
 congr 1; omega
theorem fits_feas (hb:∀ x∈L,0≤x.b∧x.b<P.cl.length):P.fits L↔P.Feas ⟨List.range P.cl.length,P.sup,P.opn⟩ L:=by
 have hbd:∀ x∈L,bd x<P.cl.length:=fun x hx=>by have:=hb x hx; unfold bd; omega
 constructor
 ·intro h
  refine ⟨List.nodup_iff_count.2 fun r=>?_,fun x hx=>List.mem_range.2 (hbd x hx),fun k hk=>⟨?_,?_⟩⟩
  ·by_cases hr:r<P.cl.length
   ·have h1:=h r (by unfold Pb.rows; omega)
    rw[bnd_b hr,show P.coef r=fun x=>if x.b=(r:Int) then 1 else 0 from funext fun x=>coef_b (x:=x) hr,cnt_eq r L fun x hx=>(hb x hx).1] at h1
    omega
   ·rw[List.count_eq_zero_of_not_mem]
    ·omega
    ·intro hm
     obtain ⟨x,hx,rfl⟩:=List.mem_map.1 hm
     exact hr (hbd x hx)
  ·have h1:=h (P.cl.length+k) (by unfold Pb.rows; omega)
   rwa [bnd_w hk,show P.coef (P.cl.length+k)=fun x=>x.w k from funext fun x=>coef_w hk] at h1
  ·have h1:=h (P.cl.length+6+k) (by unfold Pb.rows; omega)
   rwa [bnd_o hk,show P.coef (P.cl.length+6+k)=fun x=>P.out x k from funext fun x=>coef_o hk] at h1
 ·rintro ⟨h1,_,h3⟩ r hr
  unfold Pb.rows at hr
  by_cases c1:r<P.cl.length
  ·rw[bnd_b c1,show P.coef r=fun x=>if x.b=(r:Int) then 1 else 0 from funext fun x=>coef_b (x:=x) c1,cnt_eq r L fun x hx=>(hb x hx).1]
   have:=List.nodup_iff_count.1 h1 r
   omega
  ·by_cases c2:r<P.cl.length+6
   ·obtain ⟨k,rfl⟩:∃ k,r=P.cl.length+k:=⟨r-P.cl.length,by omega⟩
    have hk:k<6:=by omega
    rw[bnd_w hk,show P.coef (P.cl.length+k)=fun x=>x.w k from funext fun x=>coef_w hk]
    exact (h3 k hk).1
   ·obtain ⟨k,rfl⟩:∃ k,r=P.cl.length+6+k:=⟨r-P.cl.length-6,by omega⟩
    have hk:k<6:=by omega
    rw[bnd_o hk,show P.coef (P.cl.length+6+k)=fun x=>P.out x k from funext fun x=>coef_o hk]
    exact (h3 k hk).2
theorem off_b (hG:P.Good) (h:x∈P.of):(0≤x.b∧x.b<P.cl.length)∧(1≤x.v∧x.v≤1000000)∧okB x.w:=sim_ok (off_sim (hG.off x h)).1
theorem wor_bound (hG:P.Good) (h1:∀ x∈L,x∈P.of) (h2:P.Feas ⟨bitsN m,P.sup,P.opn⟩ L):sumV L≤worN P m :=
 val_bound _ _ _ L bits_nodup (fun x hx=>okL_of hG x (h1 x hx)) h1 h2
theorem wor_reach (hG:P.Good) (m:Nat):∃ L,(∀ x∈L,x∈P.of)∧P.Feas ⟨bitsN m,P.sup,P.opn⟩ L∧sumV L=worN P m :=
 val_reach (okL_of hG) _ _ _ bits_nodup (nn_sit hG)
end
end Go.Proofs.Ytpmaehfiifinhaa

namespace Go.Proofs.Ytpmaehfiifinhaa
open Go Go.Am Go.Pb
abbrev tyB:Ty:=.arr 6 (.int .i64)
abbrev tyOf':Ty:=.st [.int .i64,tyB,.int .i64]
abbrev tyPb:Ty:=.st [tyB,tyB,tyB,.slice (.int .i64),.slice tyOf']
theorem bun_of {cs:List AV} (h:TyC tyB cs):∃ w:Nat→Int,cs=bC w:=by
 obtain ⟨rows,rfl,hl,h⟩:=h
 obtain ⟨L,rfl,_⟩:=rows_map (fun n:Int=>[iv n]) (fun _=>True) (fun r hr=>by
  obtain ⟨n,rfl,_⟩:=hr
  exact ⟨n,rfl,trivial⟩) h
 refine ⟨fun k=>L.getD k 0,?_⟩
 match L,hl with
 | [a,b,c,d,e,f],_=>rw[bC_eq]; rfl
theorem offer_of {cs:List AV} (h:TyC tyOf' cs):∃ o:Of,cs=oC o:=by
 obtain ⟨a1,b1,rfl,⟨n,rfl,_⟩,a2,b2,rfl,h2,a3,b3,rfl,⟨v,rfl,_⟩,rfl⟩:=h
 obtain ⟨w,rfl⟩:=bun_of h2
 exact ⟨⟨n,w,v⟩,by rw[oC_eq,bC_eq]; rfl⟩
theorem intl_of {cs:List AV} (h:TyC (.slice (.int .i64)) cs):∃ l:List Int,cs=[clA l]∧l.length≤reachBytes:=by
 obtain ⟨rows,rfl,hl,h⟩:=h
 obtain ⟨L,rfl,h2⟩:=rows_map (fun d:Int=>[iv d]) (fun _=>True) (fun r hr=>by
  obtain ⟨n,rfl,_⟩:=hr
  exact ⟨n,rfl,trivial⟩) h
 exact ⟨L,rfl,by simpa using hl⟩
theorem offl_of {cs:List AV} (h:TyC (.slice tyOf') cs):∃ L:List Of,cs=[ofA L]∧L.length≤reachBytes:=by
 obtain ⟨rows,rfl,hl,h⟩:=h
 obtain ⟨L,rfl,h2⟩:=rows_map oC (fun _=>True) (fun r hr=>by
  obtain ⟨o,rfl⟩:=offer_of hr
  exact ⟨o,rfl,trivial⟩) h
 exact ⟨L,rfl,by simpa using hl⟩
theorem prob_of {x:AV} (h:AVTy tyPb x):∃ P:Pb,x=.agg (pbC P)∧P.cl.length≤reachBytes∧P.of.length≤reachBytes:=by
 obtain ⟨cs,rfl,a1,b1,rfl,h1,a2,b2,rfl,h2,a3,b3,rfl,h3,a4,b4,rfl,h4,a5,b5,rfl,h5,rfl⟩:=h
 obtain ⟨s,rfl⟩:=bun_of h1
 obtain ⟨p,rfl⟩:=bun_of h2
 obtain ⟨c,rfl⟩:=bun_of h3
 obtain ⟨l,rfl,hl⟩:=intl_of h4
 obtain ⟨L,rfl,hL⟩:=offl_of h5
 refine ⟨⟨s,p,c,l,L⟩,?_,hl,hL⟩
 congr 1
 unfold pbC pbX
 simp
theorem int_of {x:AV} {k:IntKind} (h:AVTy (.int k) x):∃ n:Int,x=.val (.int k n)∧(Lit.int k n).wf=true:=by
 obtain ⟨n,h1,h2⟩:=h
 simp only[List.cons.injEq,and_true] at h1
 exact ⟨n,h1,h2⟩
end Go.Proofs.Ytpmaehfiifinhaa

namespace Go.Proofs.Ytpmaehfiifinhaa
open Go Go.Am Go.Pb
theorem pow5:∀ n:Nat,n≤5→IntKind.i64.wrap ((2:Int)^(min n 64))=((2^n:Nat):Int)∧2^n≤32∧1≤2^n∧¬ ((2^n:Nat):Int)=0:=by decide +kernel
theorem rem_fact:∀ a:Nat,a<256→∀ n:Nat,n≤5→(a:Int).tmod ((2^n:Nat):Int)=((a%2^n:Nat):Int)∧IntKind.i64.wrap (a:Int)=a:=by decide +kernel
theorem wu8:∀ b:Nat,b<8→IntKind.u64.wrap (b:Int)=b:=by decide +kernel
theorem pow_lt {m n:Nat} (h:m<2^n):(m:Int)<2^n:=by
 have e:((2^n:Nat):Int)=2^n:=by rw[Int.natCast_pow]; rfl
 omega
section
variable {P:Pb} {m:Nat}
theorem fau_ok (hc:P.chk=0) (h:m<2^P.cl.length):fauE P m=0:=by
 have:=pow_lt h
 unfold fauE
 rw[if_neg (fun e=>e hc),if_neg]
 omega
theorem wor_ok (hc:P.chk=0) (h:m<2^P.cl.length):worE P m=worN P m:=by
 unfold worE
 rw[if_pos (fau_ok hc h)]
 rfl
theorem worthN (hn:P.cl.length≤1000) (hk:P.of.length≤1000000) (hc:P.chk=0) (h:m<2^P.cl.length):SoundCall Try.prog F_coalition_Worth [.agg (pbC P),iv m] (.tuple [iv (worN P m),iv 0]):=by
 have:=worth_s (m:=(m:Int)) hn hk
 rwa [fau_ok hc h,wor_ok hc h] at this
end
theorem u8_rng {n:Int} (h:(Lit.int .u8 n).wf=true):∃ a:Nat,n=a∧a<256:=by
 have h1:IntKind.u8.min≤n∧n≤IntKind.u8.max:=by simpa [Lit.wf] using h
 have h2:IntKind.u8.min=0:=by decide
 have h3:IntKind.u8.max=255:=by decide
 exact ⟨n.toNat,by omega,by omega⟩
end Go.Proofs.Ytpmaehfiifinhaa

namespace Go.Proofs.Ytpmaehfiifinhaa
open Go Go.Am Go.Pb
theorem chkL_good {P:Pb} (hE:∀ o∈P.of,P.offE o=0) (hN:∀ (i l:Nat) o o',l<i→P.of[i]?=some o→P.of[l]?=some o'→¬ sameO o' o):∀ k,P.chkL k=0
 | 0=>rfl
 | k+1=>by
  rw[Pb.chkL,if_pos (chkL_good hE hN k)]
  cases h:P.of[k]? with
  | none=>rfl
  | some o =>
   simp only[Pb.offI]
   have h0:=hE o (List.mem_of_getElem? h)
   rw[if_neg (fun e=>e h0),if_neg]
   rintro ⟨u,hu,hs⟩
   obtain ⟨q,hq⟩:=List.mem_iff_getElem?.1 hu
   rw[List.getElem?_take] at hq
   split at hq
   ·rename_i hqk; exact hN k q o u hqk h hq hs
   ·cases hq
theorem good_chk {P:Pb} (h:P.Good):P.chk=0:=by
 have hf:P.frameE=0:=by
  unfold Pb.frameE
  rw[if_neg (fun e=>e h.sup),if_neg (fun e=>e h.set),if_neg (by have:=h.n; have:=h.k; omega),if_pos h.cl]
 unfold Pb.chk
 rw[if_pos hf]
 exact chkL_good h.off h.new _
theorem pair_of {P:Pb} (h:P.Good):P.of.Pairwise fun o' o=>¬ sameO o' o:=by
 rw[List.pairwise_iff_getElem]
 intro i j hi hj hij
 exact h.new j i _ _ hij (by simp[hj]) (by simp[hi])
theorem good_wo {P:Pb} {m:Int} (h:P.Good):(woP P m).Good where
 sup:=h.sup
 set:=h.set
 n:=h.n
 k:=Nat.le_trans keepL_len h.k
 cl:=h.cl
 off:=fun o ho=>h.off o (List.mem_filter.1 ho).1
 new:=by
  have hp:=(pair_of h).filter (fun o=>!mb m o.b.toNat)
  rw[List.pairwise_iff_getElem] at hp
  intro i l o o' hl hi hlo
  obtain ⟨h1,h2⟩:=List.getElem?_eq_some_iff.1 hi
  obtain ⟨h3,h4⟩:=List.getElem?_eq_some_iff.1 hlo
  have:=hp l i h3 h1 hl
  rw[← h2,← h4]
  exact this
end Go.Proofs.Ytpmaehfiifinhaa

namespace Go.Proofs.Ytpmaehfiifinhaa
open Go Go.Am Go.Pb
theorem msk_fact:∀ n:Nat,n≤5→∀ x:Nat,x<32→x<2^n→(∀ b:Nat,b<8→(2^n-1).testBit b=decide (b<n)∧(2^n-1-x).testBit b=(decide (b<n)&&!x.testBit b))∧2^n-1-x<2^n∧2^n-1<2^n:=by decide +kernel
theorem msk_and:∀ n:Nat,n≤5→∀ a:Nat,a<256→bitI .and .i64 (a:Int) ((2^n-1:Nat):Int)=((a%2^n:Nat):Int):=by decide +kernel
section
variable {P:Pb} {n x:Nat} {L M:List Of}
theorem bit_lt {m b:Nat} (h:m<2^n) (hb:m.testBit b=true):b<n:=Nat.lt_of_not_le fun hl=>by
 have:=Nat.testBit_lt_two_pow (Nat.lt_of_lt_of_le h (Nat.pow_le_pow_right (by decide) hl))
 rw[hb] at this; cases this
def hW (x k:Nat) (o:Of):Int:=if x.testBit (bd o) then o.w k else 0
theorem wor_wo (hG:P.Good) (hn:P.cl.length≤5) (hx:x<2^P.cl.length) :
  worN (woP P ((2^P.cl.length-1-x:Nat):Int)) (2^P.cl.length-1)=worN P x:=by
 obtain ⟨_,p2,_,_⟩:=pow5 _ hn
 obtain ⟨hm,_,_⟩:=msk_fact _ hn x (by omega) hx
 have hlow:∀ b,x.testBit b=true→b<P.cl.length:=fun b hb=>bit_lt hx hb
 have hall:∀ b,b∈bitsN (2^P.cl.length-1)↔b<8∧b<P.cl.length:=fun b=>by
  rw[mem_bits]
  constructor
  ·rintro ⟨h1,h2⟩; rw[(hm b h1).1] at h2; exact ⟨h1,of_decide_eq_true h2⟩
  ·rintro ⟨h1,h2⟩; exact ⟨h1,by rw[(hm b h1).1]; exact decide_eq_true h2⟩
 have hG2:(woP P ((2^P.cl.length-1-x:Nat):Int)).Good:=good_wo hG
 have hkeep:∀ y,y∈(woP P ((2^P.cl.length-1-x:Nat):Int)).of↔y∈P.of∧x.testBit (bd y)=true:=fun y=>by
  show y∈List.filter _ _↔_
  rw[List.mem_filter]
  refine and_congr_right fun hy=>?_
  have hb:=(off_b hG hy).1
  have h8:bd y<8:=by unfold bd; omega
  have hc:bd y<P.cl.length:=by unfold bd; omega
  have e:y.b.toNat=bd y:=rfl
  rw[e,mb_nat _ _ (by omega),(hm _ h8).2]
  simp[hc]
 apply Int.le_antisymm
 ·obtain ⟨L,h1,h2,h3⟩:=wor_reach hG2 (2^P.cl.length-1)
  rw[← h3]
  have h2':P.Feas ⟨bitsN (2^P.cl.length-1),P.sup,P.opn⟩ L:=h2
  exact wor_bound hG (fun y hy=>((hkeep y).1 (h1 y hy)).1) (feas_bs h2' fun y hy=>mem_bits.2 ⟨((hall _).1 (h2.2.1 y hy)).1,((hkeep y).1 (h1 y hy)).2⟩)
 ·obtain ⟨L,h1,h2,h3⟩:=wor_reach hG x
  rw[← h3]
  have hb:∀ y∈L,x.testBit (bd y)=true∧bd y<8:=fun y hy=>by have:=mem_bits.1 (h2.2.1 y hy); exact ⟨this.2,this.1⟩
  have h2':P.Feas ⟨bitsN (2^P.cl.length-1),P.sup,P.opn⟩ L:=feas_bs h2 fun y hy=>(hall _).2 ⟨(hb y hy).2,hlow _ (hb y hy).1⟩
  exact wor_bound hG2 (fun y hy=>(hkeep y).2 ⟨h1 y hy,(hb y hy).1⟩) h2'
theorem chos_ok (hG:P.Good) (hx:x<2^P.cl.length) (h256:x<256):okP P.of.length (ints (chosN P x))∧P.fits (P.pick (ints (chosN P x)))∧((P.pick (ints (chosN P x))).map fun o=>o.v).sum=worN P x ∧
  (∀ j∈chosN P x,j<P.of.length)∧∀ y∈P.pick (ints (chosN P x)),x.testBit (bd y)=true:=by
 have hF:=chos_F hG h256
 have hW:=wor_F hG (m:=x)
 obtain ⟨h1,h2,h3,h4⟩:=F_reach (okL_of hG) P.of 0 ⟨bitsN x,P.sup,P.opn⟩ rfl (nn_sit hG)
 rw[← hF] at h1 h2 h3 h4
 have e:P.pick (ints (chosN P x))=P.ofs (chosN P x):=by
  unfold Pb.pick Pb.ofs ints
  rw[List.map_map]
  rfl
 rw[e]
 have hm:=ofs_mem (P:=P) fun j hj=>(h3 j hj).2
 refine ⟨okP_ints h4 fun j hj=>(h3 j hj).2,(fits_feas fun y hy=>(off_b hG (hm y hy)).1).2 (feas_bs h1 fun y hy=>List.mem_range.2 ?_),?_,fun j hj=>(h3 j hj).2,fun y hy=>(mem_bits.1 (h1.2.1 y hy)).2⟩
 ·have:=(off_b hG (hm y hy)).1; unfold bd; omega
 ·rw[hW,← h2]; rfl
end
end Go.Proofs.Ytpmaehfiifinhaa

namespace Go.Proofs.Ytpmaehfiifinhaa
open Go Go.Am Go.Pb
noncomputable def stRp (P:Pb) (ch:List Int) (k:Nat):St:={env:=[(1,clA ch),(2,.ptr 2 0),(6,apc 55 8 (ofR (P.pick (ch.take k)))),(7,iv k)],sto:=[(2,.var (pbC P))]}
section
variable {P:Pb} {ch:List Int}
theorem rpicked_s (hk:P.of.length≤1000000) (ok:okP P.of.length ch):SoundCall Try.prog F_ref20_Picked [.agg (pbC P),clA ch] (.tuple [ofA (P.pick ch),bv true]):=by
 have hl:=okP_len ok
 refine soundW' t_ref20_Picked (by simp) ?_
 simp[c_ref20_Picked]
 have h0:apc 55 8 (ofR (P.pick (ch.take 0)))=.list 0 .full []:=by rw[List.take_zero]; exact apc_nil rfl
 refine awp_forW (stRp P ch) (fun _=>True) ch.length (by simp[stRp,Pb.pick,ofR,apc]) trivial (fun k hk' _=>?_) (fun _=>?_)
 ·have e:(k:Int)<ch.length:=by omega
  have w1:=wrap_succ (k:=k) (by omega)
  have hg:=getD_lt hk'
  have d:=ok k hk'
  obtain ⟨b,hb,hbn⟩:=okI_nat (fun q hq=>ok q (by omega)) d
  rw[hg] at hb
  unfold okI at d
  rw[hg,hb] at d
  have b0:¬ (b:Int)<0:=by omega
  have b2:(b:Int)<P.of.length:=by omega
  have b3:¬ (P.of.length:Int)≤b:=by omega
  have hat:P.of[b]=P.at ch[k]:=by rw[hb,at_lt hbn]
  have hro:ofR (P.pick (ch.take k))++[oC P.of[b]]=ofR (P.pick (ch.take (k+1))):=by rw[pick_take hk',ofR_app,hat]; rfl
  by_cases hz:0<k
  ·obtain ⟨q,hq⟩:∃ q:Nat,k-1=q:=⟨_,rfl⟩
   have hql:q<ch.length:=by omega
   have hgq:=getD_lt hql
   have hpv:prv ch k=ch[q]:=by
    rw[show k=q+1 by omega]
    exact hgq
   rw[hpv] at d
   have w2:IntKind.i64.wrap ((k:Int)-1)=(q:Int):=by rw[wrap64]<;>omega
   have c1:¬ (b:Int)≤ch[q]:=by omega
   have eq':(q:Int)<ch.length:=by omega
   simp[c_ref20_Picked_l0,stRp,e,hk',hb,b0,b2,b3,hbn,hz,w2,hql,eq',c1]
   refine apc_add (by decide) rfl ?_ ?_ (by simp) ?_
   ·simp only[ofR_len,pick_len,List.length_take]; omega
   ·simp only[ofR_len,pick_len,List.length_take]; omega
   ·rw[hro]
    simp[w1,stRp]
  ·simp[c_ref20_Picked_l0,stRp,e,hk',hb,b0,b2,b3,hbn,hz]
   refine apc_add (by decide) rfl ?_ ?_ (by simp) ?_
   ·simp only[ofR_len,pick_len,List.length_take]; omega
   ·simp only[ofR_len,pick_len,List.length_take]; omega
   ·rw[hro]
    simp[w1,stRp]
 ·simp[c_ref20_Picked_l0,stRp,c_ref20_Picked_k1,r_ref20_Picked]
  exact AV.imp_tuple2 (plc_imp impr_refl)
theorem rfeasible_s (hn:P.cl.length≤1000) (hk:P.of.length≤1000000) (hc:P.chk=0) (ok:okP P.of.length ch):SoundCall Try.prog F_ref20_Feasible [.agg (pbC P),clA ch] (iv (if P.fits (P.pick ch) then 0 else 14)):=by
 have hl:=okP_len ok
 refine sound' t_ref20_Feasible (by simp) ?_
 simp[c_ref20_Feasible]
 refine eCall_i (rcheck_s hn hk) (by simp) (by simp) ?_
 simp[hc]
 refine eCall_i (rpicked_s hk ok) (by simp) (by simp) ?_
 have hG:=chk_good hc
 have hm:=pick_mem ok
 have hP:∀ o∈P.pick ch,P.offE o=0:=fun o ho=>hG.off o (hm o ho)
 simp
 refine eCall_i (rfits_s (P:=P) (L:=P.pick ch) hn (by rw[pick_len]; have:=hG.k; omega) (fun o ho=>(sim_ok (off_sim (hP o ho)).1).1) (fun o ho=>(sim_ok (off_sim (hP o ho)).1).2.2)) (by simp) (by simp) ?_
 by_cases c3:P.fits (P.pick ch)
 ·simp[c3,r_ref20_Feasible]
 ·simp[c3,r_ref20_Feasible]
end
end Go.Proofs.Ytpmaehfiifinhaa

namespace Go.Proofs.Ytpmaehfiifinhaa
open Go Go.Am Go.Pb
def afts (P:Pb) (s:Sit) (L:List Of):Sit:=L.foldl P.aft s
section
variable {P:Pb} {s:Sit} {x:Of} {L X:List Of} {m i:Nat} {T:List Nat} {v:Int} {b:List Nat × Int}
theorem feas_snoc:∀ (L:List Of) (s:Sit),s.nn→okL (L++[x])→(P.Feas s (L++[x])↔P.Feas s L∧P.ok (afts P s L) x)
 | [],s,hn,hw=>by
  rw[List.nil_append,feas_cons hw]
  constructor
  ·rintro ⟨h1,_⟩; exact ⟨feas_nil hn,h1⟩
  ·rintro ⟨_,h1⟩; exact ⟨h1,feas_nil (aft_nn h1)⟩
 | y::L,s,hn,hw=>by
  have hw1:okL (y::L):=fun z hz=>hw z (by simp only[List.cons_append,List.mem_cons,List.mem_append] at hz ⊢; rcases hz with h | h<;>simp[h])
  have hw2:okL (L++[x]):=fun z hz=>hw z (by simp only[List.cons_append,List.mem_cons]; exact .inr hz)
  rw[List.cons_append] at hw ⊢
  rw[feas_cons hw,feas_cons hw1]
  constructor
  ·rintro ⟨h1,h2⟩
   obtain ⟨h3,h4⟩:=(feas_snoc L (P.aft s y) (aft_nn h1) hw2).1 h2
   exact ⟨⟨h1,h3⟩,h4⟩
  ·rintro ⟨⟨h1,h3⟩,h4⟩
   exact ⟨h1,(feas_snoc L (P.aft s y) (aft_nn h1) hw2).2 ⟨h3,h4⟩⟩
theorem afts_snoc:afts P s (L++[x])=P.aft (afts P s L) x:=by unfold afts; rw[List.foldl_append]; rfl
def comb (T:List Nat) (v:Int) (b F:List Nat × Int):List Nat × Int:=if b.2<v+F.2 then (T++F.1,v+F.2) else b
theorem comb_no (h:¬ P.ok s x):comb T v b (P.F (x::X) i s)=comb T v b (P.F X (i+1) s):=by
 rw[Pb.F,if_neg (fun h2=>h h2.1)]
theorem comb_yes (h:P.ok s x):comb T v b (P.F (x::X) i s)=comb T v (comb (T++[i]) (v+x.v) b (P.F X (i+1) (P.aft s x))) (P.F X (i+1) s):=by
 obtain ⟨A,hA⟩:∃ A,P.F X (i+1) (P.aft s x)=A:=⟨_,rfl⟩
 obtain ⟨R,hR⟩:∃ R,P.F X (i+1) s=R:=⟨_,rfl⟩
 rw[Pb.F,hA,hR]
 by_cases c:R.2≤x.v+A.2
 ·rw[if_pos ⟨h,c⟩]
  unfold comb
  by_cases d:b.2<v+(x.v+A.2)
  ·have d2:b.2<v+x.v+A.2:=by omega
   rw[if_pos d,if_pos d2,if_neg (by simp only; omega)]
   simp only[List.append_assoc,List.singleton_append,Int.add_assoc]
  ·have d2:¬ b.2<v+x.v+A.2:=by omega
   rw[if_neg d,if_neg d2,if_neg (by omega)]
 ·rw[if_neg (fun h2=>c h2.2)]
  unfold comb
  by_cases d:b.2<v+x.v+A.2
  ·rw[if_pos d,if_pos (show b.2<v+R.2 by omega),if_pos (by simp only; omega)]
  ·rw[if_neg d]
theorem ofs_snoc (h:P.of[i]?=some x):P.ofs (T++[i])=P.ofs T++[x]:=by
 unfold Pb.ofs
 rw[List.map_append,List.map_singleton,List.getD_eq_getElem?_getD,h]
 rfl
theorem pick_ofs:P.pick (ints T)=P.ofs T:=by
 unfold Pb.pick Pb.ofs ints
 rw[List.map_map]
 rfl
structure Tr (P:Pb) (m i:Nat) (T:List Nat):Prop where
 inc:T.Pairwise (·<·)
 lt:∀ j∈T,j<i
 feas:P.Feas ⟨bitsN m,P.sup,P.opn⟩ (P.ofs T)
theorem Tr.mono (h:Tr P m i T):Tr P m (i+1) T:=⟨h.inc,fun j hj=>by have:=h.lt j hj; omega,h.feas⟩
theorem inc_len:∀ (T:List Nat) (i:Nat),T.Pairwise (·<·)→(∀ j∈T,j<i)→T.length≤i:=by
 intro T i h1 h2
 have h:okP i (ints T):=okP_ints h1 h2
 have:=okP_len h
 simpa [ints] using this
theorem Tr.snoc_inc (h:Tr P m i T):(T++[i]).Pairwise (·<·)∧∀ j∈T++[i],j<i+1:=by
 refine ⟨List.pairwise_append.2 ⟨h.inc,List.pairwise_singleton _ _,fun a ha b hb=>?_⟩,fun j hj=>?_⟩
 ·rw[List.mem_singleton.1 hb]; exact h.lt a ha
 ·rcases List.mem_append.1 hj with hj | hj
  ·have:=h.lt j hj; omega
  ·rw[List.mem_singleton.1 hj]; omega
theorem Tr.mem (hG:P.Good) (h:Tr P m i T) (hi:i≤P.of.length):∀ y∈P.ofs T,y∈P.of:=ofs_mem fun j hj=>by have:=h.lt j hj; omega
theorem Tr.ok_iff (hG:P.Good) (h:Tr P m i T) (hx:P.of[i]?=some x):(m.testBit (bd x)=true∧P.fits (P.pick (ints (T++[i]))))↔P.ok (afts P ⟨bitsN m,P.sup,P.opn⟩ (P.ofs T)) x:=by
 have hi:i<P.of.length:=(List.getElem?_eq_some_iff.1 hx).1
 have hxm:=List.mem_of_getElem? hx
 have hm:=h.mem hG (by omega)
 have hm2:∀ y∈P.ofs T++[x],y∈P.of:=fun y hy=>by
  rcases List.mem_append.1 hy with hy | hy
  ·exact hm y hy
  ·rw[List.mem_singleton.1 hy]; exact hxm
 have hw:okL (P.ofs T++[x]):=fun y hy=>okL_of hG y (hm2 y hy)
 have hs:=feas_snoc (P:=P) (x:=x) (P.ofs T) ⟨bitsN m,P.sup,P.opn⟩ (nn_sit hG) hw
 have hb:=(off_b hG hxm).1
 have h8:=hG.n
 have hb8:bd x<8:=by unfold bd; omega
 rw[pick_ofs,ofs_snoc hx,fits_feas fun y hy=>(off_b hG (hm2 y hy)).1]
 constructor
 ·rintro ⟨h1,h2⟩
  refine (hs.1 (feas_bs h2 fun y hy=>?_)).2
  rcases List.mem_append.1 hy with hy | hy
  ·exact h.feas.2.1 y hy
  ·rw[List.mem_singleton.1 hy]; exact mem_bits.2 ⟨hb8,h1⟩
 ·intro h1
  have h2:=hs.2 ⟨h.feas,h1⟩
  refine ⟨(mem_bits.1 (h2.2.1 x (by simp))).2,feas_bs h2 fun y hy=>List.mem_range.2 ?_⟩
  have:=(off_b hG (hm2 y hy)).1
  unfold bd; omega
theorem Tr.snoc (hG:P.Good) (h:Tr P m i T) (hx:P.of[i]?=some x) (hk:P.ok (afts P ⟨bitsN m,P.sup,P.opn⟩ (P.ofs T)) x):Tr P m (i+1) (T++[i]):=by
 have hi:i<P.of.length:=(List.getElem?_eq_some_iff.1 hx).1
 have hm:=h.mem hG (by omega)
 refine ⟨h.snoc_inc.1,h.snoc_inc.2,?_⟩
 rw[ofs_snoc hx]
 refine (feas_snoc (P.ofs T) _ (nn_sit hG) fun y hy=>okL_of hG y ?_).2 ⟨h.feas,hk⟩
 rcases List.mem_append.1 hy with hy | hy
 ·exact hm y hy
 ·rw[List.mem_singleton.1 hy]; exact List.mem_of_getElem? hx
theorem Tr.nil (hG:P.Good):Tr P m 0 []:=⟨List.Pairwise.nil,fun j hj=>absurd hj (by simp),feas_nil (nn_sit hG)⟩
theorem afts_ofs (hx:P.of[i]?=some x):afts P s (P.ofs (T++[i]))=P.aft (afts P s (P.ofs T)) x:=by rw[ofs_snoc hx,afts_snoc]
end
end Go.Proofs.Ytpmaehfiifinhaa

namespace Go.Proofs.Ytpmaehfiifinhaa
open Go Go.Am Go.Pb
def alA (b:List Nat × Int):AV:=.agg [clA (ints b.1),iv b.2]
section
variable {P:Pb} {m:Nat}
theorem search_s (hn:P.cl.length≤1000) (hk:P.of.length≤1000000) (hc:P.chk=0) (hm:m<256):∀ (X:List Of) (i:Nat) (T:List Nat) (v:Int) (b:List Nat × Int),P.of.drop i=X→i≤P.of.length→Tr P m i T→0≤v→v≤1000000*i →
  SoundCall Try.prog F_ref26_search [.agg (pbC P),iv m,iv i,clA (ints T),iv v,alA b] (alA (comb T v b (P.F X i (afts P ⟨bitsN m,P.sup,P.opn⟩ (P.ofs T)))))
 | [],i,T,v,b,hX,hi,hT,hv1,hv2=>by
  have hi2:i=P.of.length:=by
   have:=congrArg List.length hX
   simp at this
   omega
  subst hi2
  have hlen:=inc_len T _ hT.inc hT.lt
  refine soundW' t_ref26_search (by simp) ?_
  unfold comb
  simp[c_ref26_search,alA,splice,Pb.F]
  by_cases c:b.2<v
  ·have c':¬ v≤b.2:=by omega
   simp[c,c',r_ref26_search]
   exact ⟨by omega,by omega,AV.imp.refl⟩
  ·simp[c,r_ref26_search]
   exact fun _=>AV.imp.refl
 | x::X,i,T,v,b,hX,hi,hT,hv1,hv2=>by
  obtain ⟨hgx,hX',hil⟩:=drop_cons hX
  have hG:=chk_good hc
  have hk160:=hG.k
  have hlen:=inc_len T _ hT.inc hT.lt
  have hgE:P.of[i]=x:=by
   rw[List.getElem?_eq_getElem hil] at hgx
   exact Option.some.inj hgx
  have hom:x∈P.of:=List.mem_of_getElem? hgx
  obtain ⟨x3,x5,x6⟩:=off_b hG hom
  have h8:=hG.n
  obtain ⟨b',hb1,hb2⟩:∃ b':Nat,x.b=b'∧b'<8:=⟨x.b.toNat,by omega,by omega⟩
  have hbd:bd x=b':=by unfold bd; omega
  have hb0:¬ (b':Int)<0:=by omega
  have hmin:min b' 64=b':=by omega
  have hwu:=wu8 b' hb2
  have h64:IntKind.i64.bits=64:=rfl
  have hbit:bitI .and .i64 ((m:Int).fdiv (2^b')) 1=if m.testBit b' then 1 else 0:=by
   rw[mb_one (m:Int) b' (by omega) (by omega) (by omega),mb_nat m b' (by omega)]
  have w1:=wrap_succ (k:=i) (by omega)
  have e1:¬ i=P.of.length:=by omega
  have e2:(i:Int)<P.of.length:=by omega
  have e3:¬ (i:Int)=P.of.length:=by omega
  have hT1:=hT.mono
  have hno:∀ b,SoundCall Try.prog F_ref26_search [.agg (pbC P),iv m,iv (i+1:Nat),clA (ints T),iv v,alA b] (alA (comb T v b (P.F X (i+1) (afts P ⟨bitsN m,P.sup,P.opn⟩ (P.ofs T))))) :=
   fun b=>search_s hn hk hc hm X (i+1) T v b hX' (by omega) hT1 hv1 (by omega)
  have hiff:=hT.ok_iff hG hgx
  have hsnoc:=hT.snoc hG hgx
  have hw2:IntKind.i64.wrap (v+x.v)=v+x.v:=by rw[wrap64]<;>omega
  have hyes:P.ok (afts P ⟨bitsN m,P.sup,P.opn⟩ (P.ofs T)) x→SoundCall Try.prog F_ref26_search [.agg (pbC P),iv m,iv (i+1:Nat),clA (ints (T++[i])),iv (v+x.v),alA b] (alA (comb (T++[i]) (v+x.v) b (P.F X (i+1) (P.aft (afts P ⟨bitsN m,P.sup,P.opn⟩ (P.ofs T)) x)))):=fun h=>by
   have:=search_s hn hk hc hm X (i+1) (T++[i]) (v+x.v) b hX' (by omega) (hsnoc h) (by omega) (by omega)
   rwa [afts_ofs hgx] at this
  have hfe:=rfeasible_s (ch:=ints (T++[i])) hn hk hc (okP_ints hT.snoc_inc.1 fun j hj=>by have:=hT.snoc_inc.2 j hj; omega)
  rw[hbd] at hiff
  obtain ⟨S,hS⟩:∃ S,afts P ⟨bitsN m,P.sup,P.opn⟩ (P.ofs T)=S:=⟨_,rfl⟩
  rw[hS] at hno hyes hiff ⊢
  have hE:clA (ints (T++[i]))=.list 1 .plain (clR (ints T)++[[iv i]]):=by show AV.list 1 .plain (clR (ints (T++[i])))=_; rw[ints_app]; rfl
  rw[hE] at hyes hfe
  refine sound' t_ref26_search (by simp) ?_
  by_cases f1:m.testBit b'=true
  ·rw[if_pos f1] at hbit
   have l1:T.length*8≤140737488355328:=by omega
   have l2:(T.length+1)*8≤140737488355328:=by omega
   have l3:T.length≤9223372036854775807:=by omega
   have l4:T.length≤9223372036854775806:=by omega
   by_cases f2:P.fits (P.pick (ints (T++[i])))
   ·have hok:=hiff.1 ⟨f1,f2⟩
    rw[comb_yes hok]
    rw[if_pos f2] at hfe
    have hy:=hyes hok
    obtain ⟨b1,hb1'⟩:∃ b1,comb (T++[i]) (v+x.v) b (P.F X (i+1) (P.aft S x))=b1:=⟨_,rfl⟩
    rw[hb1'] at hy ⊢
    have hn1:=hno b1
    obtain ⟨r,hr⟩:∃ r,comb T v b1 (P.F X (i+1) S)=r:=⟨_,rfl⟩
    rw[hr] at hn1 ⊢
    simp only[alA] at hn1 hy
    simp[c_ref26_search,alA,splice,e2,e3,hil,hgE,hb1,hwu,eBin_shr hb0,h64,hmin,hbit,l1,l2,l3,l4]
    refine eCall_i hfe (by simp) (by simp) ?_
    simp[w1,hw2]
    refine eCall_i hy (by simp) (by simp) ?_
    simp[w1,splice]
    refine eCall_i hn1 (by simp) (by simp) ?_
    simp[splice,r_ref26_search]
   ·have hok:¬ P.ok S x:=fun h=>f2 (hiff.2 h).2
    rw[comb_no hok]
    rw[if_neg f2] at hfe
    have hn1:=hno b
    obtain ⟨r,hr⟩:∃ r,comb T v b (P.F X (i+1) S)=r:=⟨_,rfl⟩
    rw[hr] at hn1 ⊢
    simp only[alA] at hn1
    simp[c_ref26_search,alA,splice,e2,e3,hil,hgE,hb1,hwu,eBin_shr hb0,h64,hmin,hbit,l1,l2,l3,l4]
    refine eCall_i hfe (by simp) (by simp) ?_
    simp[w1]
    refine eCall_i hn1 (by simp) (by simp) ?_
    simp[splice,r_ref26_search]
  ·rw[if_neg f1] at hbit
   have hok:¬ P.ok S x:=fun h=>f1 (hiff.2 h).1
   rw[comb_no hok]
   have hn1:=hno b
   obtain ⟨r,hr⟩:∃ r,comb T v b (P.F X (i+1) S)=r:=⟨_,rfl⟩
   rw[hr] at hn1 ⊢
   simp only[alA] at hn1
   simp[c_ref26_search,alA,splice,e2,e3,hil,hgE,hb1,hwu,eBin_shr hb0,h64,hmin,hbit,w1]
   refine eCall_i hn1 (by simp) (by simp) ?_
   simp[splice,r_ref26_search]
end
end Go.Proofs.Ytpmaehfiifinhaa

namespace Go.Proofs.Ytpmaehfiifinhaa
open Go Go.Am Go.Pb
section
variable {P:Pb} {m:Int}
theorem F_nil (hG:P.Good) {s:Sit} (hn:s.nn):comb [] 0 ([],0) (P.F P.of 0 s)=P.F P.of 0 s:=by
 obtain ⟨h1,h2,h3,h4⟩:=F_reach (okL_of hG) P.of 0 s rfl hn
 obtain ⟨F,hF⟩:∃ F,P.F P.of 0 s=F:=⟨_,rfl⟩
 rw[hF] at h1 h2 h3 h4 ⊢
 have hm:=ofs_mem (P:=P) fun j hj=>(h3 j hj).2
 have hv:∀ y∈P.ofs F.1,1≤y.v:=fun y hy=>(off_b hG (hm y hy)).2.1.1
 obtain ⟨T,w⟩:=F
 unfold comb
 simp only at h2 hv ⊢
 cases T with
 | nil =>
  have:w=0:=by rw[← h2]; rfl
  subst this
  rfl
 | cons j T =>
  have h5:P.ofs (j::T)=P.of.getD j ⟨0,fun _=>0,0⟩::P.ofs T:=rfl
  rw[h5] at h2 hv
  rw[sumV_cons] at h2
  have a:=hv _ (List.mem_cons_self ..)
  have b:0≤sumV (P.ofs T):=sum_nn fun y hy=>by have:=hv y (by simp[hy]); omega
  rw[if_pos (by omega)]
  simp
theorem rbest_s (hn:P.cl.length≤1000) (hk:P.of.length≤1000000):SoundCall Try.prog F_ref26_Best [.agg (pbC P),iv m] (besA P m):=by
 refine soundW' t_ref26_Best (by simp) ?_
 unfold besA fauE
 simp[c_ref26_Best]
 refine eCall_i (rcheck_s hn hk) (by simp) (by simp) ?_
 by_cases c1:P.chk=0
 ·have hG:=chk_good c1
  obtain ⟨p1,p2,p3⟩:=pow_fact P.cl.length hG.n
  have h64:IntKind.i64.bits=64:=rfl
  by_cases c2:m<0
  ·simp[c1,c2,splice,r_ref26_Best]
   exact AV.imp.refl
  ·by_cases c3:(2:Int)^P.cl.length≤m
   ·simp[c1,c2,c3,eBin_shl shl_n,h64,p1,splice,r_ref26_Best]
    exact AV.imp.refl
   ·obtain ⟨n,rfl,hn256,hnn⟩:∃ n:Nat,m=n∧n<256∧n<2^P.cl.length:=by
     have e:((2^P.cl.length:Nat):Int)=2^P.cl.length:=by rw[Int.natCast_pow]; rfl
     exact ⟨m.toNat,by omega,by omega,by omega⟩
    have hs:=search_s hn hk c1 hn256 P.of 0 [] 0 ([],0) rfl (by omega) (Tr.nil hG) (by omega) (by omega)
    have e0:afts P ⟨bitsN n,P.sup,P.opn⟩ (P.ofs [])=⟨bitsN n,P.sup,P.opn⟩:=rfl
    rw[e0,F_nil hG (nn_sit hG)] at hs
    have e1:P.F P.of 0 ⟨bitsN n,P.sup,P.opn⟩=(chosN P n,worN P n):=Prod.ext (chos_F hG hn256).symm (wor_F hG).symm
    rw[e1] at hs
    simp only[alA] at hs
    simp[c1,c2,c3,eBin_shl shl_n,h64,p1]
    have hs':SoundCall Try.prog F_ref26_search [.agg (pbC P),iv n,iv 0,nilL,iv 0,.agg [nilL,iv 0]] (.agg [clA (ints (chosN P n)),iv (worN P n)]) :=
     imp_args hs (imps_cons AV.imp.refl (imps_cons AV.imp.refl (imps_cons AV.imp.refl (imps_cons (AV.imp_nil rfl) (imps_cons AV.imp.refl (imps_cons (imp_agg (imps_cons (AV.imp_nil rfl) imps_refl)) imps_nil))))))
    refine eCall_i hs' (by simp) (by simp) ?_
    simp[splice,r_ref26_Best]
    exact AV.imp.refl
 ·simp[c1,splice,r_ref26_Best]
  exact AV.imp.refl
theorem rworth_s (hn:P.cl.length≤1000) (hk:P.of.length≤1000000):SoundCall Try.prog F_ref26_Worth [.agg (pbC P),iv m] (.tuple [iv (worE P m),iv (fauE P m)]):=by
 refine sound' t_ref26_Worth (by simp) ?_
 have hb:=rbest_s (m:=m) hn hk
 unfold besA at hb
 unfold worE
 simp[c_ref26_Worth]
 refine eCall_i hb (by simp) (by simp) ?_
 by_cases c:fauE P m=0
 ·simp[c,splice,r_ref26_Worth]
 ·simp[c,splice,r_ref26_Worth]
def stSy (l:List Int) (k:Nat):St:={env:=[(0,clA l),(1,clA l),(5,iv k)],sto:=[]}
theorem sames_s {l:List Int} (hl:l.length<4611686018427387904):SoundCall Try.prog F_law26_same [clA l,clA l] (bv true):=by
 refine sound' t_law26_same (by simp) ?_
 simp[c_law26_same]
 refine awp_forW (stSy l) (fun _=>True) l.length (by simp[stSy]) trivial (fun k hk' _=>?_) (fun _=>?_)
 ·have e:(k:Int)<l.length:=by omega
  have w1:=wrap_succ (k:=k) (by omega)
  simp[c_law26_same_l0,stSy,e,hk',w1]
 ·have key:∀ K:Exit→St→Prop,K (.exit 0) {env:=[(0,clA l),(1,clA l),(5,iv l.length),(14,bv false)],sto:=[]}→awp Try.prog c_law26_same_l0 (stSy l l.length) (lastC K):=by
   intro K h
   simp[c_law26_same_l0,stSy]
   exact h
  refine key _ ?_
  simp[c_law26_same_k1,r_law26_same]
theorem sames_nil:SoundCall Try.prog F_law26_same [nilL,nilL] (bv true):=imp_args (sames_s (l:=[]) (by decide)) (imps2 (AV.imp_nil rfl) (AV.imp_nil rfl))
theorem lworth_s:SoundCall Try.prog F_law26_CoalitionWorth [.agg (pbC P),iv m] (bv true):=by
 refine sound' t_law26_CoalitionWorth (by simp) ?_
 simp[c_law26_CoalitionWorth]
 refine eCall_i (light_s (P:=P) (n:=10)) (by simp) (by simp) ?_
 by_cases c1:(P.of.length:Int)≤10∧P.cl.length≤5
 ·have hn:P.cl.length≤1000:=by omega
  have hk:P.of.length≤1000000:=by omega
  have hw:=worth_s (m:=m) hn hk
  have hb:=best_s (m:=m) hn hk
  have hr:=rbest_s (m:=m) hn hk
  unfold worE at hw
  unfold besA at hb hr
  simp only[decide_eq_true c1]
  simp
  by_cases c:fauE P m=0
  ·rw[c] at hw hb hr
   rw[if_pos rfl] at hw hb hr
   obtain ⟨hG,hc,n,rfl,hn256,hn2⟩:=fau_zero c
   have hl:=okP_len (chos_ok hG hn2 hn256).1
   rw[Int.toNat_natCast] at hw hb hr
   refine eCall_i hw (by simp) (by simp) ?_
   simp
   refine eCall_i hb (by simp) (by simp) ?_
   simp[splice]
   refine eCall_i hr (by simp) (by simp) ?_
   simp[splice]
   refine eCall_i (sames_s (l:=ints (chosN P n)) (by omega)) (by simp) (by simp) ?_
   simp
   refine eCall_i (xs:=[]) (args:=[]) lives_s rfl (.inl rfl) ?_
   simp[r_law26_CoalitionWorth]
  ·rw[if_neg c] at hw hb hr
   refine eCall_i hw (by simp) (by simp) ?_
   simp
   refine eCall_i hb (by simp) (by simp) ?_
   simp[splice]
   refine eCall_i hr (by simp) (by simp) ?_
   simp[splice]
   refine eCall_i sames_nil (by simp) (by simp) ?_
   simp
   refine eCall_i (xs:=[]) (args:=[]) lives_s rfl (.inl rfl) ?_
   simp[r_law26_CoalitionWorth]
 ·simp only[decide_eq_false c1]
  simp
  refine eCall_i (xs:=[]) (args:=[]) lives_s rfl (.inl rfl) ?_
  simp[r_law26_CoalitionWorth]
end
theorem coalitionWorth_contract (xs:List AV) (h:TyAll [tyPb,.int .i64] xs):SoundCall Try.prog F_law26_CoalitionWorth xs (bv true):=by
 obtain ⟨x,y,rfl,h1,h2⟩:=TyAll_two h
 obtain ⟨P,rfl,_⟩:=prob_of h1
 obtain ⟨a,rfl,_⟩:=int_of h2
 exact lworth_s
end Go.Proofs.Ytpmaehfiifinhaa

namespace Go.Proofs.Ytpmaehfiifinhaa
open Go Go.Am Go.Pb
def wtab (P:Pb) (k:Nat):List Int:=(List.range k).map fun m=>worN P m
noncomputable def stTb (P:Pb) (N:Nat) (es:Ents) (k:Nat):St:={env:=[(5,.ptr 1009 0),(6,apc 29 1 (clR (wtab P k))),(18,iv N),(19,iv k)],sto:=solS P es}
noncomputable def stRt (P:Pb) (k:Nat):St:={env:=[(1,.ptr 1 0),(5,apc 31 1 (clR (wtab P k))),(6,iv k)],sto:=[(1,.var (pbC P))]}
def tabA (P:Pb):AV:=.tuple [if P.chk=0 then clA (wtab P (2^P.cl.length)) else nilL,iv P.chk]
section
variable {P:Pb} {k:Nat}
@[simp] theorem tab_len:(wtab P k).length=k:=by simp[wtab]
theorem tab_succ:clR (wtab P k)++[[iv (worN P k)]]=clR (wtab P (k+1)):=by
 unfold wtab
 rw[List.range_succ,List.map_append]
 simp[clR]
theorem pow8:∀ n:Nat,n≤8→IntKind.i64.wrap ((2:Int)^(min n 64))=((2^n:Nat):Int)∧2^n≤256:=by decide +kernel
theorem rtable_s (hn:P.cl.length≤1000) (hk:P.of.length≤1000000):SoundCall Try.prog F_ref26_Table [.agg (pbC P)] (tabA P):=by
 refine soundW' t_ref26_Table (by simp) ?_
 unfold tabA
 simp[c_ref26_Table]
 refine eCall_i (rcheck_s hn hk) (by simp) (by simp) ?_
 by_cases c1:P.chk=0
 ·have hG:=chk_good c1
  obtain ⟨p1,p2⟩:=pow8 _ hG.n
  have h64:IntKind.i64.bits=64:=rfl
  obtain ⟨N,hN⟩:∃ N,2^P.cl.length=N:=⟨_,rfl⟩
  have hwN:∀ m,m<N→SoundCall Try.prog F_ref26_Worth [.agg (pbC P),iv m] (.tuple [iv (worN P m),iv 0]):=fun m h=>by
   have:=rworth_s (m:=(m:Int)) hn hk
   rwa [fau_ok c1 (by omega),wor_ok c1 (by omega)] at this
  rw[hN] at p1 p2
  simp[c1,hN]
  refine awp_forW (stRt P) (fun _=>True) N (by simp[stRt,wtab,clR,apc]) trivial (fun k hk' _=>?_) (fun _=>?_)
  ·have e:(k:Int)<N:=by omega
   have w1:=wrap_succ (k:=k) (by omega)
   simp[c_ref26_Table_l0,stRt,eBin_shl shl_n,h64,p1,e]
   refine eCall_i (hwN k hk') (by simp) (by simp) ?_
   simp
   refine apc_add (by decide) rfl ?_ ?_ (by simp) ?_
   ·simp only[clR_len,tab_len]; omega
   ·simp only[clR_len,tab_len]; omega
   ·have ht:=tab_succ (P:=P) (k:=k)
    rw[ht]
    simp[w1,stRt]
  ·simp[c_ref26_Table_l0,stRt,eBin_shl shl_n,h64,p1,c_ref26_Table_k1,r_ref26_Table]
   exact imp_tup (imps_cons (plc_imp impr_refl) imps_refl)
 ·simp[c1,r_ref26_Table]
  exact AV.imp.refl
theorem table_s (hn:P.cl.length≤1000) (hk:P.of.length≤1000000):SoundCall Try.prog F_coalition_Table [.agg (pbC P)] (tabA P):=by
 refine soundW' t_coalition_Table (by simp) ?_
 unfold tabA
 simp[c_coalition_Table]
 refine eCall_i (check_s hn hk) (by simp) (by simp) ?_
 by_cases c1:P.chk=0
 ·have hG:=chk_good c1
  obtain ⟨p1,p2⟩:=pow8 _ hG.n
  have h64:IntKind.i64.bits=64:=rfl
  obtain ⟨N,hN⟩:∃ N,2^P.cl.length=N:=⟨_,rfl⟩
  rw[hN] at p1 p2
  simp[c1,hN,ok_newSolver]
  refine eCallI_of (newSolverI (P:=P) hG rfl ?_ ?_ lowO_nil ?_)
  ·refine lowS_cons.2 ⟨⟨by omega,?_⟩,lowS_nil⟩
   simp only[pbX_eq]; rfl
  ·simp[lowF_cons,lowF_nil,low_iv,low_bv,low_ptr,low_agg]
  have hr2:anyRef 1 (soC P (lsP P))=false:=by rw[soC_T]; exact soT_ref (by decide)
  simp[eBin_shl shl_n,h64,p1,hr2]
  rw[awp_loop]
  refine ⟨fun M s=>∃ j es',M=N-j∧j≤N∧Good P es'∧s=stTb P N es' j,N,stTb P N [] 0,St.imp_of (by simp[stTb,wtab,clR,apc]),⟨0,[],rfl,Nat.zero_le _,good_nil,rfl⟩,?_⟩
  rintro M s ⟨j,es',rfl,hj,hes',rfl⟩
  by_cases hjl:j<N
  ·have e:(j:Int)<N:=by omega
   have w1:=wrap_succ (k:=j) (by omega)
   simp[c_coalition_Table_l0,stTb,e,ok_start]
   have hap:low 3000 (apc 29 1 (clR (wtab P j)))=true:=low_apc (by omega)
   refine eCallI_of (startI (P:=P) (ls:=lsP P) (B:=3000) rfl (solS_low (P:=P) (es:=es')) ?_ lowO_nil rfl ?_)
   ·simp[lowF_cons,lowF_nil,low_iv,low_ptr,hap]
   simp[ok_best]
   refine eCallI_of (bestI hG j (by omega) P.sup P.opn _ 3000 es' _ _ rfl (solS_low (P:=P) (es:=es')) ?_ lowO_nil (by omega) rfl rfl hes' (rng_sup hG) (rng_opn hG) fun es2 hes2=>?_)
   ·simp[lowF_cons,lowF_nil,low_iv,low_ptr,low_agg,hap]
   have hwj:valN P j P.sup P.opn=worN P j:=rfl
   simp[rhoM,hwj]
   refine apc_add (by decide) rfl ?_ ?_ (by simp) ?_
   ·simp only[clR_len,tab_len]; omega
   ·simp only[clR_len,tab_len]; omega
   ·have ht:=tab_succ (P:=P) (k:=j)
    rw[ht]
    have hdg:(soC P (lsP P)).map (dg 29)=soC P (lsP P):=by rw[soC_T]; exact soT_dg fun j hj=>by omega
    simp[w1,hdg]
    exact ⟨N-(j+1),by omega,_,St.imp.refl,j+1,rfl,by omega,es2,hes2,rfl⟩
  ·have hje:j=N:=by omega
   subst hje
   simp[c_coalition_Table_l0,stTb,c_coalition_Table_k1,r_coalition_Table]
   exact imp_tup (imps_cons (plc_imp impr_refl) imps_refl)
 ·simp[c1,r_coalition_Table]
  exact AV.imp.refl
def stLt (l:List Int) (k:Nat):St:={env:=[(3,clA l),(5,clA l),(7,iv k)],sto:=[]}
def stLz (k:Nat):St:={env:=[(3,nilL),(5,nilL),(7,iv k)],sto:=[]}
theorem ltable_s:SoundCall Try.prog F_law26_CoalitionTable [.agg (pbC P)] (bv true):=by
 refine sound' t_law26_CoalitionTable (by simp) ?_
 simp[c_law26_CoalitionTable]
 refine eCall_i (light_s (P:=P) (n:=7)) (by simp) (by simp) ?_
 by_cases c1:(P.of.length:Int)≤7∧P.cl.length≤5
 ·have hn:P.cl.length≤1000:=by omega
  have hk:P.of.length≤1000000:=by omega
  have ht:=table_s hn hk
  have hr:=rtable_s hn hk
  unfold tabA at ht hr
  simp only[decide_eq_true c1]
  simp
  by_cases c:P.chk=0
  ·rw[if_pos c,c] at ht hr
   obtain ⟨p1,p2⟩:=pow8 P.cl.length (by omega)
   obtain ⟨l,hl,hll⟩:∃ l:List Int,wtab P (2^P.cl.length)=l∧l.length≤256:=⟨_,rfl,by rw[tab_len]; exact p2⟩
   rw[hl] at ht hr
   refine eCall_i ht (by simp) (by simp) ?_
   simp
   refine eCall_i hr (by simp) (by simp) ?_
   simp
   refine awp_forW (stLt l) (fun _=>True) l.length (by simp[stLt]) trivial (fun k hk' _=>?_) (fun _=>?_)
   ·have e:(k:Int)<l.length:=by omega
    have w1:=wrap_succ (k:=k) (by omega)
    simp[c_law26_CoalitionTable_l0,stLt,e,hk',w1]
   ·have key:∀ K:Exit→St→Prop,K (.exit 0) {env:=[(3,clA l),(5,clA l),(7,iv l.length),(35,bv false)],sto:=[]}→awp Try.prog c_law26_CoalitionTable_l0 (stLt l l.length) (lastC K):=by
     intro K h
     simp[c_law26_CoalitionTable_l0,stLt]
     exact h
    refine key _ ?_
    simp[c_law26_CoalitionTable_k1]
    refine eCall_i (xs:=[]) (args:=[]) lives_s rfl (.inl rfl) ?_
    simp[r_law26_CoalitionTable]
  ·rw[if_neg c] at ht hr
   refine eCall_i ht (by simp) (by simp) ?_
   simp
   refine eCall_i hr (by simp) (by simp) ?_
   simp
   refine awp_forW stLz (fun _=>True) 0 (by simp[stLz]) trivial (fun k hk' _=>absurd hk' (Nat.not_lt_zero k)) (fun _=>?_)
   have key:∀ K:Exit→St→Prop,K (.exit 0) {env:=[(3,nilL),(5,nilL),(7,iv 0),(35,bv false)],sto:=[]}→awp Try.prog c_law26_CoalitionTable_l0 (stLz 0) (lastC K):=by
    intro K h
    simp[c_law26_CoalitionTable_l0,stLz]
    exact h
   refine key _ ?_
   simp[c_law26_CoalitionTable_k1]
   refine eCall_i (xs:=[]) (args:=[]) lives_s rfl (.inl rfl) ?_
   simp[r_law26_CoalitionTable]
 ·simp only[decide_eq_false c1]
  simp
  refine eCall_i (xs:=[]) (args:=[]) lives_s rfl (.inl rfl) ?_
  simp[r_law26_CoalitionTable]
end
theorem coalitionTable_contract (xs:List AV) (h:TyAll [tyPb] xs):SoundCall Try.prog F_law26_CoalitionTable xs (bv true):=by
 obtain ⟨x,rfl,h1⟩:=TyAll_one h
 obtain ⟨P,rfl,_⟩:=prob_of h1
 exact ltable_s
end Go.Proofs.Ytpmaehfiifinhaa
