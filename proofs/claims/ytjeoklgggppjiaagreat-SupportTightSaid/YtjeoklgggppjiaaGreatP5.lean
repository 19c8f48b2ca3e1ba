/- What the proof rests on, part 5: Am22 Am23 Am24 Am25 Am26 Am27 Am28 Am39 Am40. -/
import Derived.Test.YtjeoklgggppjiaaGreatP4
import Derived.Scope
import Derived.ScopeJumps
import Derived.Deep.LoopGhost
import Derived.OpenShut
import Derived.SizedLaws
import Derived.Carry
import Derived.ProofKit
set_option maxRecDepth 100000
set_option maxHeartbeats 4000000
namespace Go.Am
open Go.RowKit
section
variable {P:Program} {F:zX}
def Z0 (c:Code):Exit→Bool
 | .normal=>true
 | .exit _=>true
 | .ret=>true
 | .goto _=>tm c
 | _=>false
theorem N2 {p:Nat→Prop}:∀ n,p n→∃ m,p m∧∀ k,p k→m≤k:=by
 intro n
 induction n using Nat.strongRecOn with
 | ind n ih =>
  intro hn
  by_cases h:∃ m,m<n∧p m
  ·obtain ⟨m,hm,hp⟩:=h; exact ih m hm hp
  ·exact ⟨n,hn,fun k hk=>Nat.le_of_not_lt fun hlt=>h ⟨k,hlt,hk⟩⟩
open Classical in
noncomputable def TQ (J:Nat→Act→World→Prop) (a:Act) (w:World):Nat:=if h:∃ n,J n a w then Classical.choose (N2 (p:=fun n=>J n a w) h.choose h.choose_spec) else 0
theorem XH {J:Nat→Act→World→Prop} {a:Act} {w:World} (h:∃ n,J n a w):J (TQ J a w) a w∧∀ k,J k a w→TQ J a w≤k:=by
 unfold TQ
 rw[dif_pos h]
 exact Classical.choose_spec (N2 (p:=fun n=>J n a w) h.choose h.choose_spec)
theorem Xp {ac:zc} {draw:Bool} {l:List zh} (h:zc.region draw [] l [] []=bare ac):∃ FK D DK l',ac=.region draw FK l' D DK∧l=l'.map (yg draw):=by
 cases ac<;>simp only[bare,reduceCtorEq,zc.region.injEq] at h
 obtain ⟨rfl,_,rfl,_,_⟩:=h
 exact ⟨_,_,_,_,rfl,rfl⟩
def ge (P:Program) (F:zX) (c:Code):Prop:=∀ (ac:zc),yd P F.N c=some (bare ac)→∀ {s:St} {a:Act} {w:World} {K:Exit→St→Prop} {Q:Exit→Act→World→Prop},Holds F s a w→awp P ac s K →
  (∀ e s' a' w',Z0 c e=true→K e s'→Holds F s' a' w'→Q e a' w')→c.wp P Q a w
theorem LL:∀ (c:Code),ge P F c∧∀ l r,c=.seq (.label l) r→ge P F (.seq .skip r)∧ge P F r:=by
 intro c
 induction c with
 | skip =>
  refine ⟨?_,fun l r e=>by cases e⟩
  intro ac htr s a w K Q hH h hk
  simp only[yd,Option.some.injEq] at htr
  cases ac<;>simp only[bare,reduceCtorEq] at htr
  exact wp_skip (hk _ _ _ _ rfl h hH)
 | region id ops draw =>
  refine ⟨?_,fun l r e=>by cases e⟩
  intro ac htr s a w K Q hH h hk
  simp only[yd] at htr
  split at htr
  ·rename_i l hl
   split at htr
   ·rename_i hd
    simp only[Option.some.injEq] at htr
    obtain ⟨FK,D,DK,l',rfl,rfl⟩:=Xp htr
    simp only[awp] at h
    obtain ⟨s0,h,hH⟩:=aX FK hH h
    have hk':∀ s' a' w',(YQ (s'.drop D) DK fun s''=>K .normal s'')→Holds F s' a' w'→Q .normal a' w':=by
     intro s' a' w' hK hH'
     obtain ⟨s'',h1,h2⟩:=XG (bz hH') hK
     exact hk _ _ _ _ rfl h1 h2
    cases draw with
    | false=>exact wp_region_list (Fq ops ops.toList _ hl hH h hk')
    | true=>exact No hl (by simp only[Bool.true_eq_false,false_or] at hd; exact hd.1) hH h hk'
   ·rename_i hnd
    split at htr
    ·rename_i hm
     simp only[Option.some.injEq] at htr
     obtain ⟨FK,D,DK,l',rfl,he⟩:=Xp htr
     simp only[awp] at h
     obtain ⟨s0,h,hH⟩:=aX FK hH h
     have hk':∀ s' a' w',(YQ (s'.drop D) DK fun s''=>K .normal s'')→Holds F s' a' w'→Q .normal a' w':=by
      intro s' a' w' hK hH'
      obtain ⟨s'',h1,h2⟩:=XG (bz hH') hK
      exact hk _ _ _ _ rfl h1 h2
     cases draw with
     | false=>exact absurd (.inl rfl) hnd
     | true=>exact Md (ada hl) (fun i f ds e=>(acV hl e).trans B3.symm) hm he hH h hk'
    ·cases htr
  ·cases htr
 | seq x y ihx ihy =>
  refine ⟨?_,?_⟩
  ·intro ac htr s a w K Q hH h hk
   simp only[yd] at htr
   split at htr
   ·rename_i bx by_ hx hy
    simp only[Option.some.injEq] at htr
    cases ac<;>simp only[bare,reduceCtorEq,zc.seq.injEq] at htr
    rename_i ax ay
    obtain ⟨rfl,rfl⟩:=htr
    simp only[awp] at h
    refine wp_seq (ihx.1 ax hx hH h fun e s' a' w' hne hK hH'=>?_)
    cases e with
    | normal=>exact ihy.1 ay hy hH' hK fun e s' a' w' hne=>hk e s' a' w' (by cases e<;>simp_all [Z0,tm])
    | exit id=>exact hk _ _ _ _ rfl hK hH'
    | ret=>exact hk _ _ _ _ rfl hK hH'
    | goto l=>exact hk _ _ _ _ (by simp only[Z0,tm,Bool.or_eq_true] at hne ⊢; exact .inl hne) hK hH'
    | panic ch=>cases hne
    | outgrown=>cases hne
   ·cases htr
  ·intro l r e
   cases e
   refine ⟨?_,ihy.1⟩
   intro ac htr s a w K Q hH h hk
   simp only[yd] at htr
   split at htr
   ·rename_i bx by_ hx hy
    simp only[Option.some.injEq] at hx
    subst hx
    simp only[Option.some.injEq] at htr
    cases ac<;>simp only[bare,reduceCtorEq,zc.seq.injEq] at htr
    rename_i ax ay
    obtain ⟨hx,rfl⟩:=htr
    cases ax<;>simp only[bare,reduceCtorEq] at hx
    simp only[awp,MO] at h
    exact wp_seq (wp_skip (ihy.1 ay hy hH h fun e s' a' w' hne=>hk e s' a' w' (by cases e<;>simp_all [Z0,tm])))
   ·cases htr
 | cond c x y ihx ihy =>
  refine ⟨?_,fun l r e=>by cases e⟩
  intro ac htr s a w K Q hH h hk
  simp only[yd] at htr
  split at htr
  ·rename_i bx by_ hx hy
   simp only[Option.some.injEq] at htr
   cases ac<;>simp only[bare,reduceCtorEq,zc.cond.injEq] at htr
   rename_i c' ax ay
   obtain ⟨rfl,rfl,rfl⟩:=htr
   simp only[awp] at h
   split at h
   ·rename_i b hb
    have hc:a.eval c=.bool b:=by
     obtain ⟨I,β,lam,hI⟩:=hH
     have:=hI.opd c
     rw[hb] at this
     exact this.val_eq
    exact wp_cond_split hc (fun e=>ihx.1 ax hx hH (h.1 e) fun e s' a' w' hne=>hk e s' a' w' (by cases e<;>simp_all [Z0,tm])) (fun e=>ihy.1 ay hy hH (h.2 e) fun e s' a' w' hne=>hk e s' a' w' (by cases e<;>simp_all [Z0,tm]))
   ·exact h.elim
  ·cases htr
 | block id c ih =>
  refine ⟨?_,fun l r e=>by cases e⟩
  intro ac htr s a w K Q hH h hk
  simp only[yd,Option.map_eq_some_iff] at htr
  obtain ⟨bc,hc,htr⟩:=htr
  cases ac<;>simp only[bare,reduceCtorEq,zc.block.injEq] at htr
  rename_i id' ac'
  obtain ⟨rfl,rfl⟩:=htr
  simp only[awp] at h
  refine wp_block (ih.1 ac' hc hH h fun e s' a' w' hne hK hH'=>?_)
  cases e with
  | normal=>exact hk _ _ _ _ rfl hK hH'
  | exit i =>
   simp only[Te] at hK
   simp only[Exit.inBlock]
   split
   ·rename_i e; rw[if_pos e] at hK; exact hk _ _ _ _ rfl hK hH'
   ·rename_i e; rw[if_neg e] at hK; exact hk _ _ _ _ rfl hK hH'
  | ret=>exact hk _ _ _ _ rfl hK hH'
  | goto l=>exact hk _ _ _ _ hne hK hH'
  | panic ch=>cases hne
  | outgrown=>cases hne
 | loop c ih =>
  refine ⟨?_,fun l r e=>by cases e⟩
  intro ac htr s a w K Q hH h hk
  simp only[yd,Option.map_eq_some_iff] at htr
  obtain ⟨bc,hc,htr⟩:=htr
  cases ac<;>simp only[bare,reduceCtorEq,zc.loop.injEq] at htr
  rename_i ac'
  subst htr
  simp only[awp] at h
  obtain ⟨J,n,s0,hi,h0,h⟩:=h
  refine wp_loop_ghost (fun n a w=>∃ s,Holds F s a w∧J n s) n ⟨s0,hi F a w hH,h0⟩ fun n a w ⟨s,hH,hJ⟩=>?_
  refine ih.1 ac' hc hH (h n s hJ) fun e s' a' w' hne hK hH'=>?_
  cases e with
  | normal =>
   obtain ⟨m,s2,hm,hi2,hJ'⟩:=hK
   exact ⟨m,hm,s2,hi2 F a' w' hH',hJ'⟩
  | exit id=>exact hk _ _ _ _ rfl hK hH'
  | ret=>exact hk _ _ _ _ rfl hK hH'
  | goto l=>exact hk _ _ _ _ hne hK hH'
  | panic ch=>cases hne
  | outgrown=>cases hne
 | rangeFunc f ps x y =>
  refine ⟨?_,fun l r e=>by cases e⟩
  intro ac htr; simp[yd] at htr
 | exit id =>
  refine ⟨?_,fun l r e=>by cases e⟩
  intro ac htr s a w K Q hH h hk
  simp only[yd,Option.some.injEq] at htr
  cases ac<;>simp only[bare,reduceCtorEq,zc.exit.injEq] at htr
  subst htr
  exact wp_exit (hk _ _ _ _ rfl h hH)
 | scope c ih =>
  refine ⟨?_,fun l r e=>by cases e⟩
  have straight:∀ ac,tm c=false→yd P F.N c=some (bare ac)→∀ {s:St} {a:Act} {w:World} {K:Exit→St→Prop} {Q:Exit→Act→World→Prop},Holds F s a w→awp P ac s K →
    (∀ e s' a' w',Z0 (.scope c) e=true→K e s'→Holds F s' a' w'→Q e a' w')→(Code.scope c).wp P Q a w:=by
   intro ac hg htr s a w K Q hH h hk
   refine wp_scope_straight (ih.1 ac htr hH h fun e s' a' w' hne hK hH'=>?_)
   cases e with
   | normal=>exact hk _ _ _ _ rfl hK hH'
   | exit i=>exact hk _ _ _ _ rfl hK hH'
   | ret=>exact hk _ _ _ _ rfl hK hH'
   | goto l=>simp only[Z0,hg] at hne; cases hne
   | panic ch=>cases hne
   | outgrown=>cases hne
  have other:(∀ l r,c≠.seq (.label l) r)→ge P F (.scope c):=by
   intro hne ac htr
   rw[yd.eq_def] at htr
   split at htr<;>first | (rename_i heq; cases heq; done) | skip
   all_goals first
    | (cases htr; done)
    | (rename_i l r heq; cases heq; exact absurd rfl (hne _ _))
    | (
      rename_i c' _ heq
      cases heq
      split at htr
      ·cases htr
      ·rename_i hg
       exact straight ac (by simpa using hg) htr)
  cases c with
  | seq x r =>
   cases x with
   | label l =>
    intro ac htr s a w K Q hH h hk
    simp only[yd] at htr
    split at htr
    ·rename_i hg
     simp only[Option.map_eq_some_iff] at htr
     obtain ⟨br,hr,htr⟩:=htr
     cases ac<;>simp only[bare,reduceCtorEq,zc.again.injEq] at htr
     rename_i l' ar
     obtain ⟨rfl,rfl⟩:=htr
     simp only[awp] at h
     obtain ⟨J,n,s0,hi,h0,h⟩:=h
     have ihr:=ih.2 _ _ rfl
     have step:∀ n s a w,Holds F s a w→J n s→∀ {c:Code} {ac:zc},ge P F c→yd P F.N c=some (bare ac)→(∀ K,awp P ar s K→awp P ac s K) →
       c.wp P (Exit.jump l (fun a' w'=>∃ m,m<n∧∃ s',Holds F s' a' w'∧J m s') Q) a w:=by
      intro n s a w hH hJ c ac hS htr hto
      refine hS ac htr hH (hto _ (h n s hJ)) fun e s' a' w' hne hK hH'=>?_
      cases e with
      | normal=>exact hk _ _ _ _ rfl hK hH'
      | exit i=>exact hk _ _ _ _ rfl hK hH'
      | ret=>exact hk _ _ _ _ rfl hK hH'
      | goto i =>
       obtain ⟨rfl,m,s2,hm,hi2,hJ'⟩:=hK
       exact ⟨rfl,m,hm,s2,hi2 F a' w' hH',hJ'⟩
      | panic ch=>cases hne
      | outgrown=>cases hne
     let J':Nat→Act→World→Prop:=fun m a w=>∃ s,Holds F s a w∧J m s
     refine wp_scope_jumps (rest:=.seq .skip r) l (fun a w=>∃ m,J' m a w) (TQ J') (by simp[findLabel]) ?_ ?_
     ·have:=step n s0 a w (hi F a w hH) h0 (c:=.seq (.label l) r) (ac:=.seq .skip ar) ih.1 (by simp only[yd,hr]; rfl) (fun K h=>by simpa only[awp,MO] using h)
      refine wp_mono this ?_
      intro e a' w' hq
      cases e with
      | goto i=>obtain ⟨e1,m,_,s',h1,h2⟩:=hq; exact ⟨e1,m,s',h1,h2⟩
      | _=>exact hq
     ·intro a w hJ
      obtain ⟨⟨s1,h1,h2⟩,hmin⟩:=XH hJ
      have:=step _ s1 a w h1 h2 (c:=.seq .skip r) (ac:=.seq .skip ar) ihr.1 (by simp only[yd,hr]; rfl) (fun K h=>by simpa only[awp,MO] using h)
      refine wp_mono this ?_
      intro e a' w' hq
      cases e with
      | goto i =>
       obtain ⟨e1,m,hm,s',h3,h4⟩:=hq
       refine ⟨e1,⟨m,s',h3,h4⟩,?_⟩
       have:=(XH (J:=J') ⟨m,s',h3,h4⟩).2 m ⟨s',h3,h4⟩
       omega
      | _=>exact hq
    ·rename_i hg
     have htr':yd P F.N (.seq (.label l) r)=some (bare ac):=by
      simp only[Option.map_eq_some_iff] at htr
      obtain ⟨br,hr,htr⟩:=htr
      simp only[yd,hr,htr]
     exact straight ac (by simpa [tm] using hg) htr' hH h hk
   | _=>exact other (by intros; simp)
  | _=>exact other (by intros; simp)
 | label l =>
  refine ⟨?_,fun l r e=>by cases e⟩
  intro ac htr s a w K Q hH h hk
  simp only[yd,Option.some.injEq] at htr
  cases ac<;>simp only[bare,reduceCtorEq] at htr
  exact wp_label (hk _ _ _ _ rfl h hH)
 | goto l =>
  refine ⟨?_,fun l r e=>by cases e⟩
  intro ac htr s a w K Q hH h hk
  simp only[yd,Option.some.injEq] at htr
  cases ac<;>simp only[bare,reduceCtorEq,zc.goto.injEq] at htr
  subst htr
  exact wp_goto (hk _ _ _ _ rfl h hH)
 | ret =>
  refine ⟨?_,fun l r e=>by cases e⟩
  intro ac htr s a w K Q hH h hk
  simp only[yd,Option.some.injEq] at htr
  cases ac<;>simp only[bare,reduceCtorEq] at htr
  exact wp_ret (hk _ _ _ _ rfl h hH)
 | refuse why =>
  refine ⟨?_,fun l r e=>by cases e⟩
  intro ac htr; simp[yd] at htr
theorem jW (c:Code):ge P F c:=(LL c).1
inductive zw where
 | t (n:Nat)
 | cell (n:Nat) (k:Option Nat)
def uB (P:Program):ResultVar→Option zw
 | .tmp t=>some (.t t)
 | .cell a t=>(ldT P t).map (.cell a)
def UH (s:St):zw→Option AV
 | .t n=>wM (lk s.sto) (s.get n)
 | .cell n k=>match s.get n with
  | .ptr j off=>match lk s.sto j with
   | some (.var cells)=>match zB cells off k with
    | some x=>wM (lk s.sto) x
    | none=>none
   | _=>none
  | _=>none
def sI (l:List zw) (s:St):Option AV :=
 match yu (UH s) l with
 | some [x]=>some x
 | some xs=>some (.tuple xs)
 | none=>none
def vg:Nat→List AV→List (Nat × AV)
 | _,[]=>[]
 | i,x::xs=>(i,x)::vg (i+1) xs
theorem bF:∀ (xs:List AV) (i t:Nat) (x:AV),lk (vg i xs) t=some x→∃ j,t=i+j∧xs[j]?=some x:=by
 intro xs
 induction xs with
 | nil=>intro i t x h; simp[vg,lk] at h
 | cons y xs ih =>
  intro i t x h
  simp only[vg,lk] at h
  split at h
  ·rename_i e
   exact ⟨0,by omega,by simpa using h⟩
  ·obtain ⟨j,h1,h2⟩:=ih _ _ _ h
   exact ⟨j+1,by omega,by simpa using h2⟩
def jp (tmps:Array Value):ResultVar→Sem Value
 | .tmp t=>pure (tmps.getD t undef)
 | .cell p t=>do loadVar t (← asAddr (tmps.getD p undef))
def lS (s:St):zw→Option AV
 | .t n=>some (strip (s.get n))
 | .cell n k=>match s.get n with
  | .ptr j off=>match lk s.sto j with
   | some (.var cells)=>(zB cells off k).map strip
   | _=>none
  | _=>none
def tup:List AV→AV
 | [x]=>x
 | xs=>.tuple xs
theorem MG {l:List zw} {s:St} {r:AV} (h:sI l s=some r):∃ xs,yu (UH s) l=some xs∧r=tup xs:=by
 unfold sI at h
 split at h
 ·rename_i x hx
  simp only[Option.some.injEq] at h
  exact ⟨[x],hx,h.symm⟩
 ·rename_i xs hne hx
  simp only[Option.some.injEq] at h
  refine ⟨xs,hx,?_⟩
  match xs,hne with
  | [],_=>exact h.symm
  | [x],hne=>exact absurd rfl (hne x)
  | _::_::_,_=>exact h.symm
 ·cases h
theorem adL {s:St} {a:Act} {w:World} {I:Nat→Nat→Prop} {β:zS} {lam:z5} (hI:Inv F s.look (lk s.sto) I β lam a w) {rv:ResultVar} {ra:zw} {x:AV} (htr:uB P rv=some ra) (hx:lS s ra=some x) :
  ∃ v,(jp a.tmps rv).run P w=.ok v w∧R I w β lam x v∧∃ y,x=strip y:=by
 have hget:∀ n,R I w β lam (s.get n) (a.tmps.getD n undef):=fun n=>hI.opd (.tmp n)
 cases rv with
 | tmp t =>
  simp only[uB,Option.some.injEq] at htr
  subst htr
  simp only[lS,Option.some.injEq] at hx
  subst hx
  exact ⟨_,rfl,(hget t).strip,_,rfl⟩
 | cell p t =>
  simp only[uB,Option.map_eq_some_iff] at htr
  obtain ⟨k,hk,rfl⟩:=htr
  simp only[lS] at hx
  split at hx
  ·rename_i j off hp
   split at hx
   ·rename_i cells hs
    simp only[Option.map_eq_some_iff] at hx
    obtain ⟨y,hy,rfl⟩:=hx
    have hR:=hget p
    rw[hp] at hR
    obtain ⟨b,hb,hv⟩:=hR.ptr_inv
    have hE:=hI.hread _ _ _ hs hb
    obtain ⟨v,hr,hRv⟩:=Us (o:=0) hk hy (fun j c hj=>by
     obtain ⟨v,h1,_,h3,h4⟩:=hE j c hj
     exact ⟨v,by rw[Nat.zero_add]; exact h1,h3,h4⟩)
    rw[Nat.zero_add] at hr
    refine ⟨v,?_,hRv.strip,_,rfl⟩
    simp only[Instr.loadAt,Instr.sureAddr,Sem.run_bind,Sem.run_pure,Result.andThen_ok] at hr
    simp only[jp,hv,asAddr,Sem.run_bind,Sem.run_pure,Result.andThen_ok]
    exact hr
   ·cases hx
  ·cases hx
theorem JL {s:St} {a:Act} {w:World} {I:Nat→Nat→Prop} {β:zS} {lam:z5} (hI:Inv F s.look (lk s.sto) I β lam a w) {rv:ResultVar} {ra:zw} {x:AV} (htr:uB P rv=some ra) (hx:UH s ra=some x) :
  ∃ v,(jp a.tmps rv).run P w=.ok v w∧R0 (Seen I β lam) w x v:=by
 have hget:∀ n,R I w β lam (s.get n) (a.tmps.getD n undef):=fun n=>hI.opd (.tmp n)
 cases rv with
 | tmp t =>
  simp only[uB,Option.some.injEq] at htr
  subst htr
  exact ⟨_,rfl,(gw hI.hread hI.usto hx (hget t)).1⟩
 | cell p t =>
  simp only[uB,Option.map_eq_some_iff] at htr
  obtain ⟨k,hk,rfl⟩:=htr
  simp only[UH] at hx
  split at hx
  ·rename_i j off hp
   split at hx
   ·rename_i cells hs
    split at hx
    ·rename_i y hy
     have hR:=hget p
     rw[hp] at hR
     obtain ⟨b,hb,hv⟩:=hR.ptr_inv
     have hE:=hI.hread _ _ _ hs hb
     obtain ⟨v,hr,hRv⟩:=Us (o:=0) hk hy (fun j c hj=>by
      obtain ⟨v,h1,_,h3,h4⟩:=hE j c hj
      exact ⟨v,by rw[Nat.zero_add]; exact h1,h3,h4⟩)
     rw[Nat.zero_add] at hr
     refine ⟨v,?_,(gw hI.hread hI.usto hx hRv).1⟩
     simp only[Instr.loadAt,Instr.sureAddr,Sem.run_bind,Sem.run_pure,Result.andThen_ok] at hr
     simp only[jp,hv,asAddr,Sem.run_bind,Sem.run_pure,Result.andThen_ok]
     exact hr
    ·cases hx
   ·cases hx
  ·cases hx
theorem Kh {rd:zw→Option AV} {Rel:AV→Value→Prop} {tmps:Array Value} {w:World} (hrd:∀ rv ra x,uB P rv=some ra→rd ra=some x→∃ v,(jp tmps rv).run P w=.ok v w∧Rel x v) :
  ∀ (rvs:List ResultVar) (ras:List zw) (xs:List AV),
  yu (uB P) rvs=some ras→yu rd ras=some xs →
  ∃ vs:List Value,(rvs.mapM (jp tmps)).run P w=.ok vs w ∧
   vs.length=xs.length∧∀ (i:Nat) (x:AV),xs[i]?=some x→∃ v,vs[i]?=some v∧Rel x v:=by
 intro rvs
 induction rvs with
 | nil =>
  intro ras xs h1 h2
  simp only[yu,Option.some.injEq] at h1
  subst h1
  simp only[yu,Option.some.injEq] at h2
  subst h2
  exact ⟨[],rfl,rfl,fun i x h=>by simp at h⟩
 | cons rv rvs ih =>
  intro ras xs h1 h2
  simp only[yu] at h1
  split at h1
  ·rename_i ra hra
   simp only[Option.map_eq_some_iff] at h1
   obtain ⟨ras',h1,rfl⟩:=h1
   simp only[yu] at h2
   split at h2
   ·rename_i x hx
    simp only[Option.map_eq_some_iff] at h2
    obtain ⟨xs',h2,rfl⟩:=h2
    obtain ⟨v,hv,hR⟩:=hrd rv ra x hra hx
    obtain ⟨vs,g1,g2,g3⟩:=ih ras' xs' h1 h2
    refine ⟨v::vs,?_,by simp[g2],fun i x' hi=>?_⟩
    ·rw[List.mapM_cons,Sem.run_bind,hv]
     simp only[Result.andThen_ok,Sem.run_bind,g1,Sem.run_pure]
    ·cases i with
     | zero=>simp at hi; subst hi; exact ⟨v,rfl,hR⟩
     | succ i=>simp at hi; simpa using g3 i x' hi
   ·cases h2
  ·cases h1
theorem kF {fn:Func} {rd:zw→Option AV} {Rel:AV→Value→Prop} {tmps:Array Value} {w:World} (hrd:∀ rv ra x,uB P rv=some ra→rd ra=some x→∃ v,(jp tmps rv).run P w=.ok v w∧Rel x v)
  (htup:∀ (xs:List AV) (vs:Array Value),yu rd (Option.getD (yu (uB P) fn.results.toList) [])=some xs→vs.size=xs.length→(∀ i x,xs[i]?=some x→Rel x (vs.getD i undef))→Rel (.tuple xs) (.tuple vs))
  {ras:List zw} {xs:List AV} (h1:yu (uB P) fn.results.toList=some ras) (h2:yu rd ras=some xs):∃ v,(results fn tmps).run P w=.ok v w∧Rel (tup xs) v:=by
 obtain ⟨vl,g1,g2,g3⟩:=Kh hrd fn.results.toList ras xs h1 h2
 rw[h1] at htup
 simp only[Option.getD_some] at htup
 refine ⟨if h:vl.toArray.size=1 then vl.toArray[0] else .tuple vl.toArray,?_,?_⟩
 ·have e:results fn tmps=(fn.results.mapM (jp tmps) >>= fun vs=>pure (if h:vs.size=1 then vs[0] else .tuple vs)):=by
   unfold results
   congr 1
   first | done | (congr 1; funext x; cases x<;>rfl)
  rw[e,Array.mapM_eq_mapM_toList,Sem.run_bind,Sem.run_map,g1]
  rfl
 ·have gt:∀ i x,xs[i]?=some x→Rel x (vl.toArray.getD i undef):=fun i x hi=>by
   obtain ⟨v,hv,hRv⟩:=g3 i x hi
   have:vl.toArray.getD i undef=v:=by simp[hv]
   rw[this]
   exact hRv
  match xs,g2,g3,h2,gt with
  | [x],g2,g3,h2,gt =>
   obtain ⟨v,hv,hRv⟩:=g3 0 x rfl
   have hvl:vl=[v]:=by
    match vl,g2,hv with
    | [v'],_,hv=>simp at hv; rw[hv]
   subst hvl
   simp only[List.size_toArray,List.length_cons,List.length_nil,dite_true]
   exact hRv
  | [],g2,g3,h2,gt =>
   have hvl:vl=[]:=by simpa using g2
   subst hvl
   exact htup [] #[] h2 rfl (fun i c h=>by simp at h)
  | x::y::xs,g2,g3,h2,gt =>
   have hne:¬ vl.toArray.size=1:=by simp at g2 ⊢; omega
   rw[dif_neg hne]
   exact htup _ _ h2 (by simpa using g2) gt
theorem AG {α γ:Type} {f:α→Option γ}:∀ {l:List α} {l':List γ},yu f l=some l'→∀ y∈l',∃ x∈l,f x=some y:=by
 intro l
 induction l with
 | nil=>intro l' h; simp only[yu,Option.some.injEq] at h; subst h; simp
 | cons x l ih =>
  intro l' h
  simp only[yu] at h
  split at h
  ·rename_i y hy
   simp only[Option.map_eq_some_iff] at h
   obtain ⟨l2,h2,rfl⟩:=h
   intro z hz
   rcases List.mem_cons.1 hz with rfl | hz
   ·exact ⟨x,by simp,hy⟩
   ·obtain ⟨x',h3,h4⟩:=ih h2 z hz
    exact ⟨x',by simp[h3],h4⟩
  ·cases h
theorem Pe {x:AV} {sz l:Nat} {rows:List (List AV)}:strip x≠.list sz (.own l) rows:=by
 cases x<;>simp only[strip,ne_eq,reduceCtorEq,not_false_eq_true]
 rename_i sz' m rows'
 cases m<;>simp
theorem Ff {s:St} {ra:zw} {x:AV} (h:lS s ra=some x):∃ y,x=strip y:=by
 cases ra with
 | t n =>
  simp only[lS,Option.some.injEq] at h
  exact ⟨_,h.symm⟩
 | cell n k =>
  simp only[lS] at h
  split at h
  ·split at h
   ·simp only[Option.map_eq_some_iff] at h
    obtain ⟨y,_,rfl⟩:=h
    exact ⟨_,rfl⟩
   ·cases h
  ·cases h
theorem BJ {f:FuncId} {fn:Func} {code:Code} {ac:zc} {ras:List zw} {args:List AV} {s:St} {K:AV→St→Prop} (B:Nat) (hf:P.funcs[f]?=some fn) (hb:fn.body=some code)
  (htr:yd P fn.ntmps code=some (bare ac)) (hres:yu (uB P) fn.results.toList=some ras) (hn:args.length≤fn.ntmps)
  (h:awp P ac {env:=vg 0 args,sto:=s.sto,out:=s.env::s.out,base:=B} fun e s'=>(e=.normal∨e=.ret)∧∃ xs e0 o0,yu (lS s') ras=some xs∧s'.out=e0::o0∧K (tup xs) {env:=e0,sto:=s'.sto,out:=o0,base:=s.base}):z0 P f args s K:=by
 intro F a w I β lam hI vs hs hR
 refine calls_of_wp hf hb ?_
 have hH:Holds {w0:=F.w0,I0:=F.I0,N:=fn.ntmps,outs:=a.tmps::F.outs} {env:=vg 0 args,sto:=s.sto,out:=s.env::s.out,base:=B} {tmps:=vs++Array.replicate (fn.ntmps-vs.size) undef,defers:=[]} w:=by
  refine ⟨I,β,lam,?_⟩
  refine {hI with defers:=rfl,size:=by simp; omega,env:=fun t x ht=>?_}
  obtain ⟨d,t⟩:=t
  cases d with
  | zero =>
   obtain ⟨j,rfl,hj⟩:=bF _ _ _ _ ht
   have hlt:j<vs.size:=by
    have:=(List.getElem?_eq_some_iff.1 hj).1
    omega
   refine ⟨vs.getD j undef,?_,hR j x hj⟩
   simp only[zX.val]
   rw[Nat.zero_add,Array.getElem?_append_left hlt]
   simp[hlt]
  | succ d =>
   cases d with
   | zero =>
    obtain ⟨v,h1,h2⟩:=hI.env (0,t) x ht
    exact ⟨v,h1,h2⟩
   | succ d =>
    obtain ⟨v,h1,h2⟩:=hI.env (d+1,t) x ht
    exact ⟨v,h1,h2⟩
 refine jW (F:={w0:=F.w0,I0:=F.I0,N:=fn.ntmps,outs:=a.tmps::F.outs}) code ac htr hH h fun e s' a' w' _ hK hH'=>?_
 obtain ⟨he,xs,e0,o0,hxs,hout,hK⟩:=hK
 obtain ⟨I',β',lam',hI'⟩:=hH'
 obtain ⟨v,hrun,hRv⟩:=kF (fn:=fn) (rd:=lS s') (Rel:=R I' w' β' lam') (fun rv ra x h1 h2=>by
   obtain ⟨v,g1,g2,_⟩:=adL hI' h1 h2
   exact ⟨v,g1,g2⟩) (fun xs vs h1 h2 h3=>by
   refine .tuple xs vs h2 (fun sz l rows hm=>?_) h3
   obtain ⟨ra,_,hra⟩:=AG h1 _ hm
   obtain ⟨y,hy⟩:=Ff hra
   exact Pe hy.symm) hres hxs
 have hpop:Inv F (St.look {env:=e0,sto:=s'.sto,out:=o0,base:=s.base}) (lk s'.sto) I' β' lam' a w':=by
  refine {hI' with defers:=hI.defers,size:=hI.size,env:=fun t x ht=>?_}
  have key:s'.look (t.1+1,t.2)=some x:=by
   obtain ⟨d,t⟩:=t
   simp only[St.look,hout] at ht ⊢
   cases d with
   | zero=>exact ht
   | succ d=>exact ht
  obtain ⟨v,h1,h2⟩:=hI'.env _ x key
  refine ⟨v,?_,h2⟩
  obtain ⟨d,t⟩:=t
  cases d with
  | zero=>exact h1
  | succ d=>exact h1
 have hpost:a'.defers=[]∧∃ v,(results fn a'.tmps).run P w'=.ok v w'∧∃ u,Ending.returned v=.returned u∧∃ r s' I' β' lam',K r s'∧Inv F s'.look (lk s'.sto) I' β' lam' a w'∧R I' w' β' lam' r u :=
  ⟨hI'.defers,v,hrun,v,rfl,tup xs,_,I',β',lam',hK,hpop,hRv⟩
 rcases he with rfl | rfl
 ·exact hpost
 ·exact hpost
def AV.imp (x y:AV):Prop:=∀ (I:Nat→Nat→Prop) (w:World) (v:Value),R0 I w x v→R0 I w y v
theorem AV.imp.refl {x:AV}:AV.imp x x:=fun _ _ _ h=>h
theorem abd {f:FuncId} {fn:Func} {code:Code} {ac:zc} {ras:List zw} {args:List AV} {r:AV} {K:Exit→St→Prop} (hK0:∀ e s,K e s→(e=.normal∨e=.ret)∧∃ r0,sI ras s=some r0∧AV.imp r0 r) (hf:P.funcs[f]?=some fn) (hb:fn.body=some code)
  (htr:yd P fn.ntmps code=some (bare ac)) (hres:yu (uB P) fn.results.toList=some ras) (hn:args.length≤fn.ntmps)
  (h:awp P ac {env:=vg 0 args,sto:=[]} K):zd P f args r:=by
 intro I vs w hI hs hR
 refine calls_of_wp hf hb ?_
 have hH:Holds {w0:=w,I0:=I,N:=fn.ntmps} {env:=vg 0 args,sto:=[]} {tmps:=vs++Array.replicate (fn.ntmps-vs.size) undef,defers:=[]} w:=by
  refine ⟨I,fun _=>none,fun _=>none,?_⟩
  refine
   {defers:=rfl
    size:=by simp; omega
    below:=Below.refl _ _
    env:=fun t x ht=>?_
    sto:=fun k en hk=>by simp[lk] at hk
    usto:=fun l sz rows hk=>by simp[lk] at hk
    bdom:=fun k b hk=>by cases hk
    binj:=fun k k' b hk=>by cases hk
    bnew:=fun k b hk=>by cases hk
    Isub:=hI
    I0sub:=fun _ _ h=>h
    Inew:=fun _ _ h=>.inl h
    spare:=fun l a len cap sz hl=>by cases hl
    ldis:=fun l l' b o o' len len' cap cap' sz sz' _ h1=>by cases h1}
  obtain ⟨d,t⟩:=t
  cases d with
  | succ d=>simp[St.look] at ht
  | zero=>?_
  obtain ⟨j,rfl,hj⟩:=bF _ _ _ _ ht
  have hlt:j<vs.size:=by
   have:=(List.getElem?_eq_some_iff.1 hj).1
   omega
  refine ⟨vs.getD j undef,?_,.base (hR j x hj)⟩
  simp only[zX.val]
  rw[Nat.zero_add,Array.getElem?_append_left hlt]
  simp[hlt]
 refine jW (F:={w0:=w,I0:=I,N:=fn.ntmps}) code ac htr hH h fun e s a' w' _ hK hH'=>?_
 obtain ⟨he,r0,hr,himp⟩:=hK0 _ _ hK
 obtain ⟨I',β,lam,hI'⟩:=hH'
 obtain ⟨xs,hxs,rfl⟩:=MG hr
 have hJ:∀ b o,Seen I' β lam b o→(I b o∨w.heap.size≤b)∧b<w'.heap.size:=by
  intro b o hb
  rcases hb with hb | ⟨k,hb⟩ | ⟨l,p,cap,sz,hl,h0⟩
  ·exact ⟨hI'.Inew b o hb,hI'.Isub b o hb⟩
  ·exact ⟨.inr (hI'.bnew k b hb).1,(hI'.bnew k b hb).2.1⟩
  ·obtain ⟨g1,g2,_⟩:=hI'.ublock hl h0
   exact ⟨.inr g1,g2⟩
 obtain ⟨v,hrun,hRv⟩:=kF (fn:=fn) (rd:=UH s) (Rel:=R0 (fun b o=>(I b o∨w.heap.size≤b)∧b<w'.heap.size) w') (fun rv ra x h1 h2=>by
   obtain ⟨v,g1,g2⟩:=JL hI' h1 h2
   exact ⟨v,g1,g2.mono hJ (fun _ _ _ _ h=>h)⟩) (fun xs vs _ h2 h3=>.tuple xs vs h2 h3) hres hxs
 have hpost:a'.defers=[]∧∃ v,(results fn a'.tmps).run P w'=.ok v w'∧∃ u,Ending.returned v=.returned u∧Below w.heap.size w w'∧R0 (fun b o=>(I b o∨w.heap.size≤b)∧b<w'.heap.size) w' r u :=
  ⟨hI'.defers,v,hrun,v,rfl,hI'.below,himp _ _ _ hRv⟩
 rcases he with rfl | rfl
 ·exact hpost
 ·exact hpost
end
def zl (P:Program) (f:FuncId):Option (zc × List zw × Nat) :=
 match P.funcs[f]? with
 | some fn=>match fn.body with
  | some c=>match yd P fn.ntmps c,yu (uB P) fn.results.toList with
   | some a,some r=>some (a,r,fn.ntmps)
   | _,_=>none
  | none=>none
 | none=>none
theorem CU {P:Program} {f:FuncId} {ac:zc} {ras:List zw} {N:Nat} {args:List AV} {r:AV} {K:Exit→St→Prop} (hK0:∀ e s,K e s→(e=.normal∨e=.ret)∧∃ r0,sI ras s=some r0∧AV.imp r0 r) (ht:zl P f=some (bare ac,ras,N)) (hn:args.length≤N)
  (h:awp P ac {env:=vg 0 args,sto:=[]} K):zd P f args r:=by
 unfold zl at ht
 split at ht
 ·rename_i fn hf
  split at ht
  ·rename_i c hb
   split at ht
   ·rename_i a r' ha hr
    simp only[Option.some.injEq,Prod.mk.injEq] at ht
    obtain ⟨rfl,rfl,rfl⟩:=ht
    exact abd hK0 hf hb ha hr hn h
   ·cases ht
  ·cases ht
 ·cases ht
theorem sound {P:Program} {f:FuncId} {ac:zc} {ras:List zw} {N:Nat} {args:List AV} {r:AV} (ht:zl P f=some (bare ac,ras,N)) (hn:args.length≤N)
  (h:awp P ac {env:=vg 0 args,sto:=[]} fun e s=>(e=.normal∨e=.ret)∧sI ras s=some r):zd P f args r :=
 CU (fun _ _ h=>⟨h.1,r,h.2,AV.imp.refl⟩) ht hn h
theorem ago {P:Program} {f:FuncId} {ac:zc} {ras:List zw} {N:Nat} {args:List AV} {s:St} {K:AV→St→Prop} (B:Nat) (ht:zl P f=some (bare ac,ras,N)) (hn:args.length≤N)
  (h:awp P ac {env:=vg 0 args,sto:=s.sto,out:=s.env::s.out,base:=B} fun e s'=>(e=.normal∨e=.ret)∧∃ xs e0 o0,yu (lS s') ras=some xs∧s'.out=e0::o0∧K (tup xs) {env:=e0,sto:=s'.sto,out:=o0,base:=s.base}):z0 P f args s K:=by
 unfold zl at ht
 split at ht
 ·rename_i fn hf
  split at ht
  ·rename_i c hb
   split at ht
   ·rename_i a r' ha hr
    simp only[Option.some.injEq,Prod.mk.injEq] at ht
    obtain ⟨rfl,rfl,rfl⟩:=ht
    exact BJ B hf hb ha hr hn h
   ·cases ht
  ·cases ht
 ·cases ht
abbrev iv (n:Int):AV:=.val (.int .i64 n)
abbrev bv (b:Bool):AV:=.val (.bool b)
def Nx (D DK:List Nat) (K:Exit→St→Prop):St→Prop:=fun s=>YQ (s.drop D) DK fun s=>K .normal s
def af6 (P:Program) (ops:List zh) (D DK:List Nat) (K:Exit→St→Prop):St→Prop:=fun s=>zj P ops s (Nx D DK K)
def rm (P:Program) (b:zc) (K:Exit→St→Prop):Exit→St→Prop:=MO (awp P b) K
def wP (id:Nat) (K:Exit→St→Prop):Exit→St→Prop:=Te id K
def fo (P:Program) (os:List zh) (K:St→Prop):St→Prop:=fun s=>zj P os s K
def xv (P:Program) (os:List zh) (s:St) (d:Option Nat) (K:St→Prop):AV→Option ze→Prop:=fun x e=>zj P os ((s.put d x).new d e) K
def pZ (x:AV) (A B:Prop):Prop :=
 match x with
 | .val (.bool c)=>(c=true→A)∧(c=false→B)
 | _=>False
def qi (x:AV) (b:Bool) (A B:Prop):Prop :=
 match x with
 | .val (.bool c)=>(c=b→A)∧(c=!b→B)
 | .val _=>B
 | _=>False
theorem aiD {s:St} {n:Nat}:ev s (.t n)=(lk s.env n).getD .undef:=congrArg (fun x=>x) rfl
theorem aiC {s:St} {x:AV}:ev s (.c x)=x:=congrArg (fun x=>x) rfl
theorem afA {s:St} {n:Nat}:s.get n=(lk s.env n).getD .undef:=congrArg (fun x=>x) rfl
@[congr] theorem agG {x x':AV} {A B:Prop} (h:Unit→x=x'):pZ x A B=pZ x' A B:=by rw[h ()]
@[congr] theorem afB {x x':AV} {b:Bool} {A B:Prop} (h:Unit→x=x'):qi x b A B=qi x' b A B:=by rw[h ()]
section
variable {P:Program} {s:St} {K:Exit→St→Prop} {KS:St→Prop} {os:List zh}
theorem Gm {A B:Prop}:pZ (bv true) A B=A:=by simp[pZ]
theorem LM {A B:Prop}:pZ (bv false) A B=B:=by simp[pZ]
theorem Gl {c:Bool} {A B:Prop}:pZ (bv c) A B=((c=true→A)∧(c=false→B)):=propext Iff.rfl
theorem GJ {b:Bool} {A B:Prop}:qi (bv b) b A B=A:=by cases b<;>simp[qi]
theorem NP {A B:Prop}:qi (bv true) false A B=B:=by simp[qi]
theorem NQ {A B:Prop}:qi (bv false) true A B=B:=by simp[qi]
theorem L2 {b:Bool} {A B:Prop}:qi (.val undef) b A B=B:=propext Iff.rfl
theorem BA:awp P .skip s K=K .normal s:=propext Iff.rfl
theorem Gc {d:Bool} {FK:List Nat} {D DK:List Nat} {ops:List zh}:awp P (.region d FK ops D DK) s K=s4 FK s (af6 P ops D DK K):=propext Iff.rfl
theorem acb {a b:zc}:awp P (.seq a b) s K=awp P a s (rm P b K):=propext Iff.rfl
theorem Bx {c:Opd} {a b:zc}:awp P (.cond c a b) s K=pZ (ev s c) (awp P a s K) (awp P b s K):=propext Iff.rfl
theorem Eg {id:Nat} {a:zc}:awp P (.block id a) s K=awp P a s (wP id K):=propext Iff.rfl
theorem Bz {l:Nat}:awp P (.goto l) s K=K (.goto l) s:=propext Iff.rfl
theorem By {id:Nat}:awp P (.exit id) s K=K (.exit id) s:=propext Iff.rfl
theorem aca:awp P .ret s K=K .ret s:=propext Iff.rfl
theorem adO {D DK:List Nat} {ops:List zh}:af6 P ops D DK K s=zj P ops s (Nx D DK K):=propext Iff.rfl
theorem K7 {D DK:List Nat}:Nx D DK K s=(ju (lk s.sto) (DK.map (s.base+·)) ⟨del D s.env,del (DK.map (s.base+·)) s.sto,s.out,s.base⟩=true∧K .normal ⟨del D s.env,del (DK.map (s.base+·)) s.sto,s.out,s.base⟩):=propext Iff.rfl
theorem K3 {α:Type} (l:List (Nat × α)):del [] l=l:=by
 induction l with
 | nil=>rfl
 | cons p l ih=>simp[del,ih]
theorem Ah {D:List Nat}:Nx D [] K s=K .normal ⟨del D s.env,s.sto,s.out,s.base⟩:=by
 rw[K7]
 simp[ju,K3]
theorem Kn {b:zc}:rm P b K .normal s=awp P b s K:=propext Iff.rfl
theorem Ct {b:zc} {i:Nat}:rm P b K (.exit i) s=K (.exit i) s:=propext Iff.rfl
theorem aaQ {b:zc}:rm P b K .ret s=K .ret s:=propext Iff.rfl
theorem Q6 {i:Nat}:wP i K .normal s=K .normal s:=propext Iff.rfl
theorem LH {i j:Nat}:wP i K (.exit j) s=if j=i then K .normal s else K (.exit j) s:=propext Iff.rfl
theorem Gf {i:Nat}:wP i K .ret s=K .ret s:=propext Iff.rfl
theorem Cu {b:zc} {i:Nat}:rm P b K (.goto i) s=K (.goto i) s:=propext Iff.rfl
theorem LI {i j:Nat}:wP i K (.goto j) s=K (.goto j) s:=propext Iff.rfl
theorem LX:s4 [] s KS=KS s:=propext Iff.rfl
theorem adz:zj P [] s KS=KS s:=propext Iff.rfl
theorem DT {d:Option Nat} {op:AOp} {xs:List Opd} {g:Nat} {b:Bool}:zj P (⟨d,op,xs,some (g,b)⟩::os) s KS =
  qi (s.get g) b (zj P (⟨d,op,xs,none⟩::os) s KS) (zj P os (s.put d (.val undef)) KS):=propext Iff.rfl
variable {d:Nat}
theorem ady {x:Opd}:zj P (⟨some d,.mov,[x],none⟩::os) s KS=zj P os ⟨pt s.env d (ev s x),s.sto,s.out,s.base⟩ KS:=propext Iff.rfl
theorem A2 {c a b:Opd}:zj P (⟨some d,.pick,[c,a,b],none⟩::os) s KS=pZ (ev s c) (zj P os ⟨pt s.env d (ev s a),s.sto,s.out,s.base⟩ KS) (zj P os ⟨pt s.env d (ev s b),s.sto,s.out,s.base⟩ KS):=by
 show (match [ev s c,ev s a,ev s b] with | [.val (.bool t),a,b]=>(t=true→xv P os s (some d) KS a none)∧(t=false→xv P os s (some d) KS b none) | _=>False)=_
 unfold pZ
 cases ev s c<;>try rfl
 rename_i v
 cases v<;>rfl
theorem DM {cells:List AV}:zj P (⟨some d,.alloc cells,[],none⟩::os) s KS=(lk s.sto (s.base+d)=none∧zj P os ⟨pt s.env d (.ptr (s.base+d) 0),pt s.sto (s.base+d) (.var cells),s.out,s.base⟩ KS):=propext Iff.rfl
def nz (x:Option AV) (P:Program) (os:List zh) (s:St) (d:Nat) (KS:St→Prop):Prop :=
 match x with
 | some v=>zj P os ⟨pt s.env d v,s.sto,s.out,s.base⟩ KS
 | none=>False
theorem DY {v:AV}:nz (some v) P os s d KS=zj P os ⟨pt s.env d v,s.sto,s.out,s.base⟩ KS:=propext Iff.rfl
theorem adu {d:Option Nat} {o:BinOp} {t:TypeId} {ox oy:Operand} {x y:Opd}:zj P (⟨d,.bin o t ox oy,[x,y],none⟩::os) s KS=yc P o t ox oy [ev s x,ev s y] (xv P os s d KS):=propext Iff.rfl
theorem AY {d:Option Nat} {n:Option Nat} {x:Opd}:zj P (⟨d,.load n,[x],none⟩::os) s KS=kh (lk s.sto) n [ev s x] (xv P os s d KS):=propext Iff.rfl
theorem G2 {d:Option Nat} {n m:Nat} {x y:Opd}:zj P (⟨d,.iaddrA n m,[x,y],none⟩::os) s KS=nP n m [ev s x,ev s y] (xv P os s d KS):=propext Iff.rfl
theorem G3 {d:Option Nat} {n:Nat} {x y:Opd}:zj P (⟨d,.iaddrS n,[x,y],none⟩::os) s KS=wY n [ev s x,ev s y] (xv P os s d KS):=propext Iff.rfl
theorem DV {d:Option Nat} {n:Nat} {a b c:Bool} {xs:List Opd}:zj P (⟨d,.slice n a b c,xs,none⟩::os) s KS=pI n a b c (xs.map (ev s)) (xv P os s d KS):=propext Iff.rfl
theorem afV {d:Option Nat} {n m:Nat} {z:List AV} {x y:Opd}:zj P (⟨d,.mk n m z,[x,y],none⟩::os) s KS=eMk n m z (s.base+d.getD 0) (lk s.sto) [ev s x,ev s y] (xv P os s d KS):=propext Iff.rfl
theorem adw {d:Option Nat} {b:Bool} {x:Opd}:zj P (⟨d,.len b,[x],none⟩::os) s KS=lj b [ev s x] (xv P os s d KS):=propext Iff.rfl
theorem AU {d:Option Nat} {f:FuncId} {xs:List Opd}:zj P (⟨d,.call f,xs,none⟩::os) s KS=wa P f (lk s.sto) (xs.map (ev s)) (xv P os s d KS):=propext Iff.rfl
theorem adx {d:Nat} {f:FuncId} {xs:List Opd}:zj P (⟨some d,.mkb f,xs,none⟩::os) s KS=zj P os ⟨pt s.env d (.fn (.via 0 #[] f false) ((xs.map (ev s)).map strip)),s.sto,s.out,s.base⟩ KS:=propext Iff.rfl
theorem AZ {d:Nat} {f:FuncId} {xs:List Opd}:zj P (⟨some d,.mkfn f,xs,none⟩::os) s KS=zj P os ⟨pt s.env d (.fn (.func f) ((xs.map (ev s)).map strip)),s.sto,s.out,s.base⟩ KS:=propext Iff.rfl
theorem A0 {d:Nat} {t:TypeId} {x:Opd}:zj P (⟨some d,.mkif t,[x],none⟩::os) s KS=(rf (ev s x)=true∧zj P os ⟨pt s.env d (.iface t (strip (ev s x))),s.sto,s.out,s.base⟩ KS):=propext Iff.rfl
def unA (P:Program) (op:UnOp):AV→Option AV
 | .val v=>(zt P (Op.unary op v)).map ofV
 | _=>none
def eE (P:Program) (a b:TypeId):AV→Option AV
 | .val v=>(zt P (convert a b v)).map ofV
 | .list _ _ rows=>match mn rows with
  | some ns=>if YV P a b=true then some (.val (.string (strOfNums ns))) else none
  | none=>none
 | _=>none
def fc (off:Nat) (n:Option Nat):AV→Option AV
 | .agg cells=>vC cells off n
 | .raw cells=>zB cells off n
 | _=>none
def NC (off:Nat):AV→Option AV
 | .ptr j o=>some (.ptr j (o+off))
 | .eptr j sz i o=>some (.eptr j sz i (o+off))
 | .up j sz i o=>some (.up j sz i (o+off))
 | .ro cells=>some (.ro (cells.drop off))
 | _=>none
def TI (i:Nat):AV→Option AV
 | .tuple vs=>vs[i]?
 | _=>none
def z7:AV→Option AV
 | .ptr j off=>some (.ptr j off)
 | .eptr j sz i off=>some (.eptr j sz i off)
 | .up j sz i off=>some (.up j sz i off)
 | .ro cells=>some (.ro cells)
 | .fn f caps=>some (.fn f caps)
 | _=>none
theorem afX {o:UnOp} {x:Opd}:zj P (⟨some d,.un o,[x],none⟩::os) s KS=nz (unA P o (ev s x)) P os s d KS:=by
 show zJ P (s.base+d) (.un o) [ev s x] (lk s.sto) (xv P os s (some d) KS)=_
 simp only[zJ]
 cases ev s x<;>try rfl
 rename_i v
 simp only[unA]
 cases zt P (Op.unary o v)<;>rfl
theorem AW {a b:TypeId} {x:Opd}:zj P (⟨some d,.conv a b,[x],none⟩::os) s KS=nz (eE P a b (ev s x)) P os s d KS:=by
 show zJ P (s.base+d) (.conv a b) [ev s x] (lk s.sto) (xv P os s (some d) KS)=_
 simp only[zJ]
 cases ev s x<;>try rfl
 ·rename_i v
  simp only[eE]
  cases zt P (convert a b v)<;>rfl
 ·rename_i sz m rows
  simp only[eE]
  cases mn rows with
  | none=>rfl
  | some ns =>
   by_cases h:YV P a b=true
   ·simp only[h,if_true,true_and]; rfl
   ·simp only[h,Bool.false_eq_true,if_false,false_and]; rfl
theorem DS {off:Nat} {n:Option Nat} {x:Opd}:zj P (⟨some d,.field off n,[x],none⟩::os) s KS=nz (fc off n (ev s x)) P os s d KS:=by
 show zJ P (s.base+d) (.field off n) [ev s x] (lk s.sto) (xv P os s (some d) KS)=_
 simp only[zJ]
 cases ev s x<;>try rfl
 ·rename_i v
  simp only[fc]
  cases vC v off n<;>rfl
 ·rename_i v
  simp only[fc]
  cases zB v off n<;>rfl
theorem DR {off:Nat} {x:Opd}:zj P (⟨some d,.faddr off,[x],none⟩::os) s KS=nz (NC off (ev s x)) P os s d KS:=by
 show zJ P (s.base+d) (.faddr off) [ev s x] (lk s.sto) (xv P os s (some d) KS)=_
 simp only[zJ]
 cases ev s x<;>rfl
theorem L9 {i:Nat} {x:Opd}:zj P (⟨some d,.extract i,[x],none⟩::os) s KS=nz (TI i (ev s x)) P os s d KS:=by
 show zJ P (s.base+d) (.extract i) [ev s x] (lk s.sto) (xv P os s (some d) KS)=_
 simp only[zJ]
 cases ev s x<;>try rfl
 rename_i v
 simp only[TI]
 cases v[i]?<;>rfl
theorem G6 {x:Opd}:zj P (⟨some d,.nilChk,[x],none⟩::os) s KS=nz (z7 (ev s x)) P os s d KS:=by
 show zJ P (s.base+d) .nilChk [ev s x] (lk s.sto) (xv P os s (some d) KS)=_
 simp only[zJ]
 cases ev s x<;>rfl
theorem DN {z:List AV} {ps:List (Nat × Nat)} {xs:List Opd}:zj P (⟨some d,.build z ps,xs,none⟩::os) s KS=nz (orR (tl z ps (xs.map (ev s))) (sC z ps (xs.map (ev s)))) P os s d KS:=by
 show zJ P (s.base+d) (.build z ps) (xs.map (ev s)) (lk s.sto) (xv P os s (some d) KS)=_
 simp only[zJ]
 cases orR (tl z ps (xs.map (ev s))) (sC z ps (xs.map (ev s)))<;>rfl
def orL (sz:Nat):Option (List (List AV))→Option (List (List AV))→Option AV
 | some rows,_=>some (.list sz .full rows)
 | none,some rows=>some (.lit sz rows)
 | none,none=>none
@[congr] theorem aie {a a' b:Option (List AV)} (h:a=a'):orR a b=orR a' b:=by rw[h]
@[congr] theorem aid {sz:Nat} {a a' b:Option (List (List AV))} (h:a=a'):orL sz a b=orL sz a' b:=by rw[h]
theorem aaa {cs:List AV} {b:Option (List AV)}:orR (some cs) b=some (.agg cs):=by cases b<;>exact congrArg (fun x=>x) rfl
theorem A9 {b:Option (List AV)}:orR none b=b.map .raw:=by cases b<;>exact congrArg (fun x=>x) rfl
theorem A8 {sz:Nat} {rows:List (List AV)} {b:Option (List (List AV))}:orL sz (some rows) b=some (.list sz .full rows):=by cases b<;>exact congrArg (fun x=>x) rfl
theorem A7 {sz:Nat} {b:Option (List (List AV))}:orL sz none b=b.map (.lit sz):=by cases b<;>exact congrArg (fun x=>x) rfl
theorem Mp {sz n:Nat} {z:List AV} {ps:List Nat} {xs:List Opd} (h1:z.length=sz) (h2:0<sz) :
  zj P (⟨some d,.mksliceL sz n z ps,xs,none⟩::os) s KS=nz ((wq sz (List.replicate n z) ps (xs.map (ev s))).map (.lit sz)) P os s d KS:=by
 show zJ P (s.base+d) (.mksliceL sz n z ps) (xs.map (ev s)) (lk s.sto) (xv P os s (some d) KS)=_
 simp only[zJ]
 cases wq sz (List.replicate n z) ps (xs.map (ev s)) with
 | none=>rfl
 | some rows=>simp only[h1,h2,true_and]; rfl
theorem DU:zj P (⟨some d,.mkmap,[],none⟩::os) s KS=(lk s.sto (s.base+d)=none∧zj P os ⟨pt s.env d (.mp (s.base+d)),pt s.sto (s.base+d) (.map #[] 0),s.out,s.base⟩ KS):=propext Iff.rfl
theorem G4 {d:Option Nat} {t:TypeId} {ok:Bool} {x y:Opd}:zj P (⟨d,.lookup t ok,[x,y],none⟩::os) s KS=uL P t ok (lk s.sto) [ev s x,ev s y] (xv P os s d KS):=propext Iff.rfl
theorem G5 {d:Option Nat} {t:TypeId} {x y z:Opd}:zj P (⟨d,.mapset t,[x,y,z],none⟩::os) s KS=tE P t s d (fo P os KS) [ev s x,ev s y,ev s z]:=propext Iff.rfl
theorem Ka {sz n:Nat} {z:List AV} {ps:List Nat} {xs:List Opd} (h1:z.length=sz) (h2:0<sz) :
  zj P (⟨some d,.mkslice sz n z ps,xs,none⟩::os) s KS=nz (orL sz (uA sz (List.replicate n z) ps (xs.map (ev s))) (wq sz (List.replicate n z) ps (xs.map (ev s)))) P os s d KS:=by
 show zJ P (s.base+d) (.mkslice sz n z ps) (xs.map (ev s)) (lk s.sto) (xv P os s (some d) KS)=_
 simp only[zJ]
 cases uA sz (List.replicate n z) ps (xs.map (ev s)) with
 | none =>
  cases wq sz (List.replicate n z) ps (xs.map (ev s)) with
  | none=>rfl
  | some rows=>simp only[h1,h2,true_and]; rfl
 | some rows=>simp only[h1,h2,true_and]; rfl
def UI (ras:List zw) (r:AV):Exit→St→Prop:=fun e s=>(e=.normal∨e=.ret)∧sI ras s=some r
theorem aap {ras:List zw} {r:AV}:UI ras r .ret s=(sI ras s=some r):=by simp[UI]
theorem Ki {ras:List zw} {r:AV}:UI ras r .normal s=(sI ras s=some r):=by simp[UI]
theorem zx {f:FuncId} {ac:zc} {ras:List zw} {N:Nat} {args:List AV} {r:AV} (ht:zl P f=some (bare ac,ras,N)) (hn:args.length≤N)
  (h:awp P ac ⟨vg 0 args,[],[],0⟩ (UI ras r)):zd P f args r:=sound ht hn h
def b8 (ras:List zw) (r:AV):Exit→St→Prop:=fun e s=>(e=.normal∨e=.ret)∧∃ r0,sI ras s=some r0∧AV.imp r0 r
theorem aau {ras:List zw} {r:AV}:b8 ras r .ret s=∃ r0,sI ras s=some r0∧AV.imp r0 r:=by simp[b8]
theorem Kj {ras:List zw} {r:AV}:b8 ras r .normal s=∃ r0,sI ras s=some r0∧AV.imp r0 r:=by simp[b8]
theorem vc {f:FuncId} {ac:zc} {ras:List zw} {N:Nat} {args:List AV} {r:AV} (ht:zl P f=some (bare ac,ras,N)) (hn:args.length≤N)
  (h:awp P ac ⟨vg 0 args,[],[],0⟩ (b8 ras r)):zd P f args r:=CU (fun _ _ h=>h) ht hn h
def afa (x:Option (List AV)) (P:Program) (os:List zh) (s:St) (d:Nat) (KS:St→Prop):Prop :=
 match x with
 | some cs=>lk s.sto (s.base+d)=none∧zj P os ⟨pt s.env d (.ptr (s.base+d) 0),pt s.sto (s.base+d) (.var cs),s.out,s.base⟩ KS
 | none=>False
theorem El {cs:List AV}:afa (some cs) P os s d KS=(lk s.sto (s.base+d)=none∧zj P os ⟨pt s.env d (.ptr (s.base+d) 0),pt s.sto (s.base+d) (.var cs),s.out,s.base⟩ KS):=propext Iff.rfl
theorem adv {x:Opd}:zj P (⟨some d,.box,[x],none⟩::os) s KS=afa (cellsOf (ev s x)) P os s d KS:=propext Iff.rfl
theorem A4 {x:Option AV}:xK x (xv P os s (some d) KS)=nz x P os s d KS:=by cases x<;>rfl
theorem Mq {x:Option Value}:yR x (xv P os s (some d) KS)=nz (x.map ofV) P os s d KS:=by cases x<;>rfl
theorem D8 {v:AV}:xv P os s (some d) KS v none=zj P os ⟨pt s.env d v,s.sto,s.out,s.base⟩ KS:=propext Iff.rfl
theorem Fb {v:AV}:xv P os s none KS v none=zj P os s KS:=propext Iff.rfl
theorem D9 {v:AV} {e:ze}:xv P os s (some d) KS v (some e)=zj P os ⟨pt s.env d v,pt s.sto (s.base+d) e,s.out,s.base⟩ KS:=propext Iff.rfl
theorem DX {n:Nat} {a b:Opd}:zj P (⟨none,.store n,[a,b],none⟩::os) s KS=mD n s none [ev s a,ev s b] (fo P os KS):=propext Iff.rfl
theorem L8 {sz by_:Nat} {a b:Opd} {d:Option Nat}:zj P (⟨d,.appendU sz by_,[a,b],none⟩::os) s KS=xk sz by_ s d (fo P os KS) [ev s a,ev s b]:=propext Iff.rfl
theorem DO {f:FuncId} {xs:List Opd} {d:Option Nat}:zj P (⟨d,.callI f,xs,none⟩::os) s KS=(yJ P f=true∧tD P f (xs.map (ev s)) s d (fo P os KS)):=propext Iff.rfl
theorem A1 {neg:Bool} {x:Opd} {d:Option Nat}:zj P (⟨d,.nilS neg,[x],none⟩::os) s KS=eG neg s d (fo P os KS) [ev s x]:=propext Iff.rfl
theorem Gu {neg:Bool} {d:Option Nat} {sz:Nat} {m:Mode} {rows:List (List AV)} {K:St→Prop}:eG neg s d K [.list sz m rows]=((rows=[]→K (s.put d (bv true))∧K (s.put d (bv false)))∧(rows≠[]→K (s.put d (bv neg)))):=by
 simp only[eG,Mh,List.length_eq_zero_iff,ne_eq]
theorem adt:fo P os KS s=zj P os s KS:=propext Iff.rfl
theorem G1 {sz by_:Nat} {a b:Opd} {d:Option Nat}:zj P (⟨d,.append sz by_,[a,b],none⟩::os) s KS=xH sz by_ s d (fo P os KS) [ev s a,ev s b]:=propext Iff.rfl
end
section
variable {P:Program} {t:TypeId} {ox oy:Operand} {k:IntKind} {a b:Int} {K:AV→Option ze→Prop}
theorem B5:yc P .add t ox oy [.val (.int k a),.val (.int k b)] K=K (.val (.int k (k.wrap (a+b)))) none:=by
 simp[yc,toV,zt,eqGuard,binOp,Op.intArith,yR,ofV,y7,bind,Sem.bind,pure]
theorem Ae:yc P .sub t ox oy [.val (.int k a),.val (.int k b)] K=K (.val (.int k (k.wrap (a-b)))) none:=by
 simp[yc,toV,zt,eqGuard,binOp,Op.intArith,yR,ofV,y7,bind,Sem.bind,pure]
theorem Ac:yc P .mul t ox oy [.val (.int k a),.val (.int k b)] K=K (.val (.int k (k.wrap (a*b)))) none:=by
 simp[yc,toV,zt,eqGuard,binOp,Op.intArith,yR,ofV,y7,bind,Sem.bind,pure]
theorem Ab:yc P .lss t ox oy [.val (.int k a),.val (.int k b)] K=K (bv (decide (a<b))) none:=by
 simp[yc,toV,zt,eqGuard,binOp,Op.intCmp,yR,ofV,y7,bind,Sem.bind,pure]
theorem Aa:yc P .leq t ox oy [.val (.int k a),.val (.int k b)] K=K (bv (decide (a≤b))) none:=by
 simp[yc,toV,zt,eqGuard,binOp,Op.intCmp,yR,ofV,y7,bind,Sem.bind,pure]
theorem B9:yc P .gtr t ox oy [.val (.int k a),.val (.int k b)] K=K (bv (decide (b<a))) none:=by
 simp[yc,toV,zt,eqGuard,binOp,Op.intCmp,yR,ofV,y7,bind,Sem.bind,pure]
theorem B8:yc P .geq t ox oy [.val (.int k a),.val (.int k b)] K=K (bv (decide (b≤a))) none:=by
 simp[yc,toV,zt,eqGuard,binOp,Op.intCmp,yR,ofV,y7,bind,Sem.bind,pure]
theorem B7:yc P .eql t ox oy [.val (.int k a),.val (.int k b)] K=K (bv (decide (a=b))) none:=by
 simp[yc,toV,zt,eqGuard,binOp,Op.intCmp,yR,ofV,y7,bind,Sem.bind,pure]
 rfl
theorem Ad:yc P .neq t ox oy [.val (.int k a),.val (.int k b)] K=K (bv (decide (a≠b))) none:=by
 simp[yc,toV,zt,eqGuard,binOp,Op.intCmp,yR,ofV,y7,bind,Sem.bind,pure]
 rfl
theorem agy {c:Bool}:zt P (Op.unary .not (.bool c))=some (.bool !c):=by
 simp[zt,Op.unary,pure]
theorem wrap64 {n:Int} (h1:-9223372036854775808≤n) (h2:n≤9223372036854775807):IntKind.i64.wrap n=n:=IntWalk.i64_in n ⟨h1,h2⟩
end
theorem FJ {cells:List AV} {off:Nat} {x:AV} (h:off<cells.length):splice cells off [x]=cells.set off x:=by
 unfold splice
 rw[List.set_eq_take_append_cons_drop,if_pos h]
 simp
theorem FH {cells cs:List AV} (h:cs.length=cells.length):splice cells 0 cs=cs:=by
 unfold splice
 simp[h]
theorem Ec (k:Nat) (l:List Int):xo k (l.map iv)=false:=by
 induction l with
 | nil=>rfl
 | cons x l ih=>simp[ih,xo,zT]
theorem Lm:strip∘iv=iv:=rfl
theorem Qy {l:List Int} {n:Nat} (h:l.length=n):zB (l.map iv) 0 (some n)=some (.agg (l.map iv)):=by
 have h1:(l.map iv).all rf=true:=by simp[rf]
 have h2:(l.map iv).map strip=l.map iv:=by simp[Lm]
 simp only[zB,List.drop_zero]
 rw[List.take_of_length_le (by simp; omega),if_pos ⟨by simp; omega,h1⟩,h2]
theorem L1 (cells:List AV) (off:Nat):zB cells off none=cells[off]?:=by simp[zB]
section
variable {σ:Nat→Option ze}
theorem FE:wM σ .undef=some .undef:=rfl
theorem abc {v:Value}:wM σ (.val v)=some (.val v):=rfl
theorem aba {c:List AV}:wM σ (.agg c)=some (.agg c):=rfl
theorem FD {c:List AV}:wM σ (.tuple c)=if c.all rf=true then some (.tuple (c.map strip)) else none:=rfl
theorem CT {sz:Nat} {m:Mode} {r:List (List AV)}:wM σ (.list sz m r)=some (strip (.list sz m r)):=rfl
theorem aeb {c:List AV}:wM σ (.ro c)=some (.ro c):=rfl
theorem abb {k off:Nat}:wM σ (.ptr k off)=(match σ k with
  | some (.var cells)=>if (cells.drop off).all rf=true then some (.ro ((cells.drop off).map strip)) else (yu (xM σ) (cells.drop off)).map .ro
  | _=>none):=rfl
theorem CP {v:Value}:xM σ (.val v)=some (.val v):=rfl
theorem CO {c:List AV}:xM σ (.agg c)=some (.agg c):=rfl
theorem FA {sz:Nat} {m:Mode} {r:List (List AV)}:xM σ (.list sz m r)=some (strip (.list sz m r)):=rfl
theorem aa6 {c:List AV}:xM σ (.ro c)=some (.ro c):=rfl
theorem aa8 {k sz off n:Nat}:xM σ (.us k sz off n)=(match σ k with
  | some (.uarr sz' rows)=>if sz'=sz∧off+n≤rows.length∧yF ((rows.drop off).take n)=true then some (.list sz .plain (zQ ((rows.drop off).take n))) else none
  | _=>none):=rfl
theorem aa7 {k sz off n:Nat}:xM σ (.sl k sz off n)=(match σ k with
  | some (.arr sz' rows)=>if sz'=sz∧off+n≤rows.length then some (.list sz .plain ((rows.drop off).take n)) else none
  | _=>none):=rfl
theorem CS {k sz i off:Nat}:wM σ (.eptr k sz i off)=(match σ k with
  | some (.arr sz' rows)=>if sz'=sz then (rows[i]?).map fun r=>.ro (r.drop off) else none
  | _=>none):=rfl
theorem aec {k sz off n:Nat}:wM σ (.sl k sz off n)=(match σ k with
  | some (.arr sz' rows)=>if sz'=sz∧off+n≤rows.length then some (.list sz .plain ((rows.drop off).take n)) else none
  | _=>none):=rfl
theorem aee {k sz off n:Nat}:wM σ (.us k sz off n)=(match σ k with
  | some (.uarr sz' rows)=>if sz'=sz∧off+n≤rows.length∧yF ((rows.drop off).take n)=true then some (.list sz .plain (zQ ((rows.drop off).take n))) else none
  | _=>none):=rfl
theorem aed {k sz i off:Nat}:wM σ (.up k sz i off)=(match σ k with
  | some (.uarr sz' rows)=>match rows[i]? with
   | some r=>if sz'=sz∧(r.drop off).all rf=true then some (.ro ((r.drop off).map strip)) else none
   | none=>none
  | _=>none):=rfl
theorem FC {t:TypeId} {x:AV}:wM σ (.iface t x)=some (.iface t x):=rfl
theorem aea {f:Fn} {caps:List AV}:wM σ (.fn f caps)=(yu (j7 σ) caps).map (.fn f):=rfl
theorem CR {v:Value}:j7 σ (.val v)=some (.val v):=rfl
theorem CQ {c:List AV}:j7 σ (.agg c)=some (.agg c):=rfl
theorem FB {sz:Nat} {m:Mode} {r:List (List AV)}:j7 σ (.list sz m r)=some (strip (.list sz m r)):=rfl
theorem aa9 {c:List AV}:j7 σ (.ro c)=some (.ro c):=rfl
end
theorem Kw:strip .undef=.undef:=rfl
theorem C2 {v:Value}:strip (.val v)=.val v:=rfl
theorem C0 {c:List AV}:strip (.agg c)=.agg c:=rfl
theorem Kv {c:List AV}:strip (.tuple c)=.tuple c:=rfl
theorem abj {c:List AV}:strip (.ro c)=.ro c:=rfl
theorem C1 {k o:Nat}:strip (.ptr k o)=.ptr k o:=rfl
theorem FY {k sz i o:Nat}:strip (.eptr k sz i o)=.eptr k sz i o:=rfl
theorem abk {k sz o n:Nat}:strip (.sl k sz o n)=.sl k sz o n:=rfl
theorem abm {k sz o n:Nat}:strip (.us k sz o n)=.us k sz o n:=rfl
theorem abl {k sz i o:Nat}:strip (.up k sz i o)=.up k sz i o:=rfl
theorem Ku {t:TypeId} {x:AV}:strip (.iface t x)=.iface t x:=rfl
theorem abi {f:Fn} {c:List AV}:strip (.fn f c)=.fn f c:=rfl
attribute [simp ↓ low] Gl
attribute [simp ↓] Gm LM GJ NP NQ L2
theorem MD {k:Nat}:zT k .undef=false:=rfl
theorem Fk {k:Nat} {v:Value}:zT k (.val v)=false:=rfl
theorem Fg {k:Nat} {c:List AV}:zT k (.agg c)=false:=rfl
theorem Kg {k sz:Nat} {m:Mode} {r:List (List AV)}:zT k (.list sz m r)=false:=rfl
theorem Cf {k:Nat} {c:List AV}:zT k (.ro c)=false:=rfl
theorem MB {k:Nat} {t:TypeId} {x:AV}:zT k (.iface t x)=false:=rfl
theorem Fi {k j o:Nat}:zT k (.ptr j o)=(j == k):=rfl
theorem Kf {k j a b c:Nat}:zT k (.eptr j a b c)=(j == k):=rfl
theorem Cg {k j a b c:Nat}:zT k (.sl j a b c)=(j == k):=rfl
theorem Ci {k j a b c:Nat}:zT k (.us j a b c)=(j == k):=rfl
theorem Ch {k j a b c:Nat}:zT k (.up j a b c)=(j == k):=rfl
theorem Cd {k:Nat} {f:Fn} {c:List AV}:zT k (.fn f c)=c.any (uw k):=rfl
theorem MC {k:Nat} {c:List AV}:zT k (.tuple c)=c.any (uw k):=rfl
theorem aax:rf .undef=true:=rfl
theorem agc {v:Value}:rf (.val v)=true:=rfl
theorem af8 {c:List AV}:rf (.agg c)=true:=rfl
theorem adW {sz:Nat} {m:Mode} {r:List (List AV)}:rf (.list sz m r)=true:=rfl
theorem ahw {c:List AV}:rf (.ro c)=true:=rfl
theorem aav {t:TypeId} {x:AV}:rf (.iface t x)=true:=rfl
theorem aga {j o:Nat}:rf (.ptr j o)=false:=rfl
theorem adV {j a b c:Nat}:rf (.eptr j a b c)=false:=rfl
theorem ahx {j a b c:Nat}:rf (.sl j a b c)=false:=rfl
theorem ahz {j a b c:Nat}:rf (.us j a b c)=false:=rfl
theorem ahy {j a b c:Nat}:rf (.up j a b c)=false:=rfl
theorem ahu {f:Fn} {c:List AV}:rf (.fn f c)=false:=rfl
theorem aaw {c:List AV}:rf (.tuple c)=false:=rfl
theorem ahv {k:Nat}:rf (.mp k)=false:=rfl
theorem af9 {n:Nat} {c:List (List AV)}:rf (.lit n c)=false:=rfl
theorem agb {c:List AV}:rf (.raw c)=false:=rfl
theorem Ce {j k:Nat}:zT k (.mp j)=(j == k):=rfl
theorem Fh {k n:Nat} {rows:List (List AV)}:zT k (.lit n rows)=rows.any fun r=>r.any (UE k):=rfl
theorem Fj {k:Nat} {c:List AV}:zT k (.raw c)=c.any (UE k):=rfl
attribute [simp] ahv af9 agb Ce Fh Fj UE PB
attribute [simp] MD Fk Fg Kg Cf MB Fi Kf Cg Ci Ch Cd MC uw aax agc af8 adW ahw aav aga adV ahx ahz ahy ahu aaw
attribute [simp] Bz Cu LI
attribute [simp] BA Gc acb Bx Eg By aca adO Ah K7 Kn Ct aaQ Q6 LH Gf LX adz DT ady A2 DM El adv adu AY G2 G3 DV afV adw AU AZ adx A0 afX AW DS DR L9 G6 DN Ka Mp DU G4 G5 aaa A9 A8 A7 aap Ki aau Kj DY A4 Mq D8 Fb D9 DX adt G1 A1 Gu L8 DO B5 Ae Ac Ab Aa B9 B8 B7 Ad Ec Lm kh nP wY lj qQ mD aiD aiC afA lk pt del Qy L1 cellsOf vg sI yu UH FE abc aba FD CT aeb abb CS aec aea CR FB CQ aa9 CP CO FA aa6 aa8 aa7 Kw C2 C0 Kv abj C1 FY abk abi aee aed FC abm abl Ku St.unmet ju tJ ze.isU uX vt mH xo yL lU unA agy fc NC TI z7 single Value.oneCell' List.getElem?_eq_getElem
def xT (P:Program) (os:List zh) (s:St) (d:Nat) (KS:St→Prop):AV→Option ze→Prop:=fun x e=>lk s.env d=some x∧lk s.sto (s.base+d)=e∧zj P os s KS
def nr (x:Option AV) (P:Program) (os:List zh) (s:St) (d:Nat) (KS:St→Prop):Prop :=
 match x with
 | some v=>lk s.env d=some v∧lk s.sto (s.base+d)=none∧zj P os s KS
 | none=>False
def afb (x:Option (List AV)) (P:Program) (os:List zh) (s:St) (d:Nat) (KS:St→Prop):Prop :=
 match x with
 | some cs=>lk (del [s.base+d] s.sto) (s.base+d)=none∧lk s.env d=some (.ptr (s.base+d) 0)∧lk s.sto (s.base+d)=some (.var cs)∧zj P os s KS
 | none=>False
section
variable {P:Program} {s:St} {KS:St→Prop} {os:List zh} {d:Nat}
theorem acl {x:AV} {e:Option ze}:xT P os s d KS x e=(lk s.env d=some x∧lk s.sto (s.base+d)=e∧zj P os s KS):=propext Iff.rfl
theorem Et {x:AV}:nr (some x) P os s d KS=(lk s.env d=some x∧lk s.sto (s.base+d)=none∧zj P os s KS):=propext Iff.rfl
theorem Ep {cs:List AV}:afb (some cs) P os s d KS=(lk (del [s.base+d] s.sto) (s.base+d)=none∧lk s.env d=some (.ptr (s.base+d) 0)∧lk s.sto (s.base+d)=some (.var cs)∧zj P os s KS):=propext Iff.rfl
theorem A3 {x:Option AV}:xK x (xT P os s d KS)=nr x P os s d KS:=by cases x<;>rfl
theorem A5 {x:Option Value}:yR x (xT P os s d KS)=nr (x.map ofV) P os s d KS:=by cases x<;>rfl
theorem DW {ds:List Nat}:zj P (⟨none,.start ds,[],none⟩::os) s KS=(tF s.sto s.base ds∧zj P os ⟨del ds s.env,s.sto,s.out,s.base⟩ KS):=propext Iff.rfl
def abY (P:Program) (os:List zh) (s:St) (d:Nat) (KS:St→Prop):Prop:=lk s.env d=some (.val undef)∧lk s.sto (s.base+d)=none∧zj P os s KS
theorem Ey {op:AOp} {g:Nat} {b:Bool} {xs:List Opd}:zj P (⟨some d,.chkG op g b,xs,none⟩::os) s KS=qi (s.get g) b (zj P (⟨some d,.chk op,xs,none⟩::os) s KS) (abY P os s d KS):=propext Iff.rfl
theorem aaL:abY P os s d KS=(lk s.env d=some (.val undef)∧lk s.sto (s.base+d)=none∧zj P os s KS):=propext Iff.rfl
theorem acq {x:Opd}:zj P (⟨some d,.chk .mov,[x],none⟩::os) s KS=xT P os s d KS (ev s x) none:=propext Iff.rfl
theorem BP {c a b:Opd}:zj P (⟨some d,.chk .pick,[c,a,b],none⟩::os) s KS=pZ (ev s c) (xT P os s d KS (ev s a) none) (xT P os s d KS (ev s b) none):=by
 show (match [ev s c,ev s a,ev s b] with | [.val (.bool t),a,b]=>(t=true→xT P os s d KS a none)∧(t=false→xT P os s d KS b none) | _=>False)=_
 unfold pZ
 cases ev s c<;>try rfl
 rename_i v
 cases v<;>rfl
theorem Eu {cells:List AV}:zj P (⟨some d,.chk (.alloc cells),[],none⟩::os) s KS=(lk (del [s.base+d] s.sto) (s.base+d)=none∧xT P os s d KS (.ptr (s.base+d) 0) (some (.var cells))):=propext Iff.rfl
theorem acn {x:Opd}:zj P (⟨some d,.chk .box,[x],none⟩::os) s KS=afb (cellsOf (ev s x)) P os s d KS:=by
 show zJ P (s.base+d) .box [ev s x] (lk (del [s.base+d] s.sto)) (xT P os s d KS)=_
 simp only[zJ]
 cases cellsOf (ev s x)<;>rfl
theorem acm {o:BinOp} {t:TypeId} {ox oy:Operand} {x y:Opd}:zj P (⟨some d,.chk (.bin o t ox oy),[x,y],none⟩::os) s KS=yc P o t ox oy [ev s x,ev s y] (xT P os s d KS):=propext Iff.rfl
theorem BN {n:Option Nat} {x:Opd}:zj P (⟨some d,.chk (.load n),[x],none⟩::os) s KS=kh (lk (del [s.base+d] s.sto)) n [ev s x] (xT P os s d KS):=propext Iff.rfl
theorem Gh {n m:Nat} {x y:Opd}:zj P (⟨some d,.chk (.iaddrA n m),[x,y],none⟩::os) s KS=nP n m [ev s x,ev s y] (xT P os s d KS):=propext Iff.rfl
theorem Gi {n:Nat} {x y:Opd}:zj P (⟨some d,.chk (.iaddrS n),[x,y],none⟩::os) s KS=wY n [ev s x,ev s y] (xT P os s d KS):=propext Iff.rfl
theorem Ez {n:Nat} {a b c:Bool} {xs:List Opd}:zj P (⟨some d,.chk (.slice n a b c),xs,none⟩::os) s KS=pI n a b c (xs.map (ev s)) (xT P os s d KS):=propext Iff.rfl
theorem aco {b:Bool} {x:Opd}:zj P (⟨some d,.chk (.len b),[x],none⟩::os) s KS=lj b [ev s x] (xT P os s d KS):=propext Iff.rfl
theorem BL {f:FuncId} {xs:List Opd}:zj P (⟨some d,.chk (.call f),xs,none⟩::os) s KS=wa P f (lk (del [s.base+d] s.sto)) (xs.map (ev s)) (xT P os s d KS):=propext Iff.rfl
theorem acp {f:FuncId} {xs:List Opd}:zj P (⟨some d,.chk (.mkb f),xs,none⟩::os) s KS=xT P os s d KS (.fn (.via 0 #[] f false) ((xs.map (ev s)).map strip)) none:=propext Iff.rfl
theorem BO {f:FuncId} {xs:List Opd}:zj P (⟨some d,.chk (.mkfn f),xs,none⟩::os) s KS=xT P os s d KS (.fn (.func f) ((xs.map (ev s)).map strip)) none:=propext Iff.rfl
theorem afd {o:UnOp} {x:Opd}:zj P (⟨some d,.chk (.un o),[x],none⟩::os) s KS=nr (unA P o (ev s x)) P os s d KS:=by
 show zJ P (s.base+d) (.un o) [ev s x] (lk (del [s.base+d] s.sto)) (xT P os s d KS)=_
 simp only[zJ]
 cases ev s x<;>try rfl
 rename_i v
 simp only[unA]
 cases zt P (Op.unary o v)<;>rfl
theorem BM {a b:TypeId} {x:Opd}:zj P (⟨some d,.chk (.conv a b),[x],none⟩::os) s KS=nr (eE P a b (ev s x)) P os s d KS:=by
 show zJ P (s.base+d) (.conv a b) [ev s x] (lk (del [s.base+d] s.sto)) (xT P os s d KS)=_
 simp only[zJ]
 cases ev s x<;>try rfl
 ·rename_i v
  simp only[eE]
  cases zt P (convert a b v)<;>rfl
 ·rename_i sz m rows
  simp only[eE]
  cases mn rows with
  | none=>rfl
  | some ns =>
   by_cases h:YV P a b=true
   ·simp only[h,if_true,true_and]; rfl
   ·simp only[h,Bool.false_eq_true,if_false,false_and]; rfl
theorem Ex {off:Nat} {n:Option Nat} {x:Opd}:zj P (⟨some d,.chk (.field off n),[x],none⟩::os) s KS=nr (fc off n (ev s x)) P os s d KS:=by
 show zJ P (s.base+d) (.field off n) [ev s x] (lk (del [s.base+d] s.sto)) (xT P os s d KS)=_
 simp only[zJ]
 cases ev s x<;>try rfl
 ·rename_i v
  simp only[fc]
  cases vC v off n<;>rfl
 ·rename_i v
  simp only[fc]
  cases zB v off n<;>rfl
theorem Ew {off:Nat} {x:Opd}:zj P (⟨some d,.chk (.faddr off),[x],none⟩::os) s KS=nr (NC off (ev s x)) P os s d KS:=by
 show zJ P (s.base+d) (.faddr off) [ev s x] (lk (del [s.base+d] s.sto)) (xT P os s d KS)=_
 simp only[zJ]
 cases ev s x<;>rfl
theorem LJ {i:Nat} {x:Opd}:zj P (⟨some d,.chk (.extract i),[x],none⟩::os) s KS=nr (TI i (ev s x)) P os s d KS:=by
 show zJ P (s.base+d) (.extract i) [ev s x] (lk (del [s.base+d] s.sto)) (xT P os s d KS)=_
 simp only[zJ]
 cases ev s x<;>try rfl
 rename_i v
 simp only[TI]
 cases v[i]?<;>rfl
theorem Gk {x:Opd}:zj P (⟨some d,.chk .nilChk,[x],none⟩::os) s KS=nr (z7 (ev s x)) P os s d KS:=by
 show zJ P (s.base+d) .nilChk [ev s x] (lk (del [s.base+d] s.sto)) (xT P os s d KS)=_
 simp only[zJ]
 cases ev s x<;>rfl
theorem Ev {z:List AV} {ps:List (Nat × Nat)} {xs:List Opd}:zj P (⟨some d,.chk (.build z ps),xs,none⟩::os) s KS=nr (orR (tl z ps (xs.map (ev s))) (sC z ps (xs.map (ev s)))) P os s d KS:=by
 show zJ P (s.base+d) (.build z ps) (xs.map (ev s)) (lk (del [s.base+d] s.sto)) (xT P os s d KS)=_
 simp only[zJ]
 cases orR (tl z ps (xs.map (ev s))) (sC z ps (xs.map (ev s)))<;>rfl
theorem Na {sz n:Nat} {z:List AV} {ps:List Nat} {xs:List Opd} (h1:z.length=sz) (h2:0<sz) :
  zj P (⟨some d,.chk (.mksliceL sz n z ps),xs,none⟩::os) s KS=nr ((wq sz (List.replicate n z) ps (xs.map (ev s))).map (.lit sz)) P os s d KS:=by
 show zJ P (s.base+d) (.mksliceL sz n z ps) (xs.map (ev s)) (lk (del [s.base+d] s.sto)) (xT P os s d KS)=_
 simp only[zJ]
 cases wq sz (List.replicate n z) ps (xs.map (ev s))<;>simp[nr,h1,h2,xT]
theorem Gj {t:TypeId} {ok:Bool} {x y:Opd}:zj P (⟨some d,.chk (.lookup t ok),[x,y],none⟩::os) s KS=uL P t ok (lk (del [s.base+d] s.sto)) [ev s x,ev s y] (xT P os s d KS):=propext Iff.rfl
theorem LK {sz n:Nat} {z:List AV} {ps:List Nat} {xs:List Opd} (h1:z.length=sz) (h2:0<sz) :
  zj P (⟨some d,.chk (.mkslice sz n z ps),xs,none⟩::os) s KS=nr (orL sz (uA sz (List.replicate n z) ps (xs.map (ev s))) (wq sz (List.replicate n z) ps (xs.map (ev s)))) P os s d KS:=by
 show zJ P (s.base+d) (.mkslice sz n z ps) (xs.map (ev s)) (lk (del [s.base+d] s.sto)) (xT P os s d KS)=_
 simp only[zJ]
 cases uA sz (List.replicate n z) ps (xs.map (ev s)) with
 | none=>cases wq sz (List.replicate n z) ps (xs.map (ev s))<;>simp[nr,h1,h2,xT,orL]
 | some rows=>simp[nr,h1,h2,xT,orL]
end
attribute [simp] acl Ey aaL Et Ep A3 A5 DW tF acq BP Eu acn acm BN Gh Gi Ez aco BL BO acp afd BM Ex Ew LJ Gk Ev LK Na Gj
theorem zP {α β:Type} (P:Program) (s:Sem α) (f:α→Sem β):zt P (s >>= f)=(zt P s).bind fun a=>zt P (f a):=by
 induction s with
 | pure a=>simp[bind,Sem.bind,zt]
 | program k ih=>simp only[bind,Sem.bind,zt] at *; exact ih P
 | _=>rfl
theorem zU {α:Type} (P:Program) (a:α):zt P (pure a:Sem α)=some a:=rfl
theorem yq {P:Program} {t:TypeId}:zt P (underlying t)=P.underlying t:=by
 simp only[underlying,zP]
 simp only[program,zt]
 simp only[Option.bind]
 cases P.underlying t<;>rfl
theorem Pa {P:Program} {t:TypeId}:zt P (typeInfo t)=P.info? t:=by
 simp only[typeInfo,zP]
 simp only[program,zt]
 simp only[Option.bind]
 cases P.info? t<;>rfl
theorem XO {P:Program} {t:TypeId}:zt P (sizeOf t)=szT P t:=by
 simp only[sizeOf,zP,Pa,szT]
 cases P.info? t<;>rfl
theorem Fa {P:Program} {t:TypeId} {d:TypeDesc} (h:P.underlying t=some d):zt P (isAgg t)=some (agT P t):=by
 simp only[isAgg,zP,yq,h,Option.bind,agT]
 cases d<;>rfl
inductive Kd where
 | b
 | i (k:IntKind)
 | s
def Kd.fit:Kd→Value→Bool
 | .b,.bool _=>true
 | .i k,.int k' _=>decide (k=k')
 | .s,.string _=>true
 | _,_=>false
def uD:List Kd→List Value→Bool
 | [],[]=>true
 | k::ks,v::vs=>k.fit v&&uD ks vs
 | _,_=>false
def eq1:Value→Value→Bool
 | .bool a,.bool b=>a == b
 | .int _ a,.int _ b=>a == b
 | .string a,.string b=>a == b
 | _,_=>false
def eqL:List Value→List Value→Bool
 | [],[]=>true
 | x::xs,y::ys=>eq1 x y&&eqL xs ys
 | _,_=>false
def Rr (P:Program) (kd:TypeId→Option (List Kd)):Nat→List Field→Option (List Kd)
 | _,[]=>some []
 | off,f::fs =>
  if f.name = "_" ∨ f.offset ≠ off then none
  else
   match kd f.type with
   | some ks=>if szT P f.type=some ks.length then (Rr P kd (off+ks.length) fs).map (ks++·) else none
   | none=>none
def kds (P:Program):Nat→TypeId→Option (List Kd)
 | 0,_=>none
 | d+1,t =>
  match P.underlying t with
  | some .bool=>some [.b]
  | some (.int k)=>some [.i k]
  | some .string=>some [.s]
  | some (.array n e) =>
   match kds P d e with
   | some ks=>if szT P e=some ks.length then some (List.replicate n ks).flatten else none
   | none=>none
  | some (.struct fs)=>if P.stoodInHeld t=true then none else Rr P (kds P d) 0 fs.toList
  | _=>none
theorem Uf:∀ {ks:List Kd} {xs:List Value},uD ks xs=true→xs.length=ks.length
 | [],[],_=>rfl
 | [],_::_,h=>by cases h
 | _::_,[],h=>by cases h
 | k::ks,x::xs,h=>by simp only[uD,Bool.and_eq_true] at h; simp[Uf h.2]
theorem fe:∀ {ks ls:List Kd} {xs:List Value},uD (ks++ls) xs=true→uD ks (xs.take ks.length)=true∧uD ls (xs.drop ks.length)=true
 | [],_,_,h=>by simpa [uD] using h
 | k::ks,ls,[],h=>by cases h
 | k::ks,ls,x::xs,h=>by
  simp only[List.cons_append,uD,Bool.and_eq_true] at h
  have:=fe h.2
  simp[uD,h.1,this.1,this.2]
theorem Ri:∀ {n:Nat} {xs ys:List Value},xs.length=ys.length→eqL xs ys=(eqL (xs.take n) (ys.take n)&&eqL (xs.drop n) (ys.drop n))
 | 0,_,_,_=>by simp[eqL]
 | _+1,[],[],_=>by simp[eqL]
 | _+1,[],_::_,h=>by cases h
 | _+1,_::_,[],h=>by cases h
 | n+1,x::xs,y::ys,h=>by
  simp only[List.length_cons,Nat.add_right_cancel_iff] at h
  simp only[eqL,List.take_succ_cons,List.drop_succ_cons,Bool.and_assoc]
  rw[Ri (n:=n) h]
def valOf (P:Program) (t:TypeId) (xs:List Value):Value:=if agT P t=true then .agg xs.toArray else xs.headD undef
theorem Ji {P:Program} {d:Nat} {t:TypeId} {ks:List Kd} (h:kds P d t=some ks):(∃ u,P.underlying t=some u)∧(agT P t=false→ks.length=1):=by
 cases d with
 | zero=>cases h
 | succ d =>
  simp only[kds] at h
  split at h<;>rename_i hu
  ·exact ⟨⟨_,hu⟩,fun _=>by cases h; rfl⟩
  ·exact ⟨⟨_,hu⟩,fun _=>by cases h; rfl⟩
  ·exact ⟨⟨_,hu⟩,fun _=>by cases h; rfl⟩
  ·exact ⟨⟨_,hu⟩,fun ha=>by simp[agT,hu] at ha⟩
  ·exact ⟨⟨_,hu⟩,fun ha=>by simp[agT,hu] at ha⟩
  ·cases h
theorem eQ {P:Program} {d:Nat} {t:TypeId} {ks:List Kd} {xs:List Value} {off:Nat} (h:kds P d t=some ks) (hz:szT P t=some ks.length)
  (hl:off+ks.length≤xs.length):zt P (part t xs.toArray off)=some (valOf P t ((xs.drop off).take ks.length)):=by
 obtain ⟨⟨u,hu⟩,h1⟩:=Ji h
 simp only[part,zP,Fa hu,Option.bind_some]
 by_cases ha:agT P t=true
 ·simp only[ha,if_true,zP,XO,hz,Option.bind_some,zU,valOf]
  congr 2
  apply Array.ext'
  simp
 ·have h2:=h1 (by simpa using ha)
  rw[if_neg ha]
  have h3:off<xs.length:=by omega
  simp only[List.getElem?_toArray,List.getElem?_eq_getElem h3,zU,valOf,if_neg ha,h2]
  rw[List.drop_eq_getElem_cons h3]
  rfl
theorem QQ {P:Program} {α:Type} (f:α→Sem Bool):∀ (l:List α) (g:List α→Bool),g []=true→(∀ a m,(∃ h,h++a::m=l)→∃ b,zt P (f a)=some b∧g (a::m)=(b&&g m)) →
  zt P (forIn l ((none,()):Option Bool × Unit) fun a _=>do
   let b ← f a
   if (!b)=true then pure (ForInStep.done (some false,())) else pure (ForInStep.yield (none,())))=some (if g l=true then (none,()) else (some false,()))
 | [],g,h0,_=>by simp[h0,zU]
 | a::l,g,h0,h=>by
  obtain ⟨b,hb,hg⟩:=h a l ⟨[],rfl⟩
  have ih:=QQ f l g h0 (fun x m ⟨p,hp⟩=>h x m ⟨a::p,by simp[hp]⟩)
  rw[List.forIn_cons]
  simp only[zP,hb,Option.bind_some]
  cases b with
  | false=>simp[hg,zU]
  | true =>
   simp only[hg,Bool.true_and,Bool.not_true,Bool.false_eq_true,if_false,zU,Option.bind_some]
   exact ih
theorem af7 {n:Nat} {α:Type} {l:List α}:(List.replicate n l).flatten.length=n*l.length:=by
 induction n with
 | zero=>simp
 | succ n ih=>simp[List.replicate_succ,ih,Nat.succ_mul,Nat.add_comm]
theorem Jh {P:Program} {d:Nat}:∀ {fs:List Field} {off:Nat} {ks:List Kd} {xs ys:List Value},Rr P (kds P d) off fs=some ks→xs.length=off+ks.length→ys.length=off+ks.length →
  uD ks (xs.drop off)=true→uD ks (ys.drop off)=true →
  (∀ (t:TypeId) (ks:List Kd) (xs ys:List Value),kds P d t=some ks→uD ks xs=true→uD ks ys=true→zt P (Op.equalIn d t (valOf P t xs) (valOf P t ys))=some (eqL xs ys)) →
  zt P (forIn fs ((none,()):Option Bool × Unit) fun f _ =>
   if f.name ≠ "_" then do
    let x ← part f.type xs.toArray f.offset
    let y ← part f.type ys.toArray f.offset
    let b ← Op.equalIn d f.type x y
    if (!b)=true then pure (ForInStep.done (some false,())) else pure (ForInStep.yield (none,()))
   else pure (ForInStep.yield (none,())))=some (if eqL (xs.drop off) (ys.drop off)=true then (none,()) else (some false,()))
 | [],off,ks,xs,ys,h,hx,hy,_,_,_=>by
  simp only[Rr,Option.some.injEq] at h
  subst h
  simp only[List.length_nil,Nat.add_zero] at hx hy
  rw[List.drop_of_length_le (by omega),List.drop_of_length_le (by omega)]
  simp[zU,eqL]
 | f::fs,off,ks,xs,ys,h,hx,hy,h1,h2,IH=>by
  simp only[Rr] at h
  split at h
  ·cases h
  rename_i hn
  simp only[not_or,Decidable.not_not,ne_eq] at hn
  split at h
  rotate_left
  ·cases h
  rename_i ls hk
  split at h
  rotate_left
  ·cases h
  rename_i hz
  cases hr:Rr P (kds P d) (off+ls.length) fs with
  | none=>simp[hr] at h
  | some ms =>
   simp only[hr,Option.map_some,Option.some.injEq] at h
   subst h
   simp only[List.length_append] at hx hy
   have a1:=fe h1
   have a2:=fe h2
   rw[List.drop_drop] at a1 a2
   have ih:=Jh hr (xs:=xs) (ys:=ys) (by omega) (by omega) a1.2 a2.2 IH
   rw[List.forIn_cons]
   have p1:=eQ (xs:=xs) (off:=off) hk hz (by omega)
   have p2:=eQ (xs:=ys) (off:=off) hk hz (by omega)
   have p3:=IH _ _ _ _ hk a1.1 a2.1
   rw[if_pos hn.1,hn.2]
   simp only[zP,p1,p2,p3,Option.bind_some]
   rw[Ri (n:=ls.length) (xs:=xs.drop off) (ys:=ys.drop off) (by simp; omega),List.drop_drop,List.drop_drop]
   cases eqL ((xs.drop off).take ls.length) ((ys.drop off).take ls.length) with
   | false=>simp[zU]
   | true =>
    simp only[Bool.true_and,Bool.not_true,Bool.false_eq_true,if_false,zU,Option.bind_some]
    exact ih
theorem bn {ls:List Kd}:∀ {n:Nat} {xs:List Value} {a:Nat},uD (List.replicate n ls).flatten xs=true→a<n→uD ls ((xs.drop (a*ls.length)).take ls.length)=true
 | 0,_,_,_,h=>by omega
 | n+1,xs,0,h,_=>by
  simp only[List.replicate_succ,List.flatten_cons] at h
  simpa using (fe h).1
 | n+1,xs,a+1,h,ha=>by
  simp only[List.replicate_succ,List.flatten_cons] at h
  have:=bn (fe h).2 (a:=a) (by omega)
  rw[List.drop_drop] at this
  rw[Nat.succ_mul,Nat.add_comm (a*ls.length)]
  exact this
theorem qr {P:Program}:∀ (d:Nat) (t:TypeId) (ks:List Kd) (xs ys:List Value),kds P d t=some ks→uD ks xs=true→uD ks ys=true →
  zt P (Op.equalIn d t (valOf P t xs) (valOf P t ys))=some (eqL xs ys)
 | 0,_,_,_,_,h,_,_=>by cases h
 | d+1,t,ks,xs,ys,h,hx,hy=>by
  have lx:=Uf hx
  have ly:=Uf hy
  simp only[kds] at h
  split at h<;>rename_i hu
  ·cases h
   match xs,ys,hx,hy with
   | [.bool a],[.bool b],_,_=>simp[valOf,agT,hu,Op.equalIn,zP,yq,zU,eqL,eq1]
  ·cases h
   match xs,ys,hx,hy with
   | [.int k a],[.int k' b],hx,hy =>
    simp only[uD,Kd.fit,decide_eq_true_eq,Bool.and_true] at hx hy
    subst hx; subst hy
    simp[valOf,agT,hu,Op.equalIn,zP,yq,zU,eqL,eq1]
  ·cases h
   match xs,ys,hx,hy with
   | [.string a],[.string b],_,_=>simp[valOf,agT,hu,Op.equalIn,zP,yq,zU,eqL,eq1]
  ·rename_i n e
   split at h
   rotate_left
   ·cases h
   rename_i ls hk
   split at h
   rotate_left
   ·cases h
   rename_i hz
   cases h
   rw[af7] at lx ly
   simp only[valOf,agT,hu,if_true,Op.equalIn,zP,yq,Option.bind_some,XO,hz]
   have hloop:=QQ (P:=P) (fun i=>do
     let x ← part e xs.toArray (i*ls.length)
     let y ← part e ys.toArray (i*ls.length)
     Op.equalIn d e x y) (List.range' 0 n) (fun m=>eqL (xs.drop ((n-m.length)*ls.length)) (ys.drop ((n-m.length)*ls.length)))
    (by
     simp only[List.length_nil,Nat.sub_zero]
     rw[List.drop_of_length_le (by omega),List.drop_of_length_le (by omega)]; rfl)
    (by
     rintro a m ⟨p,hp⟩
     have hlen:p.length+(m.length+1)=n:=by
      have:=congrArg List.length hp
      simpa using this
     have ha:a=p.length:=by
      have:=congrArg (·[p.length]?) hp
      simp only[List.getElem?_append_right (Nat.le_refl _),Nat.sub_self,List.getElem?_cons_zero] at this
      rw[List.getElem?_range' (by omega)] at this
      simpa using this
     have hmul:a*ls.length+ls.length≤n*ls.length:=by
      rw[← Nat.succ_mul]; exact Nat.mul_le_mul_right _ (by omega)
     have e1:n-(a::m).length=a:=by simp only[List.length_cons]; omega
     have e2:(n-m.length)*ls.length=a*ls.length+ls.length:=by
      have:n-m.length=a+1:=by omega
      rw[this,Nat.succ_mul]
     have f1:=bn hx (a:=a) (by omega)
     have f2:=bn hy (a:=a) (by omega)
     have p1:=eQ (xs:=xs) (off:=a*ls.length) hk hz (by omega)
     have p2:=eQ (xs:=ys) (off:=a*ls.length) hk hz (by omega)
     refine ⟨_,by simp only[zP,p1,p2,Option.bind_some]; exact qr d _ _ _ _ hk f1 f2,?_⟩
     simp only[e1,e2]
     rw[Ri (n:=ls.length) (by simp; omega),List.drop_drop,List.drop_drop])
   simp only[List.length_range',Nat.sub_self,Nat.zero_mul,List.drop_zero] at hloop
   simp only[bind_assoc] at hloop
   rw[Std.Legacy.Range.forIn_eq_forIn_range']
   simp only[Std.Legacy.Range.size,Nat.sub_zero,Nat.add_sub_cancel,Nat.div_one] at hloop ⊢
   rw[hloop]
   cases eqL xs ys<;>simp[zU]
  ·rename_i fs
   split at h
   ·cases h
   rename_i hs
   simp only[valOf,agT,hu,if_true,Op.equalIn,zP,yq,Option.bind_some]
   simp only[program,zt,Option.bind_some,hs]
   have:=Jh (xs:=xs) (ys:=ys) h (by omega) (by omega) (by simpa using hx) (by simpa using hy) (qr d)
   simp only[Bool.false_eq_true,if_false]
   rw[← Array.forIn_toList,zP,this]
   simp only[List.drop_zero,Option.bind_some]
   cases eqL xs ys<;>rfl
  ·cases h
def fg (n:Nat) (l:List AV):Bool:=decide (l.length=n)&&l.all fun | .val (.int .i64 _)=>true | _=>false
def qU:List AV→List Int
 | .val (.int _ x)::r=>x::qU r
 | _=>[]
theorem ZP (l:List Int):qU (l.map iv)=l:=by
 induction l with
 | nil=>rfl
 | cons x l ih=>simp[qU,ih]
theorem TN (n:Nat) (l:List Int):fg n (l.map iv)=decide (l.length=n):=by simp[fg]
theorem Rq:∀ {l:List AV},(l.all fun | .val (.int .i64 _)=>true | _=>false)=true→∃ xs:List Int,l=xs.map iv
 | [],_=>⟨[],rfl⟩
 | x::l,h=>by
  simp only[List.all_cons,Bool.and_eq_true] at h
  obtain ⟨xs,rfl⟩:=Rq h.2
  match x,h.1 with
  | .val (.int .i64 n),_=>exact ⟨n::xs,rfl⟩
theorem Xf:∀ l:List Int,sK (l.map iv)=some (l.map (Value.int .i64))
 | []=>rfl
 | x::l=>by simp[sK,Xf l]
theorem Nz:∀ (a b:List Int),eqL (a.map (Value.int .i64)) (b.map (Value.int .i64))=decide (a=b)
 | [],[]=>rfl
 | [],_::_=>by simp[eqL]
 | _::_,[]=>by simp[eqL]
 | x::a,y::b=>by
  simp only[List.map_cons,eqL,eq1,Nz a b,List.cons.injEq,Bool.decide_and]
  rfl
theorem dX:∀ (a:List Int),uD (List.replicate a.length (.i .i64)) (a.map (Value.int .i64))=true
 | []=>rfl
 | x::a=>by simp[List.replicate_succ,uD,Kd.fit,dX a]
theorem TH {P:Program} {op:BinOp} {t:TypeId} {ox oy:Operand} {xs ys:Array Value} (hg:P.eqGuardType P.depth t=false):zt P (eqGuard op t ox oy (.agg xs) (.agg ys))=some ():=by
 have e:zt P program=some P:=rfl
 unfold eqGuard
 cases op<;>simp[zP,e,hg,zU]
section
variable {P:Program} {t n:Nat} {ox oy:Operand} {a b:List AV} {K:AV→Option ze→Prop} {σ:Nat→Option ze}
theorem sQ (hk:kds P Op.maxDepth t=some (List.replicate n (.i .i64))) (hg:P.eqGuardType P.depth t=false) (hA:agT P t=true)
  (ha:fg n a=true) (hb:fg n b=true):yc P .eql t ox oy [.agg a,.agg b] K=K (bv (decide (qU a=qU b))) none:=by
 simp only[fg,Bool.and_eq_true,decide_eq_true_eq] at ha hb
 obtain ⟨xs,rfl⟩:=Rq ha.2
 obtain ⟨ys,rfl⟩:=Rq hb.2
 simp only[List.length_map] at ha hb
 have e:=qr Op.maxDepth t _ (xs.map (Value.int .i64)) (ys.map (Value.int .i64)) hk (by rw[← ha.1]; exact dX xs) (by rw[← hb.1]; exact dX ys)
 simp only[valOf,hA,if_true] at e
 have e2:zt P (Op.equal t (.agg (xs.map (Value.int .i64)).toArray) (.agg (ys.map (Value.int .i64)).toArray))=some (decide (xs=ys)):=by rw[← Nz]; exact e
 have e1:binOp .eql t (.agg (xs.map (Value.int .i64)).toArray) (.agg (ys.map (Value.int .i64)).toArray)=(do pure (.bool (← Op.equal t (.agg (xs.map (Value.int .i64)).toArray) (.agg (ys.map (Value.int .i64)).toArray)))):=rfl
 simp only[yc,toV,Xf,Option.map_some,zP,TH hg,e1,e2,Option.bind_some,zU,yR,ofV,y7,ZP]
theorem aV {x y:Bool} (hu:P.underlying t=some .bool):yc P .eql t ox oy [bv x,bv y] K=K (bv (x == y)) none:=by
 have e1:binOp .eql t (.bool x) (.bool y)=(do pure (.bool (← Op.equal t (.bool x) (.bool y)))):=rfl
 have e2:zt P (eqGuard .eql t ox oy (.bool x) (.bool y))=some ():=rfl
 have e3:zt P (Op.equal t (.bool x) (.bool y))=some (x == y):=by
  have e4:∀ d:Nat,zt P (Op.equalIn (d+1) t (.bool x) (.bool y))=some (x == y):=fun d=>by
   simp only[Op.equalIn,zP,yq,hu,Option.bind_some,zU]
  exact e4 9999
 simp only[yc,toV,zP,e1,e2,e3,Option.bind_some,zU,yR,ofV,y7]
theorem y9 {x y:Bool} (hu:P.underlying t=some .bool):yc P .neq t ox oy [bv x,bv y] K=K (bv (!(x == y))) none:=by
 have e1:binOp .neq t (.bool x) (.bool y)=(do pure (.bool (!(← Op.equal t (.bool x) (.bool y))))):=rfl
 have e2:zt P (eqGuard .neq t ox oy (.bool x) (.bool y))=some ():=rfl
 have e3:zt P (Op.equal t (.bool x) (.bool y))=some (x == y):=by
  have e4:∀ d:Nat,zt P (Op.equalIn (d+1) t (.bool x) (.bool y))=some (x == y):=fun d=>by
   simp only[Op.equalIn,zP,yq,hu,Option.bind_some,zU]
  exact e4 9999
 simp only[yc,toV,zP,e1,e2,e3,Option.bind_some,zU,yR,ofV,y7]
theorem za {f:FuncId} {xs args:List AV} {r:AV} (h:zd P f args r) (hs:yu (wM σ) xs=some args) (hp:xs.any sS=false∨pf r=true) (hk:K r none):wa P f σ xs K:=by
 unfold wa
 rw[hs]
 refine ⟨r,h,fun hr=>?_,hk⟩
 rcases hp with hp | hp
 ·rw[hp] at hr; cases hr
 ·exact hp
end
theorem QM {k k':AV→Option ze→Prop} (hk:∀ x e,k x e→k' x e):∀ {x:Option Value},yR x k→yR x k'
 | some _,h=>hk _ _ h
 | none,h=>h
theorem qp {k k':AV→Option ze→Prop} (hk:∀ x e,k x e→k' x e):∀ {x:Option AV},xK x k→xK x k'
 | some _,h=>hk _ _ h
 | none,h=>h
theorem Tf {n lo hi mx xs} {k k':Nat→Nat→Bool→Prop} (hk:∀ x e f,k x e f→k' x e f):wT n lo hi mx xs k→wT n lo hi mx xs k':=by
 unfold wT
 repeat' split
 all_goals grind
theorem EL {P:Program} {op t ox oy xs} {k k':AV→Option ze→Prop} (hk:∀ x e,k x e→k' x e):yc P op t ox oy xs k→yc P op t ox oy xs k':=by
 match xs with
 | []=>exact id
 | [_]=>exact id
 | [x,y] =>
  simp only[yc]
  cases toV x<;>cases toV y<;>first | exact qp hk | exact QM hk
 | _::_::_::_=>exact id
theorem Gt {σ n xs} {k k':AV→Option ze→Prop} (hk:∀ x e,k x e→k' x e):kh σ n xs k→kh σ n xs k':=by
 unfold kh
 split
 ·split
  ·exact qp hk
  ·exact id
 ·split
  ·refine fun ⟨a,b⟩=>⟨a,?_⟩
   revert b
   split
   ·exact qp hk
   ·exact id
  ·exact id
 ·exact qp hk
 ·split
  ·refine fun ⟨a,b⟩=>⟨a,?_⟩
   revert b
   split
   ·exact qp hk
   ·exact id
  ·exact id
 ·exact id
theorem Gs {str x} {k k':AV→Option ze→Prop} (hk:∀ x e,k x e→k' x e):qQ str k x→qQ str k' x:=by
 unfold qQ
 split<;>first | exact id | exact fun ⟨a,b⟩=>⟨a,hk _ _ b⟩
theorem TF {P:Program} {f σ xs} {k k':AV→Option ze→Prop} (hk:∀ x e,k x e→k' x e):wa P f σ xs k→wa P f σ xs k':=by
 unfold wa
 cases yu (wM σ) xs with
 | none=>exact id
 | some args=>exact fun ⟨r,h1,h2,h3⟩=>⟨r,h1,h2,hk _ _ h3⟩
theorem Nu {P:Program} {t ok σ xs} {k k':AV→Option ze→Prop} (hk:∀ x e,k x e→k' x e):uL P t ok σ xs k→uL P t ok σ xs k':=by
 unfold uL
 repeat' split
 all_goals first | exact id | exact hk _ _
theorem bh {P:Program} {d op xs σ} {k k':AV→Option ze→Prop} (hk:∀ x e,k x e→k' x e):zJ P d op xs σ k→zJ P d op xs σ k':=by
 unfold zJ
 repeat' split
 all_goals first
  | exact id
  | exact hk _ _
  | exact QM hk
  | exact qp hk
  | exact EL hk
  | exact Gt hk
  | exact Nu hk
  | exact TF hk
  | (unfold nP; repeat' split<;>first | exact id | grind)
  | (unfold wY; repeat' split<;>first | exact id | grind)
  | (unfold eMk; repeat' split<;>first | exact id | grind)
  | (unfold lj; split<;>first | exact id | exact Gs hk)
  | (unfold pI; repeat' split<;>first | exact id | exact fun ⟨h1,h2⟩=>⟨h1,Tf (fun _ _ _=>hk _ _) h2⟩)
  | exact Tf (fun _ _ _ h=>⟨h.1,hk _ _ h.2⟩)
  | exact fun ⟨a,b⟩=>⟨a,TF hk b⟩
  | exact fun ⟨a,b⟩=>⟨a,hk _ _ b⟩
  | exact fun ⟨a,b,c⟩=>⟨a,b,hk _ _ c⟩
  | exact fun ⟨a,b,c⟩=>⟨a,b,qp hk c⟩
  | exact fun ⟨a,b⟩=>⟨fun h=>hk _ _ (a h),fun h=>hk _ _ (b h)⟩
  | skip
theorem gz {σ sz x} {k k':List (List AV)→Prop} (hk:∀ x,k x→k' x):yY σ sz x k→yY σ sz x k':=by
 unfold yY
 repeat' split
 all_goals grind
theorem LW {n s dst xs} {K K':St→Prop} (hk:∀ s,K s→K' s):mD n s dst xs K→mD n s dst xs K':=by
 unfold mD
 repeat' split
 all_goals grind
theorem Nq {n b s dst xs} {K K':St→Prop} (hk:∀ s,K s→K' s):xH n b s dst K xs→xH n b s dst K' xs:=by
 unfold xH
 split
 ·refine gz fun rows h=>⟨h.1,h.2.1,h.2.2.1,?_⟩
  have:=h.2.2.2
  revert this
  repeat' split
  all_goals grind
 ·refine fun ⟨h1,h⟩=>⟨h1,?_⟩
  revert h
  split
  ·exact fun h=>⟨h.1,hk _ h.2⟩
  ·exact id
 ·exact id
theorem Gq {n s dst xs} {K K':St→Prop} (hk:∀ s,K s→K' s):ba n s dst K xs→ba n s dst K' xs:=by
 unfold ba
 split
 ·refine fun ⟨a,a2,b⟩=>⟨a,a2,?_⟩
  unfold dU at b ⊢
  revert b
  split
  ·exact id
  ·refine gz fun rows h=>?_
   revert h
   split<;>grind
 ·exact id
theorem aJ {σ sz x} {k k':List (List AV)→Prop} (hk:∀ x,k x→k' x):xi σ sz x k→xi σ sz x k':=by
 unfold xi
 split
 ·split
  ·exact fun ⟨a,b,c,d⟩=>⟨a,b,c,hk _ d⟩
  ·exact fun ⟨_,h⟩=>h.elim
 ·exact fun ⟨a,b⟩=>⟨a,hk _ b⟩
 ·exact gz hk
theorem Q7 {n b s dst xs} {K K':St→Prop} (hk:∀ s,K s→K' s):xk n b s dst K xs→xk n b s dst K' xs:=by
 unfold xk
 split
 ·refine aJ fun rows h=>⟨h.1,h.2.1,h.2.2.1,?_⟩
  have:=h.2.2.2
  revert this
  split
  ·exact fun ⟨a,b,c⟩=>⟨a,b,hk _ c⟩
  ·exact id
 ·refine aJ fun rows h=>⟨h.1,h.2.1,h.2.2.1,?_⟩
  have:=h.2.2.2
  revert this
  split
  ·exact fun ⟨a,b,c,d,e⟩=>⟨a,b,c,d,hk _ e⟩
  ·exact id
 ·exact id
theorem Rg {n b z ps s dst xs} {K K':St→Prop} (hk:∀ s,K s→K' s):nQ n b z ps s dst K xs→nQ n b z ps s dst K' xs:=by
 unfold nQ
 split
 ·exact fun ⟨a,b,c,d⟩=>⟨a,b,c,hk _ d⟩
 ·exact id
theorem Nw {P t s dst xs} {K K':St→Prop} (hk:∀ s,K s→K' s):tE P t s dst K xs→tE P t s dst K' xs:=by
 unfold tE
 repeat' split
 all_goals first | exact id | exact fun ⟨a,b⟩=>⟨a,hk _ b⟩
theorem cx {P f args s} {K K':AV→St→Prop} (hk:∀ r s,K r s→K' r s) (h:z0 P f args s K):z0 P f args s K' :=
 fun F a w I β lam hI vs hs hR=>(h F a w I β lam hI vs hs hR).mono fun _e _w' ⟨v,he,r,s',I',β',lam',hK,h⟩=>⟨v,he,r,s',I',β',lam',hk _ _ hK,h⟩
theorem XB {P f xs s dst} {K K':St→Prop} (hk:∀ s,K s→K' s):tD P f xs s dst K→tD P f xs s dst K' :=
 cx fun _ _ h=>⟨h.1,hk _ h.2⟩
theorem PT {P o s} {K K':St→Prop} (hk:∀ s,K s→K' s):xw P o s K→xw P o s K':=by
 have hop:yv P o s K→yv P o s K':=by
  unfold yv
  split
  ·unfold ZG
   split
   ·exact bh fun _ _ h=>⟨h.1,h.2.1,hk _ h.2.2⟩
   ·exact id
  ·have hc:∀ {op:AOp} {xs:List AV},ZG P op s o.dst K xs→ZG P op s o.dst K' xs:=by
    unfold ZG
    split
    ·exact bh fun _ _ h=>⟨h.1,h.2.1,hk _ h.2.2⟩
    ·exact id
   have hs:bf s o.dst K→bf s o.dst K':=by
    unfold bf
    split
    ·exact fun h=>⟨h.1,h.2.1,hk _ h.2.2⟩
    ·exact id
   split
   ·exact fun h=>⟨fun e=>hc (h.1 e),fun e=>hs (h.2 e)⟩
   ·exact hs
   ·exact id
  ·exact fun ⟨a,b⟩=>⟨a,hk _ b⟩
  ·exact LW hk
  ·exact Nq hk
  ·exact Gq hk
  ·exact Q7 hk
  ·exact Rg hk
  ·exact Nw hk
  ·unfold eG
   split
   ·split
    ·exact fun ⟨a,b⟩=>⟨fun h=>⟨hk _ (a h).1,hk _ (a h).2⟩,fun h=>hk _ (b h)⟩
    ·exact id
   ·exact id
  ·exact fun ⟨a,b⟩=>⟨a,XB hk b⟩
  ·split
   ·exact fun ⟨a,b⟩=>⟨a,XB hk b⟩
   ·exact id
  ·rintro ⟨a,⟨b,c⟩ | c⟩
   ·exact ⟨a,.inl ⟨b,fun D=>cx (fun _ _ ⟨A,h1,h2,h3,h4⟩=>⟨A,h1,h2,h3,hk _ h4⟩) (c D)⟩⟩
   ·exact ⟨a,.inr fun D hD=>cx (fun _ _ ⟨A,h1,h2,h3,h4⟩=>⟨A,h1,h2,h3,hk _ h4⟩) (c D hD)⟩
  ·exact bh fun _ _=>hk _
 unfold xw
 repeat' split
 ·exact hop
 ·exact fun ⟨a,b⟩=>⟨fun h=>hop (a h),fun h=>hk _ (b h)⟩
 ·exact hk _
 ·exact id
theorem Xo {P}:∀ {os s} {K K':St→Prop},(∀ s,K s→K' s)→zj P os s K→zj P os s K'
 | [],_,_,_,hk,h=>hk _ h
 | _::_,_,_,_,hk,h=>PT (fun _=>Xo hk) h
theorem ZK:∀ {ks s} {K K':St→Prop},(∀ s,K s→K' s)→s4 ks s K→s4 ks s K'
 | [],_,_,_,hk,h=>hk _ h
 | k::ks,s,K,K',hk,h=>by
  simp only[s4,xf] at h ⊢
  split at h
  ·exact ⟨h.1,ZK hk h.2⟩
  ·exact h
theorem xP {P}:∀ {c s} {K K':Exit→St→Prop},(∀ e s,K e s→K' e s)→awp P c s K→awp P c s K'
 | .skip,_,_,_,hk,h=>hk _ _ h
 | .region ..,_,_,_,hk,h=>ZK (fun _=>Xo fun _ h=>by
   unfold YQ at h ⊢
   exact ⟨h.1,hk _ _ h.2⟩) h
 | .seq a b,s,K,K',hk,h=>by
  simp only[awp] at h ⊢
  refine xP (fun e s h=>?_) h
  cases e<;>first | exact xP hk h | exact hk _ _ h
 | .cond c a b,s,K,K',hk,h=>by
  simp only[awp] at h ⊢
  split at h
  ·exact ⟨fun e=>xP hk (h.1 e),fun e=>xP hk (h.2 e)⟩
  ·exact h
 | .block i b,s,K,K',hk,h=>by
  simp only[awp] at h ⊢
  refine xP (fun e s h=>?_) h
  cases e<;>simp only[Te] at h ⊢<;>grind
 | .loop b,s,K,K',hk,⟨J,n,s0,hi,h0,h⟩=>⟨J,n,s0,hi,h0,fun n s hj=>xP (fun e s h=>by
   cases e<;>simp only[abN] at h ⊢<;>grind) (h n s hj)⟩
 | .goto _,_,_,_,hk,h=>hk _ _ h
 | .again l b,s,K,K',hk,⟨J,n,s0,hi,h0,h⟩=>⟨J,n,s0,hi,h0,fun n s hj=>xP (fun e s h=>by
   cases e<;>simp only[Eb] at h ⊢<;>grind) (h n s hj)⟩
 | .exit i,_,_,_,hk,h=>hk _ _ h
 | .ret,_,_,_,hk,h=>hk _ _ h
section
variable {P:Program} {s:St} {K:Exit→St→Prop} {KS:St→Prop} {os:List zh} {d:Nat}
def mmA (P:Program) (b:Builtin) (ts:Array TypeId) (t:TypeId) (xs:List AV):Option AV :=
 match sK xs with
 | some vs=>(zt P (if b=.max then Builtin.max_ ts t vs.toArray else Builtin.min_ ts t vs.toArray)).map ofV
 | none=>none
theorem afW {b:Builtin} {ts:Array TypeId} {t:TypeId} {xs:List Opd}:zj P (⟨some d,.mm b ts t,xs,none⟩::os) s KS=nz (mmA P b ts t (xs.map (ev s))) P os s d KS:=by
 show zJ P (s.base+d) (.mm b ts t) (xs.map (ev s)) (lk s.sto) (xv P os s (some d) KS)=_
 simp only[zJ,mmA]
 cases sK (xs.map (ev s)) with
 | none=>rfl
 | some vs=>simp only[Mq]
theorem adc {ts:Array TypeId} {t:TypeId} {x y:Int}:mmA P .max ts t [iv x,iv y]=some (iv (max x y)):=by
 simp only[mmA,sK,Builtin.max_,Option.map_some,if_true,List.foldlM,zP]
 simp only[Builtin.max2,zU,Option.bind_some,Option.map_some,ofV,y7]
 by_cases h:y > x
 ·rw[if_pos h,Int.max_eq_right (by omega)]
 ·rw[if_neg h,Int.max_eq_left (by omega)]
theorem ade {ts:Array TypeId} {t:TypeId} {x y:Int}:mmA P .min ts t [iv x,iv y]=some (iv (min x y)):=by
 have e:(Go.Builtin.min=Go.Builtin.max)=False:=by simp
 simp only[mmA,sK,Builtin.min_,Option.map_some,e,if_false,List.foldlM,zP]
 simp only[Builtin.min2,zU,Option.bind_some,Option.map_some,ofV,y7]
 by_cases h:y<x
 ·rw[if_pos h,Int.min_eq_right (by omega)]
 ·rw[if_neg h,Int.min_eq_left (by omega)]
def SG (st:Nat→St) (k:Nat) (K:Exit→St→Prop):Exit→St→Prop
 | .normal,s=>s=st k
 | e,s=>K e s
def uW (K:Exit→St→Prop):Exit→St→Prop
 | .normal,_=>False
 | e,s=>K e s
theorem Ll {st:Nat→St} {k:Nat}:SG st k K .normal s=(s=st k):=rfl
theorem FU {st:Nat→St} {k j:Nat}:SG st k K (.exit j) s=K (.exit j) s:=rfl
theorem CX {st:Nat→St} {k:Nat}:SG st k K .ret s=K .ret s:=rfl
theorem GR {j:Nat}:uW K (.exit j) s=K (.exit j) s:=rfl
theorem De:uW K .ret s=K .ret s:=rfl
theorem N0:uW K .normal s=False:=rfl
theorem ab9 {a:zc} (st:Nat→St) (N:Nat) (h0:s=st 0) (h1:∀ k,k<N→awp P a (st k) (SG st (k+1) K)) (h2:awp P a (st N) (uW K)):awp P (.loop a) s K:=by
 refine ⟨fun n s=>∃ k,k≤N∧n=N-k∧s=st k,N,s,St.imp.refl,⟨0,by omega,by omega,h0⟩,?_⟩
 rintro n s ⟨k,hk,rfl,rfl⟩
 by_cases h:k<N
 ·refine xP (fun e s hs=>?_) (h1 k h)
  cases e with
  | normal=>exact ⟨N-(k+1),s,by omega,St.imp.refl,k+1,by omega,rfl,hs⟩
  | _=>exact hs
 ·obtain rfl:k=N:=by omega
  refine xP (fun e s hs=>?_) h2
  cases e with
  | normal=>exact hs.elim
  | _=>exact hs
theorem FV {st:Nat→St} {k j:Nat}:SG st k K (.goto j) s=K (.goto j) s:=rfl
theorem GS {j:Nat}:uW K (.goto j) s=K (.goto j) s:=rfl
def qu {α:Type} (m:List (Nat × α)):List (Nat × α)→Prop
 | []=>True
 | (t,x)::l=>lk m t=some x∧qu m l
theorem Xe {α:Type} {m l:List (Nat × α)} (h:qu m l) {t:Nat} {x:α} (hx:lk l t=some x):lk m t=some x:=by
 induction l with
 | nil=>simp[lk] at hx
 | cons p l ih =>
  obtain ⟨u,y⟩:=p
  obtain ⟨h1,h2⟩:=h
  simp only[lk] at hx
  split at hx
  ·rename_i e; cases hx; rw[← e]; exact h1
  ·exact ih h2 hx
theorem R3 {α:Type} {m l:List (Nat × α)} (h:qu m l) (h':qu l m):lk l=lk m:=by
 funext t
 cases h1:lk l t with
 | some x=>exact (Xe h h1).symm
 | none =>
  cases h2:lk m t with
  | none=>rfl
  | some y=>rw[Xe h' h2] at h1; cases h1
def lD (s s':St):Prop:=qu s.env s'.env∧(s'.sto=s.sto∨lk s'.sto=lk s.sto∨(qu s.sto s'.sto∧qu s'.sto s.sto))∧s'.out=s.out
theorem St.imp_of {s s':St} (h:lD s s'):St.imp s s':=by
 obtain ⟨h1,h2,h3⟩:=h
 rintro F a w ⟨I,β,lam,hI⟩
 have e:lk s'.sto=lk s.sto:=by
  rcases h2 with h2 | h2 | h2
  ·rw[h2]
  ·exact h2
  ·exact R3 h2.1 h2.2
 refine ⟨I,β,lam,{hI with env:=fun t x hx=>hI.env t x ?_,sto:=by rw[e]; exact hI.sto,usto:=by rw[e]; exact hI.usto,bdom:=by rw[e]; exact hI.bdom}⟩
 obtain ⟨d,t⟩:=t
 cases d with
 | zero=>exact Xe h1 hx
 | succ d =>
  simp only[St.look] at hx ⊢
  rw[← h3]; exact hx
theorem qv {α:Type} {m:List (Nat × α)}:qu m []=True:=rfl
theorem t8 {α:Type} {m l:List (Nat × α)} {t:Nat} {x:α}:qu m ((t,x)::l)=(lk m t=some x∧qu m l):=rfl
theorem acY {e e':List (Nat × AV)} {σ σ':List (Nat × ze)} {o o':List (List (Nat × AV))} {b b':Nat}:lD ⟨e,σ,o,b⟩ ⟨e',σ',o',b'⟩=(qu e e'∧(σ'=σ∨lk σ'=lk σ∨(qu σ σ'∧qu σ' σ))∧o'=o):=rfl
def stepW (st:Nat→St) (I:Nat→Prop) (k:Nat) (K:Exit→St→Prop):Exit→St→Prop
 | .normal,s=>lD s (st k)∧I k
 | e,s=>K e s
theorem Yq {st:Nat→St} {I:Nat→Prop} {k:Nat}:stepW st I k K .normal s=(lD s (st k)∧I k):=rfl
theorem FW {st:Nat→St} {I:Nat→Prop} {k j:Nat}:stepW st I k K (.exit j) s=K (.exit j) s:=rfl
theorem CY {st:Nat→St} {I:Nat→Prop} {k:Nat}:stepW st I k K .ret s=K .ret s:=rfl
theorem FX {st:Nat→St} {I:Nat→Prop} {k j:Nat}:stepW st I k K (.goto j) s=K (.goto j) s:=rfl
theorem zr {a:zc} (st:Nat→St) (I:Nat→Prop) (N:Nat) (h0:lD s (st 0)) (i0:I 0) (h1:∀ k,k<N→I k→awp P a (st k) (stepW st I (k+1) K)) (h2:I N→awp P a (st N) (uW K)) :
  awp P (.loop a) s K:=by
 refine ⟨fun n s=>∃ k,k≤N∧n=N-k∧s=st k∧I k,N,st 0,St.imp_of h0,⟨0,by omega,by omega,rfl,i0⟩,?_⟩
 rintro n s ⟨k,hk,rfl,rfl,hi⟩
 by_cases h:k<N
 ·refine xP (fun e s hs=>?_) (h1 k h hi)
  cases e with
  | normal=>exact ⟨N-(k+1),st (k+1),by omega,St.imp_of hs.1,k+1,by omega,rfl,rfl,hs.2⟩
  | _=>exact hs
 ·obtain rfl:k=N:=by omega
  refine xP (fun e s hs=>?_) (h2 hi)
  cases e with
  | normal=>exact hs.elim
  | _=>exact hs
def TL (l:Nat) (st:Nat→St) (I:Nat→Prop) (k:Nat) (K:Exit→St→Prop):Exit→St→Prop
 | .goto i,s=>i=l∧lD s (st k)∧I k
 | e,s=>K e s
def TP (K:Exit→St→Prop):Exit→St→Prop
 | .goto _,_=>False
 | e,s=>K e s
theorem GH {l j:Nat} {st:Nat→St} {I:Nat→Prop} {k:Nat}:TL l st I k K (.goto j) s=(j=l∧lD s (st k)∧I k):=rfl
theorem GG {l j:Nat} {st:Nat→St} {I:Nat→Prop} {k:Nat}:TL l st I k K (.exit j) s=K (.exit j) s:=rfl
theorem E8 {l:Nat} {st:Nat→St} {I:Nat→Prop} {k:Nat}:TL l st I k K .ret s=K .ret s:=rfl
theorem NO {l:Nat} {st:Nat→St} {I:Nat→Prop} {k:Nat}:TL l st I k K .normal s=K .normal s:=rfl
theorem GT {j:Nat}:TP K (.exit j) s=K (.exit j) s:=rfl
theorem Df:TP K .ret s=K .ret s:=rfl
theorem N1:TP K .normal s=K .normal s:=rfl
theorem GU {j:Nat}:TP K (.goto j) s=False:=rfl
theorem Gb {a:zc} {l:Nat} (st:Nat→St) (I:Nat→Prop) (N:Nat) (h0:lD s (st 0)) (i0:I 0) (h1:∀ k,k<N→I k→awp P a (st k) (TL l st I (k+1) K)) (h2:I N→awp P a (st N) (TP K)) :
  awp P (.again l a) s K:=by
 refine ⟨fun n s=>∃ k,k≤N∧n=N-k∧s=st k∧I k,N,st 0,St.imp_of h0,⟨0,by omega,by omega,rfl,i0⟩,?_⟩
 rintro n s ⟨k,hk,rfl,rfl,hi⟩
 by_cases h:k<N
 ·refine xP (fun e s hs=>?_) (h1 k h hi)
  cases e with
  | goto i=>exact ⟨hs.1,N-(k+1),st (k+1),by omega,St.imp_of hs.2.1,k+1,by omega,rfl,rfl,hs.2.2⟩
  | _=>exact hs
 ·obtain rfl:k=N:=by omega
  refine xP (fun e s hs=>?_) (h2 hi)
  cases e with
  | goto i=>exact hs.elim
  | _=>exact hs
end
def vR (sz d:Nat) (rows:List (List AV)):AV:=.list (if rows=[] then 0 else sz) (if rows=[] then .full else .own d) rows
abbrev Mr (sz:Nat) (rows:List (List AV)):AV:=.list (if rows=[] then 0 else sz) (if rows=[] then .full else .plain) rows
theorem aC {sz d:Nat} {rows:List (List AV)}:strip (vR sz d rows)=Mr sz rows:=by
 unfold vR Mr
 split<;>rfl
theorem JM {sz d:Nat} {rows:List (List AV)}:rf (vR sz d rows)=true:=rfl
theorem XT {sz d k:Nat} {rows:List (List AV)}:zT k (vR sz d rows)=false:=by simp[vR,zT]
theorem EP {sz d:Nat} {rows:List (List AV)} {K:AV→Option ze→Prop}:lj false [vR sz d rows] K=K (.val (.int .i64 rows.length)) none:=by simp[vR,lj]
theorem Br {sz d:Nat}:vR sz d []=.list 0 .full []:=rfl
theorem QX {sz d:Nat} {rows:List (List AV)} {σ:Nat→Option ze}:wM σ (vR sz d rows)=some (Mr sz rows):=by
 rw[← aC (d:=d)]; rfl
theorem afj {l:Nat} {v:Value}:dg l (.val v)=.val v:=rfl
theorem afh {l:Nat} {v:List AV}:dg l (.agg v)=.agg v:=rfl
theorem agR {l:Nat} {v:List AV}:dg l (.ro v)=.ro v:=rfl
theorem afi {l k o:Nat}:dg l (.ptr k o)=.ptr k o:=rfl
theorem BU {l sz:Nat} {r:List (List AV)}:dg l (.list sz .plain r)=.list sz .plain r:=rfl
theorem acC {l sz:Nat} {r:List (List AV)}:dg l (.list sz .full r)=.list sz .full r:=rfl
theorem agS {l k sz off n:Nat}:dg l (.sl k sz off n)=.sl k sz off n:=rfl
theorem agV {l k sz off n:Nat}:dg l (.us k sz off n)=if k=l then .undef else .us k sz off n:=rfl
theorem agU {l k sz i off:Nat}:dg l (.up k sz i off)=if k=l then .undef else .up k sz i off:=rfl
theorem BW {l:Nat}:dg l .undef=.undef:=rfl
theorem acB {l k sz i o:Nat}:dg l (.eptr k sz i o)=.eptr k sz i o:=rfl
theorem BT {l:Nat} {t:TypeId} {x:AV}:dg l (.iface t x)=.iface t x:=rfl
theorem agQ {l:Nat} {f:Fn} {caps:List AV}:dg l (.fn f caps)=if caps.any (lY l)=true then .undef else .fn f caps:=rfl
theorem BV {l:Nat} {caps:List AV}:dg l (.tuple caps)=if caps.any (lY l)=true then .undef else .tuple caps:=rfl
theorem acA {l sz d:Nat} {rows:List (List AV)} (h:d≠l):dg l (vR sz d rows)=vR sz d rows:=by
 by_cases e:rows=[]
 ·simp[vR,e,dg]
 ·simp[vR,e,dg,h]
theorem ZF {sz by_ d l:Nat} {s:St} {KS:St→Prop} {rows:List (List AV)} {m:Mode} {x:List AV} {xs:List (List AV)} (h0:0<sz) (h1:s.base+d=l) :
  xH sz by_ s (some d) KS [vR sz l rows,.list sz m (x::xs)] =
   ((rows.length+(xs.length+1))*by_≤140737488355328∧rows.length+(xs.length+1)≤9223372036854775807∧lk s.sto l=none∧KS ((s.dg l).put (some d) (vR sz l (rows++x::xs)))):=by
 subst h1
 unfold vR
 by_cases h:rows=[]
 ·subst h
  simp[xH,yY,h0,St.put]
 ·simp[xH,yY,h0,h,St.put]
theorem LZ {l:List Int} {off n:Nat} (h:l.length=n) (h0:off=0):zB (l.map iv) off (some n)=some (.agg (l.map iv)):=by
 subst h0
 exact Qy h
def stm:Mode→Mode
 | .own _=>.plain
 | m=>m
theorem pd {sz:Nat} {m:Mode} {rows:List (List AV)}:strip (.list sz m rows)=.list sz (stm m) rows:=by cases m<;>rfl
theorem CZ:stm .plain=.plain:=rfl
theorem abh:stm .full=.full:=rfl
theorem aek {l:Nat}:stm (.own l)=.plain:=rfl
theorem vV {cells:List AV} {n:Nat} (h:cells.length=n) (h2:cells.all rf=true):zB cells 0 (some n)=some (.agg (cells.map strip)):=by
 simp only[zB,List.drop_zero]
 rw[List.take_of_length_le (by omega),if_pos ⟨by omega,h2⟩]
theorem ael {m:Mode}:stm (stm m)=stm m:=by cases m<;>rfl
theorem acD {l sz:Nat} {m:Mode} {r:List (List AV)} (h:stm m=m):dg l (.list sz m r)=.list sz m r:=by
 cases m with
 | own k=>cases h
 | _=>rfl
theorem aai {s:St} {d:Nat} {x:AV}:s.put (some d) x=⟨pt s.env d x,s.sto,s.out,s.base⟩:=rfl
attribute [simp] FV GS qv t8 acY Yq FW CY FX GH GG E8 NO GT Df N1 GU
attribute [simp] afW adc ade Ll FU CX N0 GR De ZP TN qU fg aC JM XT EP Br QX afj afh agR afi BU acC agS acA agV agU BW acB BT agQ BV lY ZF aai uA tl St.dg dgE FJ FH pd CZ abh aek ael acD sS lT pf pf1 GQ LZ vV
abbrev XE:=Option (AV × Option ze)
def Pv (n:Nat) (lo hi mx:Bool) (xs:List AV):Option (Nat × Nat × Bool) :=
 match lo,hi,mx,xs with
 | false,false,false,[]=>some (0,n,false)
 | true,false,false,[.val (.int _ l)]=>if 0≤l∧l≤n then some (l.toNat,n,false) else none
 | false,true,false,[.val (.int _ h)]=>if 0≤h∧h≤n then some (0,h.toNat,false) else none
 | true,true,false,[.val (.int _ l),.val (.int _ h)]=>if 0≤l∧l≤h∧h≤n then some (l.toNat,h.toNat,false) else none
 | false,true,true,[.val (.int _ h),.val (.int _ m)]=>if 0≤h∧h=m∧m≤n then some (0,h.toNat,true) else none
 | true,true,true,[.val (.int _ l),.val (.int _ h),.val (.int _ m)]=>if 0≤l∧l≤h∧h=m∧m≤n then some (l.toNat,h.toNat,true) else none
 | _,_,_,_=>none
def Lz:Option Value→XE
 | some v=>some (ofV v,none)
 | none=>none
def avX:Option AV→XE
 | some v=>some (v,none)
 | none=>none
def aix (P:Program) (op:BinOp) (t:TypeId) (ox oy:Operand):List AV→XE
 | [x,y]=>match toV x,toV y with
  | some a,some b=>Lz (zt P (do eqGuard op t ox oy a b; binOp op t a b))
  | _,_=>none
 | _=>none
def ahf (σ:Nat→Option ze) (n:Option Nat):List AV→XE
 | [.ptr j off]=>match σ j with
  | some (.var cells)=>avX (zB cells off n)
  | _=>none
 | [.eptr j sz i off]=>match σ j with
  | some (.arr sz' rows)=>if sz'=sz then (match rows[i]? with
   | some r=>avX (zB r off n)
   | none=>none) else none
  | _=>none
 | [.ro cells]=>avX (zB cells 0 n)
 | [.up l sz i off]=>match σ l with
  | some (.uarr sz' rows)=>if sz'=sz then (match rows[i]? with
   | some r=>avX (zB r off n)
   | none=>none) else none
  | _=>none
 | _=>none
def acW (len esz:Nat):List AV→XE
 | [.ptr j off,.val (.int _ i)]=>if 0≤i∧i<len then some (.ptr j (off+i.toNat * esz),none) else none
 | [.eptr j sz r off,.val (.int _ i)]=>if 0≤i∧i<len then some (.eptr j sz r (off+i.toNat * esz),none) else none
 | [.ro cells,.val (.int _ i)]=>if 0≤i∧i<len then some (.ro (cells.drop (i.toNat * esz)),none) else none
 | [.up j sz r off,.val (.int _ i)]=>if 0≤i∧i<len then some (.up j sz r (off+i.toNat * esz),none) else none
 | _=>none
def acX (sz:Nat):List AV→XE
 | [.list sz' _ rows,.val (.int _ i)]=>if 0≤i∧i<rows.length∧sz'=sz then (match rows[i.toNat]? with
   | some r=>some (.ro r,none)
   | none=>none) else none
 | [.sl j sz' off len,.val (.int _ i)]=>if 0≤i∧i<len∧sz'=sz then some (.eptr j sz (off+i.toNat) 0,none) else none
 | [.us j sz' off len,.val (.int _ i)]=>if 0≤i∧i<len∧sz'=sz then some (.up j sz (off+i.toNat) 0,none) else none
 | [.lit sz' rows,.val (.int _ i)]=>if yF rows=true∧0≤i∧i<(zQ rows).length∧sz'=sz then (match (zQ rows)[i.toNat]? with
   | some r=>some (.ro r,none)
   | none=>none) else none
 | _=>none
def agm (sz:Nat) (lo hi mx:Bool):List AV→XE
 | .list sz' _ rows::xs=>if rows.isEmpty=true∨sz'=sz then (match Pv rows.length lo hi mx xs with
   | some (l,h,f)=>some (.list sz' (if f=true then .full else .plain) ((rows.take h).drop l),none)
   | none=>none) else none
 | .sl j sz' off len::xs=>if sz'=sz then (match Pv len lo hi mx xs with
   | some (l,h,_)=>some (.sl j sz (off+l) (h-l),none)
   | none=>none) else none
 | .us j sz' off len::xs=>if sz'=sz then (match Pv len lo hi mx xs with
   | some (l,h,_)=>some (.us j sz (off+l) (h-l),none)
   | none=>none) else none
 | _=>none
def mkX (sz bytes:Nat) (zero:List AV) (d:Nat) (σ:Nat→Option ze):List AV→XE
 | [.val (.int _ l),.val (.int _ c)] =>
  if l=c∧0≤l∧l*bytes≤140737488355328∧l≤9223372036854775807∧zero.length=sz∧0<sz∧(σ d).isNone=true then
   some (.sl d sz 0 l.toNat,some (.arr sz (List.replicate l.toNat zero))) else none
 | _=>none
def aiR (str:Bool):List AV→XE
 | [.list _ _ rows]=>if str=false then some (.val (.int .i64 rows.length),none) else none
 | [.sl _ _ _ len]=>if str=false then some (.val (.int .i64 len),none) else none
 | [.us _ _ _ len]=>if str=false then some (.val (.int .i64 len),none) else none
 | [.lit _ rows]=>if str=false then some (.val (.int .i64 rows.length),none) else none
 | [.val (.string s)]=>if str=true then some (.val (.int .i64 s.size),none) else none
 | _=>none
def Tz (call:FuncId→List AV→Option AV) (f:FuncId) (σ:Nat→Option ze) (xs:List AV):XE :=
 match yu (wM σ) xs with
 | some args=>match call f args with
  | some r=>if xs.any sS=false∨pf r=true then some (r,none) else none
  | none=>none
 | none=>none
def ac4 (P:Program) (t:TypeId) (ok:Bool) (σ:Nat→Option ze):List AV→XE
 | [.mp j,y]=>match σ j,toV y with
  | some (.map es _),some kv=>match findM P t kv es with
   | some (v,b)=>some (if ok=true then .tuple [ofV v,.val (.bool b)] else ofV v,none)
   | none=>none
  | _,_=>none
 | _=>none
def abG (P:Program) (call:FuncId→List AV→Option AV) (d:Nat) (op:AOp) (xs:List AV) (σ:Nat→Option ze):XE :=
 match op with
 | .mov=>match xs with
  | [x]=>some (x,none)
  | _=>none
 | .pick=>match xs with
  | [.val (.bool t),a,b]=>some (cond t a b,none)
  | _=>none
 | .alloc cells=>if (σ d).isNone=true then some (.ptr d 0,some (.var cells)) else none
 | .box=>match xs with
  | [x]=>match cellsOf x with
   | some cs=>if (σ d).isNone=true then some (.ptr d 0,some (.var cs)) else none
   | none=>none
  | _=>none
 | .build zero places=>avX (orR (tl zero places xs) (sC zero places xs))
 | .mkslice sz n zero places=>match uA sz (List.replicate n zero) places xs,wq sz (List.replicate n zero) places xs with
  | some rows,_=>if zero.length=sz∧0<sz then some (.list sz .full rows,none) else none
  | none,some rows=>if zero.length=sz∧0<sz then some (.lit sz rows,none) else none
  | none,none=>none
 | .load n=>ahf σ n xs
 | .nilChk=>match xs with
  | [.ptr j off]=>some (.ptr j off,none)
  | [.eptr j sz i off]=>some (.eptr j sz i off,none)
  | [.up j sz i off]=>some (.up j sz i off,none)
  | [.ro cells]=>some (.ro cells,none)
  | [.fn f caps]=>some (.fn f caps,none)
  | _=>none
 | .bin op t ox oy=>aix P op t ox oy xs
 | .un op=>match xs with
  | [.val v]=>Lz (zt P (Op.unary op v))
  | _=>none
 | .conv s d'=>match xs with
  | [.val v]=>Lz (zt P (convert s d' v))
  | _=>none
 | .idxV t=>match xs with
  | [x,.val i]=>match toV x with
   | some a=>Lz (zt P (Instr.index t a i))
   | none=>none
  | _=>none
 | .sliceV _ lo hi mx=>match xs with
  | .val (.string s)::ys=>match Pv s.size lo hi mx ys with
   | some (l,h,_)=>if mx=false then some (.val (.string (s.extract l h)),none) else none
   | none=>none
  | _=>none
 | .mm b ts t=>match sK xs with
  | some vs=>Lz (zt P (if b=.max then Builtin.max_ ts t vs.toArray else Builtin.min_ ts t vs.toArray))
  | none=>none
 | .field off n=>match xs with
  | [.agg cells]=>avX (vC cells off n)
  | [.raw cells]=>avX (zB cells off n)
  | _=>none
 | .faddr off=>match xs with
  | [.ptr j o]=>some (.ptr j (o+off),none)
  | [.eptr j sz i o]=>some (.eptr j sz i (o+off),none)
  | [.up j sz i o]=>some (.up j sz i (o+off),none)
  | [.ro cells]=>some (.ro (cells.drop off),none)
  | _=>none
 | .iaddrA len esz=>acW len esz xs
 | .iaddrS sz=>acX sz xs
 | .idxA len esz n=>match xs with
  | [.agg cells,.val (.int _ i)]=>if 0≤i∧i<len then avX (vC cells (i.toNat * esz) n) else none
  | _=>none
 | .slice sz lo hi mx=>agm sz lo hi mx xs
 | .mk sz bytes zero=>mkX sz bytes zero d σ xs
 | .len s=>aiR s xs
 | .extract i=>match xs with
  | [.tuple vs]=>avX vs[i]?
  | _=>none
 | .mkfn f=>some (.fn (.func f) (xs.map strip),none)
 | .mkb f=>some (.fn (.via 0 #[] f false) (xs.map strip),none)
 | .call f=>Tz call f σ xs
 | .callv=>match xs with
  | .fn (.func f) caps::ys=>if yJ P f=true then Tz call f σ (ys++caps) else none
  | .fn (.via _ _ f _) rs::ys=>if yJ P f=true then Tz call f σ (rs++ys) else none
  | _=>none
 | .mksliceL sz n zero places=>match wq sz (List.replicate n zero) places xs with
  | some rows=>if zero.length=sz∧0<sz then some (.lit sz rows,none) else none
  | none=>none
 | .mkmap=>if (σ d).isNone=true then some (.mp d,some (.map #[] 0)) else none
 | .lookup t ok=>ac4 P t ok σ xs
 | .mkif t=>match xs with
  | [x]=>if rf x=true then some (.iface t (strip x),none) else none
  | _=>none
 | .callm name=>match xs with
  | .iface t x::ys=>match bK P t name with
   | some f=>if yJ P f=true then Tz call f σ (x::ys) else none
   | none=>none
  | _=>none
 | _=>none
def ags (n:Nat) (s:St) (dst:Option Nat):List AV→Option St
 | [.ptr j off,x]=>match lk s.sto j,cellsOf x with
  | some (.var cells),some cs=>if cs.length=n∧off+n≤cells.length∧dst.isNone=true then some {s with sto:=pt s.sto j (.var (splice cells off cs))} else none
  | _,_=>none
 | [.eptr j sz i off,x]=>match lk s.sto j,cellsOf x with
  | some (.arr sz' rows),some cs=>if sz'=sz∧cs.length=n∧off+n≤sz∧i<rows.length∧cs.all rf=true∧dst.isNone=true then
    (match rows[i]? with
    | some r=>some {s with sto:=pt s.sto j (.arr sz (rows.set i (splice r off (cs.map strip))))}
    | none=>none) else none
  | _,_=>none
 | [.up l sz i off,x]=>match lk s.sto l,cellsOf x with
  | some (.uarr sz' rows),some cs=>if sz'=sz∧cs.length=n∧off+n≤sz∧dst.isNone=true then
    (match rows[i]? with
    | some r=>some {s with sto:=pt s.sto l (.uarr sz (rows.set i (splice r off cs)))}
    | none=>none) else none
  | _,_=>none
 | _=>none
def X5 (σ:Nat→Option ze) (sz:Nat):AV→Option (List (List AV))
 | .list sz' _ rows=>if rows.isEmpty=true∨sz'=sz then some rows else none
 | .sl j sz' off len=>if sz'=sz then (match σ j with
   | some (.arr sz'' rows)=>if sz''=sz∧off+len≤rows.length then some ((rows.drop off).take len) else none
   | _=>none) else none
 | .us j sz' off len=>if sz'=sz then (match σ j with
   | some (.uarr sz'' rows)=>if sz''=sz∧off+len≤rows.length∧yF ((rows.drop off).take len)=true then some (zQ ((rows.drop off).take len)) else none
   | _=>none) else none
 | .val (.string b)=>if sz=1 then some (b.data.toList.map fun x=>[.val (.int .u8 x.toNat)]) else none
 | .lit sz' rows=>if sz'=sz∧yF rows=true then some (zQ rows) else none
 | _=>none
def Qg (σ:Nat→Option ze) (sz:Nat):AV→Option (List (List AV))
 | .us j sz' off len=>if sz'=sz then (match σ j with
   | some (.uarr sz'' rows)=>if sz''=sz∧off+len≤rows.length then some ((rows.drop off).take len) else none
   | _=>none) else none
 | .lit sz' rows=>if sz'=sz then some rows else none
 | x=>X5 σ sz x
def Bv (sz bytes:Nat) (s:St) (dst:Option Nat):List AV→Option St
 | [.list _ .full rows1,x]=>match Qg (lk s.sto) sz x with
  | some rows2=>if 0<sz∧(rows1.length+rows2.length)*bytes≤140737488355328∧rows1.length+rows2.length≤9223372036854775807 then
    (match dst with
    | some d=>if rows1.isEmpty=true∧(lk s.sto (s.base+d)).isNone=true then
      some (((s.dg (s.base+d)).put (some d) (.us (s.base+d) sz 0 rows2.length)).new (some d) (some (.uarr sz (zR (s.base+d) rows2)))) else none
    | none=>none) else none
  | none=>none
 | [.us l sz1 off len,x]=>match Qg (lk s.sto) sz x with
  | some rows2=>if 0<sz∧(len+rows2.length)*bytes≤140737488355328∧len+rows2.length≤9223372036854775807 then
    (match lk s.sto l,dst with
    | some (.uarr sz' rows1),some d=>if sz'=sz∧sz1=sz∧off=0∧len=rows1.length then
      some ({(s.dg l) with sto:=pt (s.dg l).sto l (.uarr sz (zR l (rows1++rows2)))}.put (some d) (.us l sz 0 (len+rows2.length))) else none
    | _,_=>none) else none
  | none=>none
 | _=>none
def Dx (sz n:Nat) (zero:List AV) (places:List Nat) (s:St) (dst:Option Nat) (xs:List AV):Option St :=
 match wq sz (List.replicate n zero) places xs,dst with
 | some rows,some d=>if zero.length=sz∧0<sz∧(lk s.sto (s.base+d)).isNone=true then
   some (((s.dg (s.base+d)).put (some d) (.us (s.base+d) sz 0 n)).new (some d) (some (.uarr sz (zR (s.base+d) rows)))) else none
 | _,_=>none
abbrev CI:=FuncId→List AV→St→Option (AV × St)
def En (P:Program) (ci:CI) (f:FuncId) (xs:List AV) (s:St) (dst:Option Nat):Option St :=
 if yJ P f=true then (match ci f xs s with
  | some (r,s')=>if s'.base=s.base then some (s'.put dst r) else none
  | none=>none) else none
def ab7 (sz bytes:Nat) (s:St) (dst:Option Nat):List AV→Option St
 | [.list sz1 m rows1,x]=>match X5 (lk s.sto) sz x with
  | some rows2=>if 0<sz∧(rows1.length+rows2.length)*bytes≤140737488355328∧rows1.length+rows2.length≤9223372036854775807 then
    (match m,dst with
    | .full,some d=>if (rows1.isEmpty=true∨sz1=sz)∧(lk s.sto (s.base+d)).isNone=true then some ((s.dg (s.base+d)).put (some d) (.list sz (.own (s.base+d)) (rows1++rows2))) else none
    | .own l,some d=>if sz1=sz∧(lk s.sto l).isNone=true then some ((s.dg l).put (some d) (.list sz (.own l) (rows1++rows2))) else none
    | _,_=>none) else none
  | none=>none
 | _=>none
def acw (σ:Nat→Option ze) (sz:Nat):AV→Option (List (List AV))
 | .val _=>none
 | x=>X5 σ sz x
def agP (sz:Nat) (s:St) (dst:Option Nat):List AV→Option St
 | [.sl j sz1 off len,x]=>if sz1=sz∧0<sz then (match acw (lk s.sto) sz x with
  | some rows2=>match lk s.sto j with
   | some (.arr sz' rows)=>if sz'=sz∧off+len≤rows.length∧rows2.length≤len then
     some (({s with sto:=pt s.sto j (.arr sz (rows.take off++rows2++rows.drop (off+rows2.length)))}).put dst (.val (.int .i64 (rows2.length:Nat)))) else none
   | _=>none
  | none=>none) else none
 | _=>none
section
variable {P:Program} {call:FuncId→List AV→Option AV} {ci:CI} {K:St→Prop} {s s':St} {xs:List AV} {dst:Option Nat}
def vEq:Value→Value→Bool
 | .bool a,.bool b=>a == b
 | .int k a,.int k' b=>decide (k=k')&&decide (a=b)
 | .string a,.string b=>decide (a=b)
 | .pointer none,.pointer none=>true
 | .slice none a b,.slice none c d=>decide (a=c)&&decide (b=d)
 | _,_=>false
def mEq:Mode→Mode→Bool
 | .plain,.plain=>true
 | .full,.full=>true
 | .own a,.own b=>decide (a=b)
 | _,_=>false
def fEq:Fn→Fn→Bool
 | .func a,.func b=>decide (a=b)
 | _,_=>false
mutual
def Bw:AV→AV→Bool
 | .undef,y=>match y with
  | .undef=>true
  | _=>false
 | .val a,y=>match y with
  | .val b=>vEq a b
  | _=>false
 | .agg a,y=>match y with
  | .agg b=>fW a b
  | _=>false
 | .tuple a,y=>match y with
  | .tuple b=>fW a b
  | _=>false
 | .list n m r,y=>match y with
  | .list n' m' r'=>decide (n=n')&&(mEq m m'&&Pt r r')
  | _=>false
 | .ro a,y=>match y with
  | .ro b=>fW a b
  | _=>false
 | .ptr a b,y=>match y with
  | .ptr c d=>decide (a=c)&&decide (b=d)
  | _=>false
 | .eptr a b c d,y=>match y with
  | .eptr a' b' c' d'=>decide (a=a')&&decide (b=b')&&decide (c=c')&&decide (d=d')
  | _=>false
 | .sl a b c d,y=>match y with
  | .sl a' b' c' d'=>decide (a=a')&&decide (b=b')&&decide (c=c')&&decide (d=d')
  | _=>false
 | .us a b c d,y=>match y with
  | .us a' b' c' d'=>decide (a=a')&&decide (b=b')&&decide (c=c')&&decide (d=d')
  | _=>false
 | .up a b c d,y=>match y with
  | .up a' b' c' d'=>decide (a=a')&&decide (b=b')&&decide (c=c')&&decide (d=d')
  | _=>false
 | .fn f c,y=>match y with
  | .fn f' c'=>fEq f f'&&fW c c'
  | _=>false
 | .iface t x,y=>match y with
  | .iface t' x'=>decide (t=t')&&Bw x x'
  | _=>false
 | .mp a,y=>match y with
  | .mp b=>decide (a=b)
  | _=>false
 | .lit n r,y=>match y with
  | .lit n' r'=>decide (n=n')&&Pt r r'
  | _=>false
 | .raw a,y=>match y with
  | .raw b=>fW a b
  | _=>false
def fW:List AV→List AV→Bool
 | [],y=>match y with
  | []=>true
  | _=>false
 | x::l,y=>match y with
  | z::m=>Bw x z&&fW l m
  | _=>false
def Pt:List (List AV)→List (List AV)→Bool
 | [],y=>match y with
  | []=>true
  | _=>false
 | x::l,y=>match y with
  | z::m=>fW x z&&Pt l m
  | _=>false
end
def aiB:Option ze→Option ze→Bool
 | none,none=>true
 | some (.var a),some (.var b)=>fW a b
 | some (.arr n a),some (.arr m b)=>decide (n=m)&&Pt a b
 | some (.map a n),some (.map b m)=>a.isEmpty&&b.isEmpty&&decide (n=m)
 | _,_=>false
def aiy (P:Program) (call:FuncId→List AV→Option AV) (op:AOp) (s:St) (dst:Option Nat) (xs:List AV):Option St :=
 match dst with
 | some d=>match abG P call (s.base+d) op xs (lk (del [s.base+d] s.sto)),lk s.env d with
  | some (x,e),some y=>if Bw y x&&aiB (lk s.sto (s.base+d)) e then some s else none
  | _,_=>none
 | none=>none
def E2 (σ:List (Nat × ze)) (base:Nat):List Nat→Bool
 | []=>true
 | d::ds=>(lk σ (base+d)).isNone&&E2 σ base ds
def agq (ds:List Nat) (s:St):Option St:=if E2 s.sto s.base ds=true then some {s with env:=del ds s.env} else none
def adb (P:Program) (t:TypeId) (s:St) (dst:Option Nat):List AV→Option St
 | [.mp j,y,x]=>match lk s.sto j,toV y,toV x with
  | some (.map es clock),some kv,some v=>match setM P t kv v es clock with
   | some (es',clock')=>if dst.isNone=true then some {s with sto:=pt s.sto j (.map es' clock')} else none
   | none=>none
  | _,_,_=>none
 | _=>none
def execOp (P:Program) (call:FuncId→List AV→Option AV) (ci:CI) (dst:Option Nat) (op:AOp) (xs:List AV) (s:St):Option St :=
 match op with
 | .store n=>ags n s dst xs
 | .append sz b=>ab7 sz b s dst xs
 | .copy sz=>agP sz s dst xs
 | .appendU sz b=>Bv sz b s dst xs
 | .mksliceU sz n z ps=>Dx sz n z ps s dst xs
 | .callI f=>En P ci f xs s dst
 | .mapset t=>adb P t s dst xs
 | .chk op=>aiy P call op s dst xs
 | .start ds=>agq ds s
 | .callvI=>match xs with
  | .fn (.func f) caps::ys=>En P ci f (ys++caps) s dst
  | _=>none
 | .nilS neg=>match xs with
  | [x]=>match Mh x with
   | some (_+1)=>some (s.put dst (.val (.bool neg)))
   | _=>none
  | _=>none
 | .callM _ _=>none
 | .chkG _ _ _=>none
 | op=>match abG P call (s.base+dst.getD 0) op xs (lk s.sto) with
  | some (x,e)=>some ((s.put dst x).new dst e)
  | none=>none
end
abbrev ais:=FuncId→Option (zc × List zw × Nat)
def U7 (P:Program) (tbl:ais):Prop:=∀ f ac ras N,tbl f=some (ac,ras,N)→zl P f=some (bare ac,ras,N)
theorem U7.nil {P:Program}:U7 P (lk []):=fun _ _ _ _ h=>by cases h
theorem U7.cons {P:Program} {f:FuncId} {ac:zc} {ras:List zw} {N:Nat} {l:List (Nat × (zc × List zw × Nat))} (h:zl P f=some (bare ac,ras,N)) (hl:U7 P (lk l)) :
  U7 P (lk ((f,(ac,ras,N))::l)):=fun g a r n hg=>by
 simp only[lk] at hg
 split at hg
 ·rename_i e; subst e; cases hg; exact h
 ·exact hl _ _ _ _ hg
@[simp] theorem aiW {b:Bool}:ofV (.bool b)=.val (.bool b):=rfl
@[simp] theorem adq {k:IntKind} {n:Int}:ofV (.int k n)=.val (.int k n):=rfl
@[simp] theorem ahk {s:ByteArray}:ofV (.string s)=.val (.string s):=rfl
@[congr] theorem agH {P:Program} {f:FuncId} {σ:Nat→Option ze} {xs xs':List AV} {k:AV→Option ze→Prop} (h:Unit→xs=xs'):wa P f σ xs k=wa P f σ xs' k:=by rw[h ()]
@[congr] theorem ae1 {P:Program} {os:List zh} {s s':St} {K:St→Prop} (h:Unit→s=s'):zj P os s K=zj P os s' K:=by rw[h ()]
@[simp] theorem ajA {c:Prop} [Decidable c]:stm (if c then Mode.full else Mode.plain)=if c then Mode.full else Mode.plain:=by split<;>rfl
def Gr (len esz:Nat) (n:Option Nat) (x y:AV) (k:AV→Option ze→Prop):Prop :=
 match x,y with
 | .agg cells,.val (.int _ i)=>0≤i∧i<len∧xK (vC cells (i.toNat * esz) n) k
 | _,_=>False
@[simp] theorem ahY {len esz:Nat} {n:Option Nat} {cells:List AV} {ik:IntKind} {i:Int} {k:AV→Option ze→Prop} :
  Gr len esz n (.agg cells) (.val (.int ik i)) k=(0≤i∧i<len∧xK (vC cells (i.toNat * esz) n) k):=rfl
@[simp] theorem aiX {P:Program} {s:St} {KS:St→Prop} {os:List zh} {d:Nat} {len esz:Nat} {n:Option Nat} {x y:Opd} :
  zj P (⟨some d,.idxA len esz n,[x,y],none⟩::os) s KS=Gr len esz n (ev s x) (ev s y) (xv P os s (some d) KS):=by
 show zJ P (s.base+d) (.idxA len esz n) [ev s x,ev s y] (lk s.sto) (xv P os s (some d) KS)=_
 simp only[zJ,Gr]
 cases ev s x<;>try rfl
 cases ev s y<;>try rfl
 rename_i v
 cases v<;>rfl
@[simp] theorem ahn {cells:List AV} {off:Nat}:vC cells off none=cells[off]?:=rfl
open Go.ChangeShapes Go.WideShapes
inductive Ty where
 | bool
 | int (k:IntKind)
 | str
 | slice (e:Ty)
 | arr (n:Nat) (e:Ty)
 | st (fs:List Ty)
mutual
def Ty.sz:Ty→Nat
 | .bool=>1
 | .int _=>1
 | .str=>1
 | .slice _=>1
 | .arr n e=>n*e.sz
 | .st fs=>Ty.szs fs
def Ty.szs:List Ty→Nat
 | []=>0
 | t::ts=>t.sz+Ty.szs ts
end
def ln (P:Program) (f:TypeId→Option Ty):Nat→List Field→Option (List Ty)
 | _,[]=>some []
 | off,g::gs=>match f g.type with
  | some τ=>if g.offset=off∧P.cellsOf g.type=τ.sz then (ln P f (off+τ.sz) gs).map (τ::·) else none
  | none=>none
def fM (P:Program):Nat→TypeId→Option Ty
 | 0,_=>none
 | m+1,t=>match P.underlying t with
  | some .bool=>some .bool
  | some (.int k)=>some (.int k)
  | some .string=>some .str
  | some (.slice e)=>match fM P m e with
   | some τ=>if 0<τ.sz∧P.cellsOf e=τ.sz∧0<P.bytesOf e then some (.slice τ) else none
   | none=>none
  | some (.array n e)=>match fM P m e with
   | some τ=>if P.cellsOf e=τ.sz∧P.cellsOf t=n*τ.sz then some (.arr n τ) else none
   | none=>none
  | some (.struct fs)=>match ln P (fM P m) 0 fs.toList with
   | some τs=>if P.cellsOf t=Ty.szs τs then some (.st τs) else none
   | none=>none
  | _=>none
mutual

def TyC:Ty→List AV→Prop
 | .bool,cs=>∃ b,cs=[.val (.bool b)]
 | .int k,cs=>∃ n,cs=[.val (.int k n)]∧(Lit.int k n).wf=true
 | .str,cs=>∃ s:ByteArray,cs=[.val (.string s)]∧s.size≤reachBytes
 | .slice e,cs=>∃ rows:List (List AV),cs=[.list e.sz .plain rows]∧rows.length≤reachBytes∧∀ r∈rows,TyC e r
 | .arr n e,cs=>∃ rows:List (List AV),cs=rows.flatten∧rows.length=n∧∀ r∈rows,TyC e r
 | .st fs,cs=>PN fs cs
def PN:List Ty→List AV→Prop
 | [],cs=>cs=[]
 | τ::τs,cs=>∃ a b,cs=a++b∧TyC τ a∧PN τs b
end
theorem XC {α:Type} {n:Nat}:∀ {rows:List (List α)},(∀ r∈rows,r.length=n)→rows.flatten.length=rows.length*n
 | [],_=>by simp
 | r::rows,h=>by
  simp only[List.flatten_cons,List.length_append,List.length_cons,Nat.succ_mul]
  rw[XC (rows:=rows) (fun r hr=>h r (by simp[hr])),h r (by simp)]
  omega
mutual
theorem YI:∀ {τ:Ty} {cs:List AV},TyC τ cs→cs.length=τ.sz
 | .bool,_,h=>by obtain ⟨b,rfl⟩:=h; rfl
 | .int _,_,h=>by obtain ⟨b,rfl,_⟩:=h; rfl
 | .str,_,h=>by obtain ⟨b,rfl,_⟩:=h; rfl
 | .slice _,_,h=>by obtain ⟨b,rfl,_⟩:=h; rfl
 | .arr n e,_,h=>by
  obtain ⟨rows,rfl,rfl,h⟩:=h
  rw[XC (fun r hr=>YI (h r hr))]; rfl
 | .st fs,_,h=>PO (show PN fs _ from h)
theorem PO:∀ {τs:List Ty} {cs:List AV},PN τs cs→cs.length=Ty.szs τs
 | [],_,h=>by rw[show _=[] from h]; rfl
 | τ::τs,_,h=>by
  obtain ⟨a,b,rfl,h1,h2⟩:=h
  rw[List.length_append,YI h1,PO h2]; rfl
end
section
variable {H:Type} {enc:TypeId × Value→H} {P:Program} {w:World}
abbrev PI (ps:List MemPlace):Nat→Nat→Prop:=fun b o=>MemPlace.cell b o∈ps
def xG (w:World) (ps:List MemPlace) (xs:List AV) (cs:List Value):Prop :=
 xs.length=cs.length∧∀ (i:Nat) x,xs[i]?=some x→R0 (PI ps) w x (cs.getD i undef)∧single (cs.getD i undef)=true
theorem xG.mono {ps qs:List MemPlace} {xs:List AV} {cs:List Value} (h:xG w ps xs cs) (hs:∀ p∈ps,p∈qs):xG w qs xs cs :=
 ⟨h.1,fun i x hx=>⟨(h.2 i x hx).1.mono (fun _ _ hp=>hs _ hp) (fun _ _ _ _ h=>h),(h.2 i x hx).2⟩⟩
theorem xG.append {ps:List MemPlace} {xs ys:List AV} {cs ds:List Value} (h:xG w ps xs cs) (k:xG w ps ys ds):xG w ps (xs++ys) (cs++ds):=by
 refine ⟨by simp[h.1,k.1],fun i x hx=>?_⟩
 by_cases hi:i<xs.length
 ·rw[List.getElem?_append_left hi] at hx
  have:(cs++ds).getD i undef=cs.getD i undef:=by simp only[List.getD]; rw[List.getElem?_append_left (by rw[← h.1]; exact hi)]
  rw[this]; exact h.2 i x hx
 ·rw[List.getElem?_append_right (by omega)] at hx
  have:(cs++ds).getD i undef=ds.getD (i-xs.length) undef:=by simp only[List.getD]; rw[List.getElem?_append_right (by rw[← h.1]; omega),h.1]
  rw[this]; exact k.2 _ x hx
theorem xG.one {ps:List MemPlace} {x:AV} {v:Value} (h:R0 (PI ps) w x v) (hs:single v=true):xG w ps [x] [v]:=by
 refine ⟨rfl,fun i y hy=>?_⟩
 cases i with
 | zero=>simp at hy; subst hy; exact ⟨h,hs⟩
 | succ i=>simp at hy
theorem xG.nil {ps:List MemPlace}:xG w ps [] []:=⟨rfl,fun i x h=>by simp at h⟩
theorem SF {ps:List MemPlace} {n:Nat}:∀ {rows:List (List AV)} {cs:List Value},cs.length=rows.length*n →
  (∀ i r,rows[i]?=some r→xG w ps r ((cs.drop (i*n)).take n))→xG w ps rows.flatten cs
 | [],cs,hl,_=>by
  have:cs=[]:=List.eq_nil_of_length_eq_zero (by simpa using hl)
  subst this
  exact xG.nil
 | r::rows,cs,hl,h=>by
  simp only[List.length_cons,Nat.succ_mul] at hl
  have h0:=h 0 r rfl
  simp only[Nat.zero_mul,List.drop_zero] at h0
  have ih:=SF (ps:=ps) (n:=n) (rows:=rows) (cs:=cs.drop n) (by simp; omega) (fun i q hq=>by
   have:=h (i+1) q (by simpa using hq)
   rw[List.drop_drop]
   rwa [Nat.succ_mul,Nat.add_comm] at this)
  have:=h0.append ih
  rwa [List.take_append_drop] at this
theorem Ub {base:Nat} {a:Addr} {n:Nat} {cs:List Value} (h:w.cells? base a n=some cs):cs.length=n∧∀ i,i<n→w.cell? (a.add i)=cs[i]?:=by
 unfold World.cells? at h
 split at h
 ·refine ⟨by simpa using mapM_some_length h,fun i hi=>mapM_some_get h i i (by simp[hi])⟩
 ·cases h
abbrev lZ (P:Program) (t:TypeId) (d:DataW H):Prop:=(d.weights P t).all (·≤reachBytes)=true
theorem Yf {P:Program} {e:TypeId}:∀ {ds:List (DataW H)},(DataW.weightsAll P e ds).all (·≤reachBytes)=true→∀ d∈ds,lZ P e d
 | [],_,_,h=>by cases h
 | d::ds,h,q,hq=>by
  simp only[DataW.weightsAll,List.all_append,Bool.and_eq_true] at h
  rcases List.mem_cons.1 hq with rfl | hq
  ·exact h.1
  ·exact Yf h.2 q hq
theorem ak {P:Program}:∀ {ts:List TypeId} {ds:List (DataW H)},(DataW.weightsEach P ts ds).all (·≤reachBytes)=true→∀ (i:Nat) t d,ts[i]?=some t→ds[i]?=some d→lZ P t d
 | [],_,_,i,t,d,h1,_=>by simp at h1
 | t::ts,[],_,i,_,_,_,h2=>by simp at h2
 | t::ts,d::ds,h,i,t',d',h1,h2=>by
  simp only[DataW.weightsEach,List.all_append,Bool.and_eq_true] at h
  cases i with
  | zero=>simp at h1 h2; subst h1; subst h2; exact h.1
  | succ i=>simp at h1 h2; exact ak h.2 i _ _ h1 h2
theorem dr {α β:Type} {Q:Nat→α→β→Prop}:∀ {l:List α} (k:Nat),(∀ i a,l[i]?=some a→∃ b,Q (k+i) a b)→∃ m:List β,m.length=l.length∧∀ i a b,l[i]?=some a→m[i]?=some b→Q (k+i) a b
 | [],_,_=>⟨[],rfl,fun i a b h=>by simp at h⟩
 | a::l,k,h=>by
  obtain ⟨b,hb⟩:=h 0 a rfl
  obtain ⟨m,h1,h2⟩:=dr (l:=l) (k+1) (fun i a ha=>by
   have:=h (i+1) a (by simpa using ha)
   rwa [show k+1+i=k+(i+1) by omega])
  refine ⟨b::m,by simp[h1],fun i a' b' ha hb'=>?_⟩
  cases i with
  | zero=>simp at ha hb'; subst ha; subst hb'; exact hb
  | succ i =>
   simp at ha hb'
   have:=h2 i a' b' ha hb'
   rwa [show k+1+i=k+(i+1) by omega] at this
theorem Yp {ps:List MemPlace} {n:Nat} {f:TypeId→Option Ty} {cs:List Value}:∀ {fs:List Field} {τs:List Ty} {off:Nat} {xs:List (DataW H × List MemPlace)},ln P f off fs=some τs→xs.length=fs.length→cs.length=off+Ty.szs τs →
  (∀ (i:Nat) (g:Field) x,fs[i]?=some g→xs[i]?=some x→(∀ p∈x.2,p∈ps)∧∀ τ,f g.type=some τ→∃ ys,TyC τ ys∧xG w x.2 ys ((cs.drop g.offset).take (P.cellsOf g.type))) →
  ∃ ys,PN τs ys∧xG w ps ys (cs.drop off)
 | [],τs,off,xs,h,_,hl,_=>by
  simp only[ln,Option.some.injEq] at h
  subst h
  simp only[Ty.szs,Nat.add_zero] at hl
  rw[List.drop_of_length_le (by omega)]
  exact ⟨[],rfl,xG.nil⟩
 | g::fs,τs,off,xs,h,hx,hl,hf=>by
  simp only[ln] at h
  split at h
  ·rename_i τ hτ
   split at h
   ·rename_i hc
    cases hr:ln P f (off+τ.sz) fs with
    | none=>simp[hr] at h
    | some τr =>
     simp only[hr,Option.map_some,Option.some.injEq] at h
     subst h
     cases xs with
     | nil=>simp at hx
     | cons x xs =>
      simp only[Ty.szs] at hl
      obtain ⟨h1,h2⟩:=hf 0 g x rfl rfl
      obtain ⟨ys,hy1,hy2⟩:=h2 τ hτ
      obtain ⟨zs,hz1,hz2⟩:=Yp (ps:=ps) (n:=n) hr (by simpa using hx) (by omega) (fun i g' x' hg hx'=>hf (i+1) g' x' (by simpa using hg) (by simpa using hx'))
      refine ⟨ys++zs,⟨ys,zs,rfl,hy1,hz1⟩,?_⟩
      have:=(hy2.mono h1).append hz2
      rw[hc.1,hc.2,← List.drop_drop] at this
      rwa [List.take_append_drop] at this
   ·cases h
  ·cases h
theorem aB {held:Bool}:∀ (n m:Nat) (t:TypeId) (τ:Ty) (cs:List Value) (d:DataW H) (ps:List MemPlace),fM P m t=some τ →
  DataW.trod enc P w 0 (fun _=>true) held n t cs=some (d,ps)→lZ P t d→∃ xs,TyC τ xs∧xG w ps xs cs
 | 0,_,_,_,_,_,_,_,h,_=>by simp[DataW.trod] at h
 | n+1,0,_,_,_,_,_,h,_,_=>by cases h
 | n+1,m+1,t,τ,cs,d,ps,hτ,h,hw=>by
  simp only[fM] at hτ
  split at hτ<;>rename_i hu
  ·cases hτ
   obtain ⟨b,rfl,hx⟩:=DataW.trod_bool hu h
   exact ⟨[.val (.bool b)],⟨b,rfl⟩,xG.one (.val _) rfl⟩
  ·cases hτ
   obtain ⟨k,rfl,hx,hwf⟩:=DataW.trod_int hu h
   exact ⟨[.val (.int _ k)],⟨k,rfl,hwf⟩,xG.one (.val _) rfl⟩
  ·cases hτ
   obtain ⟨s,rfl,hx,_⟩:=DataW.trod_string hu h
   simp only[Prod.mk.injEq] at hx
   obtain ⟨rfl,rfl⟩:=hx
   refine ⟨[.val (.string s)],⟨s,rfl,?_⟩,xG.one (.val _) rfl⟩
   simp[lZ,DataW.weights] at hw
   exact hw
  ·rename_i e
   split at hτ
   ·rename_i σ hσ
    split at hτ
    ·rename_i hc
     cases hτ
     rcases DataW.trod_slice hu h with ⟨rfl,hx⟩ | ⟨a,len,cap,elems,rest,n',hn,rfl,hx,_,hlc,hcm,hlen,hel,_,_⟩
     ·exact ⟨[.list σ.sz .plain []],⟨[],rfl,by simp,by simp⟩,xG.one (.listNil _ _ _ _ (fun h=>by cases h) (fun _ h=>by cases h)) rfl⟩
     ·cases hn
      simp only[Prod.mk.injEq] at hx
      obtain ⟨rfl,rfl⟩:=hx
      simp only[lZ,DataW.weights,hu,List.all_cons,List.all_append,Bool.and_eq_true,decide_eq_true_eq] at hw
      obtain ⟨hw1,hw2,_⟩:=hw
      have hsz:=Yf hw2
      obtain ⟨rows,hr1,hr2⟩:=dr (l:=elems) (Q:=fun i y r=>TyC σ r∧∃ c,w.cells? 0 (a.add (i*P.cellsOf e)) (P.cellsOf e)=some c∧xG w y.2 r c) 0 (fun i y hy=>by
       have hi:i<len:=by have:=(List.getElem?_eq_some_iff.1 hy).1; omega
       have:=hel i hi
       rw[hy,Option.bind_eq_some_iff] at this
       obtain ⟨c,hc1,hc2⟩:=this
       obtain ⟨xs,hx1,hx2⟩:=aB n m e σ c y.1 y.2 hσ hc2 (hsz y.1 (List.mem_map.2 ⟨y,List.mem_of_getElem? hy,rfl⟩))
       exact ⟨xs,hx1,c,by rw[Nat.zero_add]; exact hc1,hx2⟩)
      simp only[Nat.zero_add] at hr2
      have hlr:rows.length=len:=by omega
      refine ⟨[.list σ.sz .plain rows],⟨rows,rfl,?_,fun r hr=>?_⟩,xG.one ?_ rfl⟩
      ·have h1:(elems.length+rest.length)*P.bytesOf e≤reachBytes:=by simpa using hw1
       have h2:elems.length+rest.length≤(elems.length+rest.length)*P.bytesOf e:=Nat.le_mul_of_pos_right _ hc.2.2
       omega
      ·obtain ⟨i,hi⟩:=List.mem_iff_getElem?.1 hr
       have hil:i<elems.length:=by have:=(List.getElem?_eq_some_iff.1 hi).1; omega
       exact (hr2 i elems[i] r (by simp[hil]) hi).1
      ·by_cases h0:len=0
       ·have:rows=[]:=List.eq_nil_of_length_eq_zero (by omega)
        subst this
        subst h0
        exact .listNil _ _ _ _ (fun h=>by cases h) (fun _ h=>by cases h)
       ·have get:∀ (i:Nat) (r:List AV),rows[i]?=some r→∃ y c,elems[i]?=some y∧TyC σ r∧w.cells? 0 (a.add (i*P.cellsOf e)) (P.cellsOf e)=some c∧xG w y.2 r c:=fun i r hi=>by
         have hil:i<elems.length:=by have:=(List.getElem?_eq_some_iff.1 hi).1; omega
         obtain ⟨g1,c,g2,g3⟩:=hr2 i elems[i] r (by simp[hil]) hi
         exact ⟨elems[i],c,by simp[hil],g1,g2,g3⟩
        obtain ⟨b,o,spot⟩:=a
        have hspot:spot=none:=by
         obtain ⟨y,c,g1,g2,g3,g4⟩:=get 0 rows[0] (List.getElem?_eq_getElem (by omega))
         have g5:=(Ub g3).2 0 (by omega)
         have g6:=(Ub g3).1
         rw[List.getElem?_eq_getElem (by omega)] at g5
         simpa [Addr.add] using World.cell?_spot g5
        subst hspot
        have hget:∀ (i:Nat) (r:List AV) (j:Nat) (x:AV),rows[i]?=some r→r[j]?=some x→∃ y v,elems[i]?=some y∧i<len∧j<σ.sz∧w.cell? ⟨b,o+i*σ.sz+j,none⟩=some v∧R0 (PI y.2) w x v∧single v=true:=fun i r j x hi hj=>by
         obtain ⟨y,c,g1,g2,g3,g4⟩:=get i r hi
         obtain ⟨g5,g6⟩:=Ub g3
         have hjl:j<σ.sz:=by have:=(List.getElem?_eq_some_iff.1 hj).1; have:=YI g2; omega
         have g7:=g6 j (by omega)
         have hjc:j<c.length:=by omega
         rw[List.getElem?_eq_getElem hjc] at g7
         obtain ⟨k1,k2⟩:=g4.2 j x hj
         have:c.getD j undef=c[j]:=by simp[hjc]
         rw[this] at k1 k2
         refine ⟨y,c[j],g1,?_,hjl,?_,k1,k2⟩
         ·have:=(List.getElem?_eq_some_iff.1 hi).1; omega
         ·rw[← g7,hc.2.1,addr_add,addr_add]
        rw[← hlr]
        refine .list _ _ _ _ _ _ (fun i j=>((w.cell? ⟨b,o+i*σ.sz+j,none⟩).getD undef)) (by omega) (fun h=>by cases h) (fun _ h=>by cases h) (fun i r hi=>?_) (fun i r j x hi hj=>?_) (fun i r j x hi hj=>?_)
        ·obtain ⟨_,_,_,g2,_⟩:=get i r hi
         exact YI g2
        ·obtain ⟨y,v,g1,gi,gj,g2,g3,g4⟩:=hget i r j x hi hj
         rw[g2]
         refine ⟨?_,rfl,g4⟩
         refine List.mem_append_left _ (MemPlace.mem_row.2 ⟨i*σ.sz+j,?_,?_⟩)
         ·rw[hc.2.1]
          have h1:i+1≤elems.length+rest.length:=by omega
          have h2:=Nat.mul_le_mul_right σ.sz h1
          rw[Nat.succ_mul] at h2
          omega
         ·simp only[MemPlace.cell.injEq,true_and]; omega
        ·obtain ⟨y,v,g1,gi,gj,g2,g3,g4⟩:=hget i r j x hi hj
         rw[g2]
         refine g3.mono (fun b' o' hp=>?_) (fun _ _ _ _ h=>h)
         exact List.mem_append_right _ (List.mem_flatMap.2 ⟨y,List.mem_append_left _ (List.mem_of_getElem? g1),hp⟩)
    ·cases hτ
   ·cases hτ
  ·rename_i k e
   split at hτ
   ·rename_i σ hσ
    split at hτ
    ·rename_i hc
     cases hτ
     obtain ⟨xs,n',hn,hx,hcl,hxl,hel⟩:=DataW.trod_array hu h
     cases hn
     simp only[Prod.mk.injEq] at hx
     obtain ⟨rfl,rfl⟩:=hx
     simp only[lZ,DataW.weights,hu] at hw
     have hsz:=Yf hw
     obtain ⟨rows,hr1,hr2⟩:=dr (l:=xs) (Q:=fun i y r=>TyC σ r∧xG w y.2 r ((cs.drop (i*P.cellsOf e)).take (P.cellsOf e))) 0 (fun i y hy=>by
      have hi:i<k:=by have:=(List.getElem?_eq_some_iff.1 hy).1; omega
      have:=hel i hi
      rw[hy] at this
      rw[Nat.zero_add]
      exact aB n m e σ _ y.1 y.2 hσ this (hsz y.1 (List.mem_map.2 ⟨y,List.mem_of_getElem? hy,rfl⟩)))
     simp only[Nat.zero_add] at hr2
     refine ⟨rows.flatten,⟨rows,rfl,by omega,fun r hr=>?_⟩,?_⟩
     ·obtain ⟨i,hi⟩:=List.mem_iff_getElem?.1 hr
      have hil:i<xs.length:=by have:=(List.getElem?_eq_some_iff.1 hi).1; omega
      exact (hr2 i xs[i] r (by simp[hil]) hi).1
     ·refine SF (n:=σ.sz) (by rw[hcl,hc.2,hr1,hxl]) (fun i r hi=>?_)
      have hil:i<xs.length:=by have:=(List.getElem?_eq_some_iff.1 hi).1; omega
      have:=(hr2 i xs[i] r (by simp[hil]) hi).2
      rw[hc.1] at this
      exact this.mono (fun p hp=>List.mem_flatMap.2 ⟨xs[i],List.getElem_mem _,hp⟩)
    ·cases hτ
   ·cases hτ
  ·rename_i fs
   split at hτ
   ·rename_i τs hσ
    split at hτ
    ·rename_i hc
     cases hτ
     obtain ⟨xs,n',hn,hx,hcl,hxl,hel⟩:=DataW.trod_struct hu h
     cases hn
     simp only[Prod.mk.injEq] at hx
     obtain ⟨rfl,rfl⟩:=hx
     simp only[lZ,DataW.weights,hu] at hw
     have:=Yp (P:=P) (w:=w) (ps:=xs.flatMap (·.2)) (n:=n) (cs:=cs) hσ (by simpa using hxl) (by rw[hcl,hc]; omega) (fun i g x hg hx=>by
      have hg':fs[i]?=some g:=by simpa using hg
      have h1:=hel i g hg'
      rw[hx] at h1
      refine ⟨fun p hp=>List.mem_flatMap.2 ⟨x,List.mem_of_getElem? hx,hp⟩,fun τ hτ=>?_⟩
      exact aB n m g.type τ _ x.1 x.2 hτ h1 (ak hw i g.type x.1 (by simp[hg']) (by simp[hx])))
     obtain ⟨ys,h1,h2⟩:=this
     exact ⟨ys,h1,by simpa using h2⟩
    ·cases hτ
   ·cases hτ
  ·cases hτ
end
def J5:Ty→AV→Prop
 | .arr n e,x=>∃ cs,x=.agg cs∧TyC (.arr n e) cs
 | .st fs,x=>∃ cs,x=.agg cs∧TyC (.st fs) cs
 | τ,x=>TyC τ [x]
def U8:List Ty→List AV→Prop
 | [],[]=>True
 | τ::τs,x::xs=>J5 τ x∧U8 τs xs
 | _,_=>False
section
variable {H:Type} {enc:TypeId × Value→H} {P:Program} {W:World}
theorem Q0 {ps:List MemPlace} {xs:List AV} {cs:Array Value} (h:xG W ps xs cs.toList):R0 (PI ps) W (.agg xs) (.agg cs):=by
 obtain ⟨h1,h2⟩:=h
 simp only[Array.length_toList] at h1
 have hg:∀ i,cs.toList.getD i undef=cs.getD i undef:=fun i=>by simp[List.getD,Array.getD_eq_getD_getElem?]
 refine .agg _ _ h1.symm ?_ (fun i x hx=>?_)
 ·rw[Array.all_eq_true]
  intro i hi
  obtain ⟨_,h4⟩:=h2 i xs[i] (by simp[h1,hi])
  rw[hg] at h4
  simpa [hi] using h4
 ·obtain ⟨h3,_⟩:=h2 i x hx
  rw[hg] at h3
  exact h3
theorem Ef {m:Nat} {t:TypeId} {τ:Ty} {v:Value} {d:DataW H} {ps:List MemPlace} {r:Reach} {base:Nat} (hτ:fM P m t=some τ) (hok:Value.okWide P W r base t v)
  (h:DataW.Trod enc P W 0 (fun _=>true) true t v d ps) (hw:lZ P t d):∃ x,J5 τ x∧R0 (PI ps) W x v:=by
 obtain ⟨n,hn⟩:=h
 obtain ⟨xs,h1,h2⟩:=aB n m t τ _ d ps hτ hn hw
 have one:v.cells=#[v]→(∃ x,xs=[x])→∃ x,TyC τ [x]∧R0 (PI ps) W x v:=by
  rintro hv ⟨x,rfl⟩
  obtain ⟨h3,_⟩:=h2.2 0 x rfl
  rw[hv] at h3
  exact ⟨x,h1,h3⟩
 cases m with
 | zero=>cases hτ
 | succ m =>
  simp only[fM] at hτ
  split at hτ<;>rename_i hu
  ·cases hτ
   obtain ⟨b,rfl⟩:=h1
   refine one ?_ ⟨_,rfl⟩
   simp only[Value.okWide,hu,Cell.okWide,Cell.ok] at hok
   cases v<;>first | rfl | exact hok.elim
  ·cases hτ
   obtain ⟨b,rfl,hb⟩:=h1
   have:=one ?_ ⟨_,rfl⟩
   ·exact this
   simp only[Value.okWide,hu,Cell.okWide,Cell.ok] at hok
   cases v<;>first | rfl | exact hok.elim
  ·cases hτ
   obtain ⟨b,rfl,hb⟩:=h1
   have:=one ?_ ⟨_,rfl⟩
   ·exact this
   simp only[Value.okWide,hu,Cell.okWide,Cell.ok] at hok
   cases v<;>first | rfl | exact hok.elim
  ·split at hτ
   ·split at hτ
    ·cases hτ
     obtain ⟨rows,rfl,hb⟩:=h1
     have:=one ?_ ⟨_,rfl⟩
     ·exact this
     simp only[Value.okWide,hu,Cell.okWide,Cell.ok] at hok
     cases v<;>first | rfl | exact hok.elim
    ·cases hτ
   ·cases hτ
  ·split at hτ
   ·split at hτ
    ·cases hτ
     simp only[Value.okWide,hu] at hok
     obtain ⟨cs,rfl,_⟩:=hok
     exact ⟨.agg xs,⟨xs,rfl,h1⟩,Q0 h2⟩
    ·cases hτ
   ·cases hτ
  ·split at hτ
   ·split at hτ
    ·cases hτ
     simp only[Value.okWide,hu] at hok
     obtain ⟨cs,rfl,_⟩:=hok
     exact ⟨.agg xs,⟨xs,rfl,h1⟩,Q0 h2⟩
    ·cases hτ
   ·cases hτ
  ·cases hτ
theorem U9 {m:Nat} {r:Reach} {base:Nat}:∀ {ts:List TypeId} {τs:List Ty} {vs:List Value} {ds:List (DataW H)} {ps:List MemPlace},yu (fM P m) ts=some τs →
  (∀ (j:Nat) t v,ts[j]?=some t→vs[j]?=some v→Value.okWide P W r base t v)→DataW.TrodAll enc P W 0 (fun _=>true) true ts vs ds ps →
  (∀ (j:Nat) t d,ts[j]?=some t→ds[j]?=some d→lZ P t d) →
  ∃ xs,U8 τs xs∧xs.length=vs.length∧ds.length=ts.length∧∀ (i:Nat) x,xs[i]?=some x→R0 (PI ps) W x (vs.getD i undef)
 | [],τs,vs,ds,ps,h,_,hA,_=>by
  simp only[yu,Option.some.injEq] at h
  subst h
  match vs,ds,hA with
  | [],[],_=>exact ⟨[],trivial,rfl,rfl,fun i x hx=>by simp at hx⟩
 | t::ts,τs,vs,ds,ps,h,hv,hA,hs=>by
  simp only[yu] at h
  split at h
  ·rename_i τ hτ
   cases hr:yu (fM P m) ts with
   | none=>simp[hr] at h
   | some σs =>
    simp only[hr,Option.map_some,Option.some.injEq] at h
    subst h
    match vs,ds,hA with
    | v::vs,d::ds,⟨p,q,h1,h2,e⟩ =>
     obtain ⟨x,a1,a2⟩:=Ef hτ (hv 0 t v rfl rfl) h1 (hs 0 t d rfl rfl)
     obtain ⟨xs,b1,b2,b3,b4⟩:=U9 hr (fun j t' v' ht hv'=>hv (j+1) t' v' (by simpa using ht) (by simpa using hv')) h2 (fun j t' d' ht hd=>hs (j+1) t' d' (by simpa using ht) (by simpa using hd))
     subst e
     refine ⟨x::xs,⟨a1,b1⟩,by simp[b2],by simp[b3],fun i y hy=>?_⟩
     cases i with
     | zero =>
      simp at hy
      subst hy
      simp only[List.getD_cons_zero]
      exact a2.mono (fun _ _ hp=>List.mem_append_left _ hp) (fun _ _ _ _ h=>h)
     | succ i =>
      simp at hy
      simp only[List.getD_cons_succ]
      exact (b4 i y hy).mono (fun _ _ hp=>List.mem_append_right _ hp) (fun _ _ _ _ h=>h)
  ·cases h
theorem Zb {W':World} (hl:laidOutB P=true) (hb:Below W.heap.size W W'):∀ {ts:List TypeId} {vs:List Value} {ds:List (DataW H)} {ps:List MemPlace},
  (∀ t∈ts,P.readableRec t=true∧t<P.types.size)→DataW.TrodAll enc P W 0 (fun _=>true) true ts vs ds ps→(∀ x∈ps,x.block<W.heap.size) →
  DataW.TrodAll enc P W' 0 (fun b=>decide (b<W.heap.size)) true ts vs ds ps
 | [],[],[],_,_,h,_=>h
 | t::ts,v::vs,d::ds,_,ht,⟨p,q,h1,h2,e⟩,hlt=>by
  subst e
  exact ⟨p,q,Below.trod hl (ht t (by simp)).1 (ht t (by simp)).2 h1 hb (fun x hx=>hlt x (List.mem_append_left _ hx)),
   Zb hl hb (fun t h=>ht t (by simp[h])) h2 (fun x hx=>hlt x (List.mem_append_right _ hx)),rfl⟩
theorem Dg {f:FuncId} {fn:Func} {s:ChangeSpec} {tb:TypeId} {τs:List Ty} (hl:laidOutB P=true) (hty:yu (fM P 20) fn.params.toList=some τs)
  (hread:(fn.params.toList.all fun t=>P.readableRec t&&decide (t<P.types.size))=true) (hres:fn.resultTypes=#[tb]) (hub:P.underlying tb=some .bool) (hvars:s.vars=[])
  (hfn:∀ ds:List (DataW H),ds.length=fn.params.toList.length→(s.fn H (ds++[])).results=[.lit (.bool true)]∧(s.fn H (ds++[])).args=ds∧(s.fn H (ds++[])).vars=[])
  (hcall:∀ xs,U8 τs xs→zd P f xs (bv true)) {base:Nat} {args:Array Value} {ds gs:List (DataW H)} {before:List MemPlace}
  (hval:∀ (j:Nat) t v,fn.params[j]?=some t→args[j]?=some v→Value.okWide P W .any base t v)
  (hW:DataW.Whole enc P fn.params.toList s.vars false W args.toList ds gs before)
  (hsz:(DataW.weightsEach P (fn.params.toList++s.plain.varTypes P) (ds++gs)).all (·≤reachBytes)=true) :
  Calls P f args W fun e W'=>∃ v,e=.returned v∧s.post enc P fn false true false false W args v W':=by
 have hW':=hW
 obtain ⟨p,q,hA,hV,rfl,_,_⟩:=hW
 rw[hvars] at hV
 obtain ⟨rfl,rfl⟩:=trodVars_none hV
 have hsz':∀ (j:Nat) t d,fn.params.toList[j]?=some t→ds[j]?=some d→lZ P t d:=fun j t d ht hd=>by
  refine ak hsz j t d ?_ ?_
  ·rw[List.getElem?_append_left (List.getElem?_eq_some_iff.1 ht).1]; exact ht
  ·rw[List.getElem?_append_left (List.getElem?_eq_some_iff.1 hd).1]; exact hd
 obtain ⟨xs,h1,h2,h3,h4⟩:=U9 (r:=.any) (base:=base) hty (fun j t v ht hv=>hval j t v (by simpa using ht) (by simpa using hv)) hA hsz'
 have hlt:∀ x∈p,x.block<W.heap.size:=fun x hx=>by simpa using hW'.lt x (List.mem_append_left _ hx)
 refine (hcall xs h1 (PI p) args W (fun b o hb=>hlt _ hb) (by simp[h2]) (fun i x hx=>?_)).mono fun e W' ⟨v,he,hb,hR⟩=>?_
 ·have:=h4 i x hx
  have e:args.toList.getD i undef=args.getD i undef:=by simp[List.getD,Array.getD_eq_getD_getElem?]
  rwa [e] at this
 ·have hv:v=.bool true:=R0.val_eq hR
  subst hv
  obtain ⟨f1,f2,f3⟩:=hfn ds h3
  have hread':∀ t∈fn.params.toList,P.readableRec t=true∧t<P.types.size:=fun t ht=>by
   have:=List.all_eq_true.1 hread t ht
   simpa using this
  refine ⟨_,he,ds,[],p++[],[]++[],p,[],hW',?_,?_,?_,hb.frame _,fun h=>by cases h⟩
  ·rw[f1,hres]
   exact trodAll_mk1 (shut_bool hub _)
  ·rw[f2]; exact Zb hl hb hread' hA hlt
  ·rw[f3,hvars]; rfl
end
theorem af {α:Type} {τ:Ty} (f:α→List AV) (Q:α→Prop) (one:∀ r,TyC τ r→∃ x,r=f x∧Q x):∀ {rows:List (List AV)},(∀ r∈rows,TyC τ r)→∃ a:List α,rows=a.map f∧∀ x∈a,Q x
 | [],_=>⟨[],rfl,by simp⟩
 | r::rows,h=>by
  obtain ⟨a,rfl,h2⟩:=af f Q one (rows:=rows) (fun r hr=>h r (by simp[hr]))
  obtain ⟨x,rfl,h3⟩:=one r (h r (by simp))
  exact ⟨x::a,rfl,by simpa using ⟨h3,h2⟩⟩
theorem F9 {a:Ty} {xs:List AV} (h:U8 [a] xs):∃ x,xs=[x]∧J5 a x:=by
 match xs,h with
 | [x],h=>exact ⟨x,rfl,h.1⟩
theorem AV.imp_nil {sz sz':Nat} {m':Mode} (hm:m'=.plain):AV.imp (.list sz .full []) (.list sz' m' []):=fun I w v h=>by
 subst hm
 cases h with
 | listNil _ _ a cap hm ho=>exact .listNil _ _ _ _ (by simp) (by simp)
 | list _ _ _ b o cap g h1 h2 h3 h4 h5 h6 =>
  exact .listNil _ _ _ _ (by simp) (by simp)
theorem AV.imp_tuple2 {x x' y:AV} (h:AV.imp x x'):AV.imp (.tuple [x,y]) (.tuple [x',y]):=fun I w v hv=>by
 cases hv with
 | tuple cells vs hs hc =>
  refine .tuple _ _ (by simpa using hs) fun i c hi=>?_
  match i,hi with
  | 0,hi=>simp at hi; subst hi; exact h _ _ _ (hc 0 x rfl)
  | 1,hi=>simp at hi; subst hi; exact hc 1 y rfl
  | i+2,hi=>simp at hi
attribute [simp] K3
@[simp] theorem ahQ {σ:Nat→Option ze} {s:St}:ju σ [] s=true:=rfl
@[simp] theorem afl {sz by_ d n sz':Nat} {m:Mode} {rows:List (List AV)} {s:St} {K:St→Prop} :
  xk sz by_ s (some d) K [.list n .full [],.list sz' m rows]=((rows=[]∨sz'=sz)∧0<sz∧rows.length*by_≤140737488355328∧rows.length≤9223372036854775807∧lk s.sto (s.base+d)=none ∧
   K (((s.dg (s.base+d)).put (some d) (.us (s.base+d) sz 0 rows.length)).new (some d) (some (.uarr sz (zR (s.base+d) rows))))):=by
 simp[xk,xi,yY]
@[simp] theorem aeV {sz by_ d l sz1 off len sz':Nat} {m:Mode} {rows1 rows:List (List AV)} {s:St} {K:St→Prop} (h:lk s.sto l=some (.uarr sz rows1)) :
  xk sz by_ s (some d) K [.us l sz1 off len,.list sz' m rows]=((rows=[]∨sz'=sz)∧0<sz∧(len+rows.length)*by_≤140737488355328∧len+rows.length≤9223372036854775807∧sz1=sz∧off=0∧len=rows1.length ∧
   K ({(s.dg l) with sto:=pt (s.dg l).sto l (.uarr sz (zR l (rows1++rows)))}.put (some d) (.us l sz 0 (len+rows.length)))):=by
 simp[xk,xi,yY,h]
@[simp] theorem aiS {s:St} {d:Nat} {e:ze}:s.new (some d) (some e)=⟨s.env,pt s.sto (s.base+d) e,s.out,s.base⟩:=rfl
attribute [simp] lS tup
def UJ (ras:List zw) (b:Nat) (K:AV→St→Prop):Exit→St→Prop:=fun e s'=>(e=.normal∨e=.ret)∧∃ xs e0 o0,yu (lS s') ras=some xs∧s'.out=e0::o0∧K (tup xs) {env:=e0,sto:=s'.sto,out:=o0,base:=b}
@[simp] theorem ai0 {ras:List zw} {b:Nat} {K:AV→St→Prop} {env e0:List (Nat × AV)} {sto:List (Nat × ze)} {o0:List (List (Nat × AV))} {B:Nat} :
  UJ ras b K .ret ⟨env,sto,e0::o0,B⟩=∃ xs,yu (lS ⟨env,sto,e0::o0,B⟩) ras=some xs∧K (tup xs) ⟨e0,sto,o0,b⟩:=by
 simp only[UJ,eq_iff_iff]
 constructor
 ·rintro ⟨_,xs,e1,o1,h1,h2,h3⟩
  cases h2
  exact ⟨xs,h1,h3⟩
 ·rintro ⟨xs,h1,h2⟩
  exact ⟨.inr trivial,xs,_,_,h1,rfl,h2⟩
@[simp] theorem agK {ras:List zw} {b:Nat} {K:AV→St→Prop} {env e0:List (Nat × AV)} {sto:List (Nat × ze)} {o0:List (List (Nat × AV))} {B:Nat} :
  UJ ras b K .normal ⟨env,sto,e0::o0,B⟩=∃ xs,yu (lS ⟨env,sto,e0::o0,B⟩) ras=some xs∧K (tup xs) ⟨e0,sto,o0,b⟩:=by
 simp only[UJ,eq_iff_iff]
 constructor
 ·rintro ⟨_,xs,e1,o1,h1,h2,h3⟩
  cases h2
  exact ⟨xs,h1,h3⟩
 ·rintro ⟨xs,h1,h2⟩
  exact ⟨.inl trivial,xs,_,_,h1,rfl,h2⟩
theorem vb {P:Program} {f:FuncId} {ac:zc} {ras:List zw} {N:Nat} {args:List AV} {s:St} {K:AV→St→Prop} (B:Nat) (ht:zl P f=some (bare ac,ras,N)) (hn:args.length≤N)
  (h:awp P ac ⟨vg 0 args,s.sto,s.env::s.out,B⟩ (UJ ras s.base K)):z0 P f args s K:=ago B ht hn h
@[simp] theorem Np {sz by_ d sz1 sz':Nat} {m:Mode} {rows1 rows:List (List AV)} {s:St} {K:St→Prop} :
  xH sz by_ s (some d) K [.list sz1 .full rows1,.list sz' m rows]=((rows=[]∨sz'=sz)∧0<sz∧(rows1.length+rows.length)*by_≤140737488355328∧rows1.length+rows.length≤9223372036854775807 ∧
   (rows1=[]∨sz1=sz)∧lk s.sto (s.base+d)=none∧K ((s.dg (s.base+d)).put (some d) (.list sz (.own (s.base+d)) (rows1++rows)))):=by
 simp[xH,yY]
@[simp] theorem LR {sz by_ d l sz1 sz':Nat} {m:Mode} {rows1 rows:List (List AV)} {s:St} {K:St→Prop} :
  xH sz by_ s (some d) K [.list sz1 (.own l) rows1,.list sz' m rows]=((rows=[]∨sz'=sz)∧0<sz∧(rows1.length+rows.length)*by_≤140737488355328∧rows1.length+rows.length≤9223372036854775807 ∧
   sz1=sz∧lk s.sto l=none∧K ((s.dg l).put (some d) (.list sz (.own l) (rows1++rows)))):=by
 simp[xH,yY]
@[simp] theorem Nm {l k sz:Nat} {rows:List (List AV)}:dg l (.list sz (.own k) rows)=if k=l then .list sz .plain rows else .list sz (.own k) rows:=rfl
@[simp] theorem aky {l:Nat}:dg l∘iv=iv:=rfl
section
variable {P:Program} {t:TypeId} {ox oy:Operand} {k k':IntKind} {a b:Int} {K:AV→Option ze→Prop}
theorem sy (h:b≠0):yc P .quo t ox oy [.val (.int k a),.val (.int k b)] K=K (.val (.int k (k.wrap (a.tdiv b)))) none:=by
 simp[yc,toV,zt,eqGuard,binOp,Op.intDiv,h,yR,ofV,y7,bind,Sem.bind,pure]
theorem nv (h:b≠0):yc P .rem t ox oy [.val (.int k a),.val (.int k b)] K=K (.val (.int k (a.tmod b))) none:=by
 simp[yc,toV,zt,eqGuard,binOp,Op.intDiv,h,yR,ofV,y7,bind,Sem.bind,pure]
def rS (op:BinOp) (k:IntKind) (a b:Int):Int :=
 match op with
 | .and=>k.wrap (BitVec.ofInt k.bits a &&& BitVec.ofInt k.bits b).toNat
 | .or=>k.wrap (BitVec.ofInt k.bits a ||| BitVec.ofInt k.bits b).toNat
 | .xor=>k.wrap (BitVec.ofInt k.bits a ^^^ BitVec.ofInt k.bits b).toNat
 | _=>k.wrap (BitVec.ofInt k.bits a &&& ~~~BitVec.ofInt k.bits b).toNat
theorem B6:yc P .and t ox oy [.val (.int k a),.val (.int k b)] K=K (.val (.int k (rS .and k a b))) none:=by
 simp[yc,toV,zt,eqGuard,binOp,Op.intBits,rS,yR,ofV,y7,bind,Sem.bind,pure]
theorem acL:yc P .or t ox oy [.val (.int k a),.val (.int k b)] K=K (.val (.int k (rS .or k a b))) none:=by
 simp[yc,toV,zt,eqGuard,binOp,Op.intBits,rS,yR,ofV,y7,bind,Sem.bind,pure]
theorem Af:yc P .xor t ox oy [.val (.int k a),.val (.int k b)] K=K (.val (.int k (rS .xor k a b))) none:=by
 simp[yc,toV,zt,eqGuard,binOp,Op.intBits,rS,yR,ofV,y7,bind,Sem.bind,pure]
theorem LS:yc P .andNot t ox oy [.val (.int k a),.val (.int k b)] K=K (.val (.int k (rS .andNot k a b))) none:=by
 simp[yc,toV,zt,eqGuard,binOp,Op.intBits,rS,yR,ofV,y7,bind,Sem.bind,pure]
theorem vH (h:¬ b<0):yc P .shl t ox oy [.val (.int k a),.val (.int k' b)] K=K (.val (.int k (k.wrap (a*2^(min b.toNat k.bits))))) none:=by
 simp[yc,toV,zt,eqGuard,binOp,Op.shift,h,yR,ofV,y7,bind,Sem.bind,pure]
theorem wB (h:¬ b<0):yc P .shr t ox oy [.val (.int k a),.val (.int k' b)] K=K (.val (.int k (a.fdiv (2^(min b.toNat k.bits))))) none:=by
 simp[yc,toV,zt,eqGuard,binOp,Op.shift,h,yR,ofV,y7,bind,Sem.bind,pure]
theorem Jl {x y:ByteArray}:(x.toList == y.toList)=decide (x=y):=by
 have:x.toList=y.toList↔x=y:=by
  constructor
  ·intro h
   have h1:x.data.toList=y.data.toList:=by simpa [ByteArray.toList_eq] using h
   cases x; cases y
   congr 1
   exact Array.ext' h1
  ·rintro rfl; rfl
 by_cases h:x=y
 ·subst h; simp
 ·have:¬ x.toList=y.toList:=fun e=>h (this.1 e)
  simp[h,this]
theorem EM {x y:ByteArray}:yc P .eql t ox oy [.val (.string x),.val (.string y)] K=K (bv (decide (x=y))) none:=by
 simp only[yc,toV,eqGuard,binOp,Op.stringOp,yR,ofV,y7,bind,pure,Jl]
 rfl
theorem EN {x y:ByteArray}:yc P .neq t ox oy [.val (.string x),.val (.string y)] K=K (bv (!decide (x=y))) none:=by
 simp only[yc,toV,eqGuard,binOp,Op.stringOp,yR,ofV,y7,bind,pure,Jl]
 rfl
end
section
variable {P:Program} {s:St} {KS:St→Prop} {os:List zh} {d:Nat} {k k':IntKind}
theorem EC {ta tb:TypeId} {u:TypeDesc} {n:Int} (ha:P.underlying ta=some u) (hb:P.underlying tb=some (.int k')):eE P ta tb (.val (.int k n))=some (.val (.int k' (k'.wrap n))):=by
 simp only[eE,convert,zP,yq,ha,hb,Option.bind_some]
 rfl
theorem aeL {n:Int}:unA P .neg (.val (.int k n))=some (.val (.int k (k.wrap (0-n)))):=rfl
theorem aeM {n:Int}:unA P .xor (.val (.int k n))=some (.val (.int k (rS .xor k (if k.signed then -1 else k.max) n))):=rfl
def PZ (x:ByteArray) (k:Nat):Nat:=(x.data[k]?.getD 0).toNat
def idxA (P:Program) (t:TypeId) (x:AV) (y:AV):Option AV :=
 match toV x,y with
 | some a,.val i=>(zt P (Instr.index t a i)).map ofV
 | _,_=>none
theorem AX {t:TypeId} {x y:Opd}:zj P (⟨some d,.idxV t,[x,y],none⟩::os) s KS=nz (idxA P t (ev s x) (ev s y)) P os s d KS:=by
 show zJ P (s.base+d) (.idxV t) [ev s x,ev s y] (lk s.sto) (xv P os s (some d) KS)=_
 cases hy:ev s y<;>cases hx:toV (ev s x)<;>simp only[zJ,idxA,hx,nz]
 rename_i v a
 cases zt P (Instr.index t a v)<;>rfl
theorem Ar {t:TypeId} (ht:P.underlying t=some .string) {xs:ByteArray} {ik:IntKind} {i:Int} (h0:0≤i) (h1:i<xs.size):idxA P t (.val (.string xs)) (.val (.int ik i))=some (.val (.int .u8 (PZ xs i.toNat))):=by
 have h2:i.toNat<xs.size:=by omega
 simp only[idxA,toV,Instr.index,asIntOf,zP,yq,ht,zU,Option.bind_some,if_pos h0]
 rw[getElem?_pos xs i.toNat h2]
 have:PZ xs i.toNat=(xs[i.toNat]'h2).toNat:=by
  unfold PZ
  rw[Array.getElem?_eq_getElem (show i.toNat<xs.data.size from h2)]
  rfl
 rw[this]
 rfl
def Rh (lo hi mx:Bool) (x:AV) (ys:List AV) (k:AV→Option ze→Prop):Prop :=
 match x with
 | .val (.string s)=>wT s.size lo hi mx ys fun l h _=>mx=false∧k (.val (.string (s.extract l h))) none
 | _=>False
theorem G7 {t:TypeId} {lo hi mx:Bool} {x:Opd} {xs:List Opd}:zj P (⟨some d,.sliceV t lo hi mx,x::xs,none⟩::os) s KS=Rh lo hi mx (ev s x) (xs.map (ev s)) (xv P os s (some d) KS):=by
 show zJ P (s.base+d) (.sliceV t lo hi mx) (ev s x::xs.map (ev s)) (lk s.sto) (xv P os s (some d) KS)=_
 simp only[zJ,Rh]
 cases ev s x<;>try rfl
 rename_i v
 cases v<;>rfl
theorem LU {lo hi mx:Bool} {x:ByteArray} {ys:List AV} {k:AV→Option ze→Prop}:Rh lo hi mx (.val (.string x)) ys k=wT x.size lo hi mx ys fun l h _=>mx=false∧k (.val (.string (x.extract l h))) none:=rfl
theorem DP {xs:List Opd} {x:Opd} {d:Option Nat} {n:String}:zj P (⟨d,.callm n,x::xs,none⟩::os) s KS=(match ev s x with | .iface t r=>(match bK P t n with | some f=>yJ P f=true∧wa P f (lk s.sto) (r::xs.map (ev s)) (xv P os s d KS) | none=>False) | _=>False):=by
 show zJ P (s.base+d.getD 0) (.callm n) (ev s x::xs.map (ev s)) (lk s.sto) (xv P os s d KS)=_
 simp only[zJ]
 cases ev s x<;>try rfl
theorem DQ {xs:List Opd} {x:Opd} {d:Option Nat}:zj P (⟨d,.callv,x::xs,none⟩::os) s KS=(match ev s x with | .fn (.func f) caps=>yJ P f=true∧wa P f (lk s.sto) (xs.map (ev s)++caps) (xv P os s d KS) | .fn (.via _ _ f _) rs=>yJ P f=true∧wa P f (lk s.sto) (rs++xs.map (ev s)) (xv P os s d KS) | _=>False):=by
 show zJ P (s.base+d.getD 0) .callv (ev s x::xs.map (ev s)) (lk s.sto) (xv P os s d KS)=_
 simp only[zJ]
 cases ev s x<;>try rfl
 rename_i f caps
 cases f<;>rfl
theorem ae9 {n:Nat} {k:Nat→Nat→Bool→Prop}:wT n false false false [] k=k 0 n false:=rfl
theorem ae8 {n:Nat} {ik:IntKind} {l:Int} {k:Nat→Nat→Bool→Prop}:wT n true false false [.val (.int ik l)] k=(0≤l∧l≤n∧k l.toNat n false):=rfl
theorem ae7 {n:Nat} {ik:IntKind} {h:Int} {k:Nat→Nat→Bool→Prop}:wT n false true false [.val (.int ik h)] k=(0≤h∧h≤n∧k 0 h.toNat false):=rfl
theorem acf {n:Nat} {ik jk:IntKind} {l h:Int} {k:Nat→Nat→Bool→Prop}:wT n true true false [.val (.int ik l),.val (.int jk h)] k=(0≤l∧l≤h∧h≤n∧k l.toNat h.toNat false):=rfl
theorem ace {n:Nat} {ik jk:IntKind} {h m:Int} {k:Nat→Nat→Bool→Prop}:wT n false true true [.val (.int ik h),.val (.int jk m)] k=(0≤h∧h=m∧m≤n∧k 0 h.toNat true):=rfl
theorem BG {n:Nat} {ik jk kk:IntKind} {l h m:Int} {k:Nat→Nat→Bool→Prop}:wT n true true true [.val (.int ik l),.val (.int jk h),.val (.int kk m)] k=(0≤l∧l≤h∧h=m∧m≤n∧k l.toNat h.toNat true):=rfl
theorem LV {sz sz':Nat} {lo hi mx:Bool} {m:Mode} {rows:List (List AV)} {xs:List AV} {k:AV→Option ze→Prop} :
  pI sz lo hi mx (.list sz' m rows::xs) k=((rows=[]∨sz'=sz)∧wT rows.length lo hi mx xs fun l h f=>k (.list sz' (if f=true then .full else .plain) ((rows.take h).drop l)) none):=rfl
theorem EQ {j sz sz' off len:Nat} {lo hi mx:Bool} {xs:List AV} {k:AV→Option ze→Prop} :
  pI sz lo hi mx (.sl j sz' off len::xs) k=(sz'=sz∧wT len lo hi mx xs fun l h _=>k (.sl j sz (off+l) (h-l)) none):=rfl
theorem ER {j sz sz' off len:Nat} {lo hi mx:Bool} {xs:List AV} {k:AV→Option ze→Prop} :
  pI sz lo hi mx (.us j sz' off len::xs) k=(sz'=sz∧wT len lo hi mx xs fun l h _=>k (.us j sz (off+l) (h-l)) none):=rfl
end
theorem GV {α:Type} {l:List (Nat × α)} {n:Nat} {x:α}:lk (pt l n x) n=some x:=by rw[wb,if_pos rfl]
theorem G9 {α:Type} {l:List (Nat × α)} {n:Nat} {x y:α}:pt (pt l n x) n y=pt l n y:=by
 induction l with
 | nil=>simp[pt]
 | cons p l ih =>
  obtain ⟨q,z⟩:=p
  by_cases h:q=n
  ·subst h; simp[pt]
  ·simp[pt,h,ih]
section
variable {k:Nat} {e:ze}
theorem E5:frz k e .undef=.undef:=rfl
theorem acS {v:Value}:frz k e (.val v)=.val v:=rfl
theorem acR {c:List AV}:frz k e (.agg c)=.agg c:=rfl
theorem afx {c:List AV}:frz k e (.ro c)=.ro c:=rfl
theorem E3 {t:TypeId} {x:AV}:frz k e (.iface t x)=.iface t x:=rfl
theorem afw {f:Fn} {c:List AV}:frz k e (.fn f c)=.fn f c:=rfl
theorem E4 {c:List AV}:frz k e (.tuple c)=.tuple c:=rfl
theorem Uj {sz:Nat} {m:Mode} {r:List (List AV)} (h:stm m=m):frz k e (.list sz m r)=.list sz m r:=by
 cases m with
 | plain=>rfl
 | full=>rfl
 | own l=>cases h
theorem t0 {sz:Nat} {r:List (List AV)}:frz k e (.list sz .plain r)=.list sz .plain r:=rfl
theorem Ao {sz:Nat} {r:List (List AV)}:frz k e (.list sz .full r)=.list sz .full r:=rfl
theorem lu {j off:Nat}:frz k e (.ptr j off)=if j=k then (match e with
   | .var cells=>if (cells.drop off).all rf=true then .ro ((cells.drop off).map strip) else .undef
   | _=>.undef) else .ptr j off:=rfl
theorem An {j sz i off:Nat}:frz k e (.eptr j sz i off)=if j=k then .undef else .eptr j sz i off:=rfl
theorem afz {j sz i off:Nat}:frz k e (.up j sz i off)=if j=k then .undef else .up j sz i off:=rfl
theorem afy {j sz off len:Nat}:frz k e (.sl j sz off len)=if j=k then (match e with
   | .arr sz' rows=>if sz'=sz∧off+len≤rows.length then .list sz .plain ((rows.drop off).take len) else .undef
   | _=>.undef) else .sl j sz off len:=rfl
theorem jf {j sz off len:Nat}:frz k e (.us j sz off len)=if j=k then (match e with
   | .uarr sz' rows=>if sz'=sz∧off+len≤rows.length∧yF ((rows.drop off).take len)=true then .list sz .plain (zQ ((rows.drop off).take len)) else .undef
   | _=>.undef) else .us j sz off len:=rfl
theorem NI {x:Nat} {ks:List Nat} {s:St} {K:St→Prop}:s4 (x::ks) s K=xf (s.base+x) s (fun s'=>s4 ks s' K):=rfl
end
attribute [simp] GV G9
attribute [simp] E5 acS acR afx E3 afw E4 t0 Ao lu An afz afy jf NI
attribute [simp high] XT JM aC QX
attribute [simp] B6 acL Af LS EM EN EC aeL aeM AX Ar G7 LU DQ DP ae9 ae8 ae7 acf ace BG LV EQ ER
section
variable {P:Program} {t:Nat} {ox oy:Operand} {a b:List AV} {K:AV→Option ze→Prop}
theorem Nr {ks:List Kd} {xs ys:List Value} (hk:kds P Op.maxDepth t=some ks) (hg:P.eqGuardType P.depth t=false) (hA:agT P t=true)
  (ha:sK a=some xs) (hb:sK b=some ys) (fx:uD ks xs=true) (fy:uD ks ys=true):yc P .eql t ox oy [.agg a,.agg b] K=K (bv (eqL xs ys)) none:=by
 have e:=qr Op.maxDepth t _ xs ys hk fx fy
 simp only[valOf,hA,if_true] at e
 have e2:zt P (Op.equal t (.agg xs.toArray) (.agg ys.toArray))=some (eqL xs ys):=e
 have e1:binOp .eql t (.agg xs.toArray) (.agg ys.toArray)=(do pure (.bool (← Op.equal t (.agg xs.toArray) (.agg ys.toArray)))):=rfl
 simp only[yc,toV,ha,hb,Option.map_some,zP,TH hg,e1,e2,Option.bind_some,zU,yR,ofV,y7]
end
end Go.Am
