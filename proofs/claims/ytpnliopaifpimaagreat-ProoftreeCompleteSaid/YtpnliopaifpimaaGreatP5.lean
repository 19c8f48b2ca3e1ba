/- What the proof rests on, part 5: Am22 Am23 Am24 Am25 Am26 Am27 Am28 Am39 Am40 Am41 Am42. -/
import Derived.Test.YtpnliopaifpimaaGreatP4
import Derived.Scope
import Derived.ScopeJumps
import Derived.Deep.LoopGhost
import Derived.OpenShut
import Derived.SizedLaws
import Derived.Carry
import Derived.ProofKit
set_option maxRecDepth 100000
set_option maxHeartbeats 4000000
namespace Go.Am
open Go.RowKit
section
variable {P:Program} {F:yd}
def Y4 (c:Code):Exit→Bool
 | .normal=>true
 | .exit _=>true
 | .ret=>true
 | .goto _=>rn c
 | _=>false
theorem L1 {p:Nat→Prop}:∀ n,p n→∃ m,p m∧∀ k,p k→m≤k:=by
 intro n
 induction n using Nat.strongRecOn with
 | ind n ih =>
  intro hn
  by_cases h:∃ m,m<n∧p m
  ·obtain ⟨m,hm,hp⟩:=h; exact ih m hm hp
  ·exact ⟨n,hn,fun k hk=>Nat.le_of_not_lt fun hlt=>h ⟨k,hlt,hk⟩⟩
open Classical in
noncomputable def Rp (J:Nat→Act→World→Prop) (a:Act) (w:World):Nat:=if h:∃ n,J n a w then Classical.choose (L1 (p:=fun n=>J n a w) h.choose h.choose_spec) else 0
theorem U0 {J:Nat→Act→World→Prop} {a:Act} {w:World} (h:∃ n,J n a w):J (Rp J a w) a w∧∀ k,J k a w→Rp J a w≤k:=by
 unfold Rp
 rw[dif_pos h]
 exact Classical.choose_spec (L1 (p:=fun n=>J n a w) h.choose h.choose_spec)
theorem UK {ac:zd} {draw:Bool} {l:List zi} (h:zd.region draw [] l [] []=bare ac):∃ FK D DK l',ac=.region draw FK l' D DK∧l=l'.map (yr draw):=by
 cases ac<;>simp only[bare,reduceCtorEq,zd.region.injEq] at h
 obtain ⟨rfl,_,rfl,_,_⟩:=h
 exact ⟨_,_,_,_,rfl,rfl⟩
def fA (P:Program) (F:yd) (c:Code):Prop:=∀ (ac:zd),yt P F.N c=some (bare ac)→∀ {s:St} {a:Act} {w:World} {K:Exit→St→Prop} {Q:Exit→Act→World→Prop},Holds F s a w→awp P ac s K →
  (∀ e s' a' w',Y4 c e=true→K e s'→Holds F s' a' w'→Q e a' w')→c.wp P Q a w
theorem JI:∀ (c:Code),fA P F c∧∀ l r,c=.seq (.label l) r→fA P F (.seq .skip r)∧fA P F r:=by
 intro c
 induction c with
 | skip =>
  refine ⟨?_,fun l r e=>by cases e⟩
  intro ac htr s a w K Q hH h hk
  simp only[yt,Option.some.injEq] at htr
  cases ac<;>simp only[bare,reduceCtorEq] at htr
  exact wp_skip (hk _ _ _ _ rfl h hH)
 | region id ops draw =>
  refine ⟨?_,fun l r e=>by cases e⟩
  intro ac htr s a w K Q hH h hk
  simp only[yt] at htr
  split at htr
  ·rename_i l hl
   split at htr
   ·rename_i hd
    simp only[Option.some.injEq] at htr
    obtain ⟨FK,D,DK,l',rfl,rfl⟩:=UK htr
    simp only[awp] at h
    obtain ⟨s0,h,hH⟩:=Yc FK hH h
    have hk':∀ s' a' w',(X5 (s'.drop D) DK fun s''=>K .normal s'')→Holds F s' a' w'→Q .normal a' w':=by
     intro s' a' w' hK hH'
     obtain ⟨s'',h1,h2⟩:=UZ (Zg hH') hK
     exact hk _ _ _ _ rfl h1 h2
    cases draw with
    | false=>exact wp_region_list (E6 ops ops.toList _ hl hH h hk')
    | true=>exact Lo hl (by simp only[Bool.true_eq_false,false_or] at hd; exact hd.1) hH h hk'
   ·rename_i hnd
    split at htr
    ·rename_i hm
     simp only[Option.some.injEq] at htr
     obtain ⟨FK,D,DK,l',rfl,he⟩:=UK htr
     simp only[awp] at h
     obtain ⟨s0,h,hH⟩:=Yc FK hH h
     have hk':∀ s' a' w',(X5 (s'.drop D) DK fun s''=>K .normal s'')→Holds F s' a' w'→Q .normal a' w':=by
      intro s' a' w' hK hH'
      obtain ⟨s'',h1,h2⟩:=UZ (Zg hH') hK
      exact hk _ _ _ _ rfl h1 h2
     cases draw with
     | false=>exact absurd (.inl rfl) hnd
     | true=>exact Kf (aez hl) (fun i f ds e=>(aeq hl e).trans aaJ.symm) hm he hH h hk'
    ·cases htr
  ·cases htr
 | seq x y ihx ihy =>
  refine ⟨?_,?_⟩
  ·intro ac htr s a w K Q hH h hk
   simp only[yt] at htr
   split at htr
   ·rename_i bx by_ hx hy
    simp only[Option.some.injEq] at htr
    cases ac<;>simp only[bare,reduceCtorEq,zd.seq.injEq] at htr
    rename_i ax ay
    obtain ⟨rfl,rfl⟩:=htr
    simp only[awp] at h
    refine wp_seq (ihx.1 ax hx hH h fun e s' a' w' hne hK hH'=>?_)
    cases e with
    | normal=>exact ihy.1 ay hy hH' hK fun e s' a' w' hne=>hk e s' a' w' (by cases e<;>simp_all [Y4,rn])
    | exit id=>exact hk _ _ _ _ rfl hK hH'
    | ret=>exact hk _ _ _ _ rfl hK hH'
    | goto l=>exact hk _ _ _ _ (by simp only[Y4,rn,Bool.or_eq_true] at hne ⊢; exact .inl hne) hK hH'
    | panic ch=>cases hne
    | outgrown=>cases hne
   ·cases htr
  ·intro l r e
   cases e
   refine ⟨?_,ihy.1⟩
   intro ac htr s a w K Q hH h hk
   simp only[yt] at htr
   split at htr
   ·rename_i bx by_ hx hy
    simp only[Option.some.injEq] at hx
    subst hx
    simp only[Option.some.injEq] at htr
    cases ac<;>simp only[bare,reduceCtorEq,zd.seq.injEq] at htr
    rename_i ax ay
    obtain ⟨hx,rfl⟩:=htr
    cases ax<;>simp only[bare,reduceCtorEq] at hx
    simp only[awp,KR] at h
    exact wp_seq (wp_skip (ihy.1 ay hy hH h fun e s' a' w' hne=>hk e s' a' w' (by cases e<;>simp_all [Y4,rn])))
   ·cases htr
 | cond c x y ihx ihy =>
  refine ⟨?_,fun l r e=>by cases e⟩
  intro ac htr s a w K Q hH h hk
  simp only[yt] at htr
  split at htr
  ·rename_i bx by_ hx hy
   simp only[Option.some.injEq] at htr
   cases ac<;>simp only[bare,reduceCtorEq,zd.cond.injEq] at htr
   rename_i c' ax ay
   obtain ⟨rfl,rfl,rfl⟩:=htr
   simp only[awp] at h
   split at h
   ·rename_i b hb
    have hc:a.eval c=.bool b:=by
     obtain ⟨I,β,lam,hI⟩:=hH
     have:=hI.opd c
     rw[hb] at this
     exact this.val_eq
    exact wp_cond_split hc (fun e=>ihx.1 ax hx hH (h.1 e) fun e s' a' w' hne=>hk e s' a' w' (by cases e<;>simp_all [Y4,rn])) (fun e=>ihy.1 ay hy hH (h.2 e) fun e s' a' w' hne=>hk e s' a' w' (by cases e<;>simp_all [Y4,rn]))
   ·exact h.elim
  ·cases htr
 | block id c ih =>
  refine ⟨?_,fun l r e=>by cases e⟩
  intro ac htr s a w K Q hH h hk
  simp only[yt,Option.map_eq_some_iff] at htr
  obtain ⟨bc,hc,htr⟩:=htr
  cases ac<;>simp only[bare,reduceCtorEq,zd.block.injEq] at htr
  rename_i id' ac'
  obtain ⟨rfl,rfl⟩:=htr
  simp only[awp] at h
  refine wp_block (ih.1 ac' hc hH h fun e s' a' w' hne hK hH'=>?_)
  cases e with
  | normal=>exact hk _ _ _ _ rfl hK hH'
  | exit i =>
   simp only[SF] at hK
   simp only[Exit.inBlock]
   split
   ·rename_i e; rw[if_pos e] at hK; exact hk _ _ _ _ rfl hK hH'
   ·rename_i e; rw[if_neg e] at hK; exact hk _ _ _ _ rfl hK hH'
  | ret=>exact hk _ _ _ _ rfl hK hH'
  | goto l=>exact hk _ _ _ _ hne hK hH'
  | panic ch=>cases hne
  | outgrown=>cases hne
 | loop c ih =>
  refine ⟨?_,fun l r e=>by cases e⟩
  intro ac htr s a w K Q hH h hk
  simp only[yt,Option.map_eq_some_iff] at htr
  obtain ⟨bc,hc,htr⟩:=htr
  cases ac<;>simp only[bare,reduceCtorEq,zd.loop.injEq] at htr
  rename_i ac'
  subst htr
  simp only[awp] at h
  obtain ⟨J,n,s0,hi,h0,h⟩:=h
  refine wp_loop_ghost (fun n a w=>∃ s,Holds F s a w∧J n s) n ⟨s0,hi F a w hH,h0⟩ fun n a w ⟨s,hH,hJ⟩=>?_
  refine ih.1 ac' hc hH (h n s hJ) fun e s' a' w' hne hK hH'=>?_
  cases e with
  | normal =>
   obtain ⟨m,s2,hm,hi2,hJ'⟩:=hK
   exact ⟨m,hm,s2,hi2 F a' w' hH',hJ'⟩
  | exit id=>exact hk _ _ _ _ rfl hK hH'
  | ret=>exact hk _ _ _ _ rfl hK hH'
  | goto l=>exact hk _ _ _ _ hne hK hH'
  | panic ch=>cases hne
  | outgrown=>cases hne
 | rangeFunc f ps x y =>
  refine ⟨?_,fun l r e=>by cases e⟩
  intro ac htr; simp[yt] at htr
 | exit id =>
  refine ⟨?_,fun l r e=>by cases e⟩
  intro ac htr s a w K Q hH h hk
  simp only[yt,Option.some.injEq] at htr
  cases ac<;>simp only[bare,reduceCtorEq,zd.exit.injEq] at htr
  subst htr
  exact wp_exit (hk _ _ _ _ rfl h hH)
 | scope c ih =>
  refine ⟨?_,fun l r e=>by cases e⟩
  have straight:∀ ac,rn c=false→yt P F.N c=some (bare ac)→∀ {s:St} {a:Act} {w:World} {K:Exit→St→Prop} {Q:Exit→Act→World→Prop},Holds F s a w→awp P ac s K →
    (∀ e s' a' w',Y4 (.scope c) e=true→K e s'→Holds F s' a' w'→Q e a' w')→(Code.scope c).wp P Q a w:=by
   intro ac hg htr s a w K Q hH h hk
   refine wp_scope_straight (ih.1 ac htr hH h fun e s' a' w' hne hK hH'=>?_)
   cases e with
   | normal=>exact hk _ _ _ _ rfl hK hH'
   | exit i=>exact hk _ _ _ _ rfl hK hH'
   | ret=>exact hk _ _ _ _ rfl hK hH'
   | goto l=>simp only[Y4,hg] at hne; cases hne
   | panic ch=>cases hne
   | outgrown=>cases hne
  have other:(∀ l r,c≠.seq (.label l) r)→fA P F (.scope c):=by
   intro hne ac htr
   rw[yt.eq_def] at htr
   split at htr<;>first | (rename_i heq; cases heq; done) | skip
   all_goals first
    | (cases htr; done)
    | (rename_i l r heq; cases heq; exact absurd rfl (hne _ _))
    | (
      rename_i c' _ heq
      cases heq
      split at htr
      ·cases htr
      ·rename_i hg
       exact straight ac (by simpa using hg) htr)
  cases c with
  | seq x r =>
   cases x with
   | label l =>
    intro ac htr s a w K Q hH h hk
    simp only[yt] at htr
    split at htr
    ·rename_i hg
     simp only[Option.map_eq_some_iff] at htr
     obtain ⟨br,hr,htr⟩:=htr
     cases ac<;>simp only[bare,reduceCtorEq,zd.again.injEq] at htr
     rename_i l' ar
     obtain ⟨rfl,rfl⟩:=htr
     simp only[awp] at h
     obtain ⟨J,n,s0,hi,h0,h⟩:=h
     have ihr:=ih.2 _ _ rfl
     have step:∀ n s a w,Holds F s a w→J n s→∀ {c:Code} {ac:zd},fA P F c→yt P F.N c=some (bare ac)→(∀ K,awp P ar s K→awp P ac s K) →
       c.wp P (Exit.jump l (fun a' w'=>∃ m,m<n∧∃ s',Holds F s' a' w'∧J m s') Q) a w:=by
      intro n s a w hH hJ c ac hS htr hto
      refine hS ac htr hH (hto _ (h n s hJ)) fun e s' a' w' hne hK hH'=>?_
      cases e with
      | normal=>exact hk _ _ _ _ rfl hK hH'
      | exit i=>exact hk _ _ _ _ rfl hK hH'
      | ret=>exact hk _ _ _ _ rfl hK hH'
      | goto i =>
       obtain ⟨rfl,m,s2,hm,hi2,hJ'⟩:=hK
       exact ⟨rfl,m,hm,s2,hi2 F a' w' hH',hJ'⟩
      | panic ch=>cases hne
      | outgrown=>cases hne
     let J':Nat→Act→World→Prop:=fun m a w=>∃ s,Holds F s a w∧J m s
     refine wp_scope_jumps (rest:=.seq .skip r) l (fun a w=>∃ m,J' m a w) (Rp J') (by simp[findLabel]) ?_ ?_
     ·have:=step n s0 a w (hi F a w hH) h0 (c:=.seq (.label l) r) (ac:=.seq .skip ar) ih.1 (by simp only[yt,hr]; rfl) (fun K h=>by simpa only[awp,KR] using h)
      refine wp_mono this ?_
      intro e a' w' hq
      cases e with
      | goto i=>obtain ⟨e1,m,_,s',h1,h2⟩:=hq; exact ⟨e1,m,s',h1,h2⟩
      | _=>exact hq
     ·intro a w hJ
      obtain ⟨⟨s1,h1,h2⟩,hmin⟩:=U0 hJ
      have:=step _ s1 a w h1 h2 (c:=.seq .skip r) (ac:=.seq .skip ar) ihr.1 (by simp only[yt,hr]; rfl) (fun K h=>by simpa only[awp,KR] using h)
      refine wp_mono this ?_
      intro e a' w' hq
      cases e with
      | goto i =>
       obtain ⟨e1,m,hm,s',h3,h4⟩:=hq
       refine ⟨e1,⟨m,s',h3,h4⟩,?_⟩
       have:=(U0 (J:=J') ⟨m,s',h3,h4⟩).2 m ⟨s',h3,h4⟩
       omega
      | _=>exact hq
    ·rename_i hg
     have htr':yt P F.N (.seq (.label l) r)=some (bare ac):=by
      simp only[Option.map_eq_some_iff] at htr
      obtain ⟨br,hr,htr⟩:=htr
      simp only[yt,hr,htr]
     exact straight ac (by simpa [rn] using hg) htr' hH h hk
   | _=>exact other (by intros; simp)
  | _=>exact other (by intros; simp)
 | label l =>
  refine ⟨?_,fun l r e=>by cases e⟩
  intro ac htr s a w K Q hH h hk
  simp only[yt,Option.some.injEq] at htr
  cases ac<;>simp only[bare,reduceCtorEq] at htr
  exact wp_label (hk _ _ _ _ rfl h hH)
 | goto l =>
  refine ⟨?_,fun l r e=>by cases e⟩
  intro ac htr s a w K Q hH h hk
  simp only[yt,Option.some.injEq] at htr
  cases ac<;>simp only[bare,reduceCtorEq,zd.goto.injEq] at htr
  subst htr
  exact wp_goto (hk _ _ _ _ rfl h hH)
 | ret =>
  refine ⟨?_,fun l r e=>by cases e⟩
  intro ac htr s a w K Q hH h hk
  simp only[yt,Option.some.injEq] at htr
  cases ac<;>simp only[bare,reduceCtorEq] at htr
  exact wp_ret (hk _ _ _ _ rfl h hH)
 | refuse why =>
  refine ⟨?_,fun l r e=>by cases e⟩
  intro ac htr; simp[yt] at htr
theorem Rb (c:Code):fA P F c:=(JI c).1
inductive zq where
 | t (n:Nat)
 | cell (n:Nat) (k:Option Nat)
def pg (P:Program):ResultVar→Option zq
 | .tmp t=>some (.t t)
 | .cell a t=>(ldT P t).map (.cell a)
def Q9 (s:St):zq→Option AV
 | .t n=>vv (lk s.sto) (s.get n)
 | .cell n k=>match s.get n with
  | .ptr j off=>match lk s.sto j with
   | some (.var cells)=>match zH cells off k with
    | some x=>vv (lk s.sto) x
    | none=>none
   | _=>none
  | _=>none
def mf (l:List zq) (s:St):Option AV :=
 match yQ (Q9 s) l with
 | some [x]=>some x
 | some xs=>some (.tuple xs)
 | none=>none
def qo:Nat→List AV→List (Nat × AV)
 | _,[]=>[]
 | i,x::xs=>(i,x)::qo (i+1) xs
theorem L3:∀ (xs:List AV) (i t:Nat) (x:AV),lk (qo i xs) t=some x→∃ j,t=i+j∧xs[j]?=some x:=by
 intro xs
 induction xs with
 | nil=>intro i t x h; simp[qo,lk] at h
 | cons y xs ih =>
  intro i t x h
  simp only[qo,lk] at h
  split at h
  ·rename_i e
   exact ⟨0,by omega,by simpa using h⟩
  ·obtain ⟨j,h1,h2⟩:=ih _ _ _ h
   exact ⟨j+1,by omega,by simpa using h2⟩
def gm (tmps:Array Value):ResultVar→Sem Value
 | .tmp t=>pure (tmps.getD t undef)
 | .cell p t=>do loadVar t (← asAddr (tmps.getD p undef))
def jC (s:St):zq→Option AV
 | .t n=>some (strip (s.get n))
 | .cell n k=>match s.get n with
  | .ptr j off=>match lk s.sto j with
   | some (.var cells)=>(zH cells off k).map strip
   | _=>none
  | _=>none
def tup:List AV→AV
 | [x]=>x
 | xs=>.tuple xs
theorem acg {l:List zq} {s:St} {r:AV} (h:mf l s=some r):∃ xs,yQ (Q9 s) l=some xs∧r=tup xs:=by
 unfold mf at h
 split at h
 ·rename_i x hx
  simp only[Option.some.injEq] at h
  exact ⟨[x],hx,h.symm⟩
 ·rename_i xs hne hx
  simp only[Option.some.injEq] at h
  refine ⟨xs,hx,?_⟩
  match xs,hne with
  | [],_=>exact h.symm
  | [x],hne=>exact absurd rfl (hne x)
  | _::_::_,_=>exact h.symm
 ·cases h
theorem afa {s:St} {a:Act} {w:World} {I:Nat→Nat→Prop} {β:zY} {lam:yg} (hI:Inv F s.look (lk s.sto) I β lam a w) {rv:ResultVar} {ra:zq} {x:AV} (htr:pg P rv=some ra) (hx:jC s ra=some x) :
  ∃ v,(gm a.tmps rv).run P w=.ok v w∧R I w β lam x v∧∃ y,x=strip y:=by
 have hget:∀ n,R I w β lam (s.get n) (a.tmps.getD n undef):=fun n=>hI.opd (.tmp n)
 cases rv with
 | tmp t =>
  simp only[pg,Option.some.injEq] at htr
  subst htr
  simp only[jC,Option.some.injEq] at hx
  subst hx
  exact ⟨_,rfl,(hget t).strip,_,rfl⟩
 | cell p t =>
  simp only[pg,Option.map_eq_some_iff] at htr
  obtain ⟨k,hk,rfl⟩:=htr
  simp only[jC] at hx
  split at hx
  ·rename_i j off hp
   split at hx
   ·rename_i cells hs
    simp only[Option.map_eq_some_iff] at hx
    obtain ⟨y,hy,rfl⟩:=hx
    have hR:=hget p
    rw[hp] at hR
    obtain ⟨b,hb,hv⟩:=hR.ptr_inv
    have hE:=hI.hread _ _ _ hs hb
    obtain ⟨v,hr,hRv⟩:=TQ (o:=0) hk hy (fun j c hj=>by
     obtain ⟨v,h1,_,h3,h4⟩:=hE j c hj
     exact ⟨v,by rw[Nat.zero_add]; exact h1,h3,h4⟩)
    rw[Nat.zero_add] at hr
    refine ⟨v,?_,hRv.strip,_,rfl⟩
    simp only[Instr.loadAt,Instr.sureAddr,Sem.run_bind,Sem.run_pure,Result.andThen_ok] at hr
    simp only[gm,hv,asAddr,Sem.run_bind,Sem.run_pure,Result.andThen_ok]
    exact hr
   ·cases hx
  ·cases hx
theorem afc {s:St} {a:Act} {w:World} {I:Nat→Nat→Prop} {β:zY} {lam:yg} (hI:Inv F s.look (lk s.sto) I β lam a w) {rv:ResultVar} {ra:zq} {x:AV} (htr:pg P rv=some ra) (hx:Q9 s ra=some x) :
  ∃ v,(gm a.tmps rv).run P w=.ok v w∧R0 (Seen I β lam) w x v:=by
 have hget:∀ n,R I w β lam (s.get n) (a.tmps.getD n undef):=fun n=>hI.opd (.tmp n)
 cases rv with
 | tmp t =>
  simp only[pg,Option.some.injEq] at htr
  subst htr
  exact ⟨_,rfl,(Ur hI.hread hI.usto hx (hget t)).1⟩
 | cell p t =>
  simp only[pg,Option.map_eq_some_iff] at htr
  obtain ⟨k,hk,rfl⟩:=htr
  simp only[Q9] at hx
  split at hx
  ·rename_i j off hp
   split at hx
   ·rename_i cells hs
    split at hx
    ·rename_i y hy
     have hR:=hget p
     rw[hp] at hR
     obtain ⟨b,hb,hv⟩:=hR.ptr_inv
     have hE:=hI.hread _ _ _ hs hb
     obtain ⟨v,hr,hRv⟩:=TQ (o:=0) hk hy (fun j c hj=>by
      obtain ⟨v,h1,_,h3,h4⟩:=hE j c hj
      exact ⟨v,by rw[Nat.zero_add]; exact h1,h3,h4⟩)
     rw[Nat.zero_add] at hr
     refine ⟨v,?_,(Ur hI.hread hI.usto hx hRv).1⟩
     simp only[Instr.loadAt,Instr.sureAddr,Sem.run_bind,Sem.run_pure,Result.andThen_ok] at hr
     simp only[gm,hv,asAddr,Sem.run_bind,Sem.run_pure,Result.andThen_ok]
     exact hr
    ·cases hx
   ·cases hx
  ·cases hx
theorem J8 {rd:zq→Option AV} {Rel:AV→Value→Prop} {tmps:Array Value} {w:World} (hrd:∀ rv ra x,pg P rv=some ra→rd ra=some x→∃ v,(gm tmps rv).run P w=.ok v w∧Rel x v) :
  ∀ (rvs:List ResultVar) (ras:List zq) (xs:List AV),
  yQ (pg P) rvs=some ras→yQ rd ras=some xs →
  ∃ vs:List Value,(rvs.mapM (gm tmps)).run P w=.ok vs w ∧
   vs.length=xs.length∧∀ (i:Nat) (x:AV),xs[i]?=some x→∃ v,vs[i]?=some v∧Rel x v:=by
 intro rvs
 induction rvs with
 | nil =>
  intro ras xs h1 h2
  simp only[yQ,Option.some.injEq] at h1
  subst h1
  simp only[yQ,Option.some.injEq] at h2
  subst h2
  exact ⟨[],rfl,rfl,fun i x h=>by simp at h⟩
 | cons rv rvs ih =>
  intro ras xs h1 h2
  simp only[yQ] at h1
  split at h1
  ·rename_i ra hra
   simp only[Option.map_eq_some_iff] at h1
   obtain ⟨ras',h1,rfl⟩:=h1
   simp only[yQ] at h2
   split at h2
   ·rename_i x hx
    simp only[Option.map_eq_some_iff] at h2
    obtain ⟨xs',h2,rfl⟩:=h2
    obtain ⟨v,hv,hR⟩:=hrd rv ra x hra hx
    obtain ⟨vs,g1,g2,g3⟩:=ih ras' xs' h1 h2
    refine ⟨v::vs,?_,by simp[g2],fun i x' hi=>?_⟩
    ·rw[List.mapM_cons,Sem.run_bind,hv]
     simp only[Result.andThen_ok,Sem.run_bind,g1,Sem.run_pure]
    ·cases i with
     | zero=>simp at hi; subst hi; exact ⟨v,rfl,hR⟩
     | succ i=>simp at hi; simpa using g3 i x' hi
   ·cases h2
  ·cases h1
theorem Tc {fn:Func} {rd:zq→Option AV} {Rel:AV→Value→Prop} {tmps:Array Value} {w:World} (hrd:∀ rv ra x,pg P rv=some ra→rd ra=some x→∃ v,(gm tmps rv).run P w=.ok v w∧Rel x v)
  (htup:∀ (xs:List AV) (vs:Array Value),yQ rd (Option.getD (yQ (pg P) fn.results.toList) [])=some xs→vs.size=xs.length→(∀ i x,xs[i]?=some x→Rel x (vs.getD i undef))→Rel (.tuple xs) (.tuple vs))
  {ras:List zq} {xs:List AV} (h1:yQ (pg P) fn.results.toList=some ras) (h2:yQ rd ras=some xs):∃ v,(results fn tmps).run P w=.ok v w∧Rel (tup xs) v:=by
 obtain ⟨vl,g1,g2,g3⟩:=J8 hrd fn.results.toList ras xs h1 h2
 rw[h1] at htup
 simp only[Option.getD_some] at htup
 refine ⟨if h:vl.toArray.size=1 then vl.toArray[0] else .tuple vl.toArray,?_,?_⟩
 ·have e:results fn tmps=(fn.results.mapM (gm tmps) >>= fun vs=>pure (if h:vs.size=1 then vs[0] else .tuple vs)):=by
   unfold results
   congr 1
   first | done | (congr 1; funext x; cases x<;>rfl)
  rw[e,Array.mapM_eq_mapM_toList,Sem.run_bind,Sem.run_map,g1]
  rfl
 ·have gt:∀ i x,xs[i]?=some x→Rel x (vl.toArray.getD i undef):=fun i x hi=>by
   obtain ⟨v,hv,hRv⟩:=g3 i x hi
   have:vl.toArray.getD i undef=v:=by simp[hv]
   rw[this]
   exact hRv
  match xs,g2,g3,h2,gt with
  | [x],g2,g3,h2,gt =>
   obtain ⟨v,hv,hRv⟩:=g3 0 x rfl
   have hvl:vl=[v]:=by
    match vl,g2,hv with
    | [v'],_,hv=>simp at hv; rw[hv]
   subst hvl
   simp only[List.size_toArray,List.length_cons,List.length_nil,dite_true]
   exact hRv
  | [],g2,g3,h2,gt =>
   have hvl:vl=[]:=by simpa using g2
   subst hvl
   exact htup [] #[] h2 rfl (fun i c h=>by simp at h)
  | x::y::xs,g2,g3,h2,gt =>
   have hne:¬ vl.toArray.size=1:=by simp at g2 ⊢; omega
   rw[dif_neg hne]
   exact htup _ _ h2 (by simpa using g2) gt
theorem abn {α γ:Type} {f:α→Option γ}:∀ {l:List α} {l':List γ},yQ f l=some l'→∀ y∈l',∃ x∈l,f x=some y:=by
 intro l
 induction l with
 | nil=>intro l' h; simp only[yQ,Option.some.injEq] at h; subst h; simp
 | cons x l ih =>
  intro l' h
  simp only[yQ] at h
  split at h
  ·rename_i y hy
   simp only[Option.map_eq_some_iff] at h
   obtain ⟨l2,h2,rfl⟩:=h
   intro z hz
   rcases List.mem_cons.1 hz with rfl | hz
   ·exact ⟨x,by simp,hy⟩
   ·obtain ⟨x',h3,h4⟩:=ih h2 z hz
    exact ⟨x',by simp[h3],h4⟩
  ·cases h
theorem N7 {x:AV} {sz l:Nat} {rows:List (List AV)}:strip x≠.list sz (.own l) rows:=by
 cases x<;>simp only[strip,ne_eq,reduceCtorEq,not_false_eq_true]
 rename_i sz' m rows'
 cases m<;>simp
theorem EX {s:St} {ra:zq} {x:AV} (h:jC s ra=some x):∃ y,x=strip y:=by
 cases ra with
 | t n =>
  simp only[jC,Option.some.injEq] at h
  exact ⟨_,h.symm⟩
 | cell n k =>
  simp only[jC] at h
  split at h
  ·split at h
   ·simp only[Option.map_eq_some_iff] at h
    obtain ⟨y,_,rfl⟩:=h
    exact ⟨_,rfl⟩
   ·cases h
  ·cases h
theorem aaq {f:FuncId} {fn:Func} {code:Code} {ac:zd} {ras:List zq} {args:List AV} {s:St} {K:AV→St→Prop} (B:Nat) (hf:P.funcs[f]?=some fn) (hb:fn.body=some code)
  (htr:yt P fn.ntmps code=some (bare ac)) (hres:yQ (pg P) fn.results.toList=some ras) (hn:args.length≤fn.ntmps)
  (h:awp P ac {env:=qo 0 args,sto:=s.sto,out:=s.env::s.out,base:=B} fun e s'=>(e=.normal∨e=.ret)∧∃ xs e0 o0,yQ (jC s') ras=some xs∧s'.out=e0::o0∧K (tup xs) {env:=e0,sto:=s'.sto,out:=o0,base:=s.base}):yH P f args s K:=by
 intro F a w I β lam hI vs hs hR
 refine calls_of_wp hf hb ?_
 have hH:Holds {w0:=F.w0,I0:=F.I0,N:=fn.ntmps,outs:=a.tmps::F.outs} {env:=qo 0 args,sto:=s.sto,out:=s.env::s.out,base:=B} {tmps:=vs++Array.replicate (fn.ntmps-vs.size) undef,defers:=[]} w:=by
  refine ⟨I,β,lam,?_⟩
  refine {hI with defers:=rfl,size:=by simp; omega,env:=fun t x ht=>?_}
  obtain ⟨d,t⟩:=t
  cases d with
  | zero =>
   obtain ⟨j,rfl,hj⟩:=L3 _ _ _ _ ht
   have hlt:j<vs.size:=by
    have:=(List.getElem?_eq_some_iff.1 hj).1
    omega
   refine ⟨vs.getD j undef,?_,hR j x hj⟩
   simp only[yd.val]
   rw[Nat.zero_add,Array.getElem?_append_left hlt]
   simp[hlt]
  | succ d =>
   cases d with
   | zero =>
    obtain ⟨v,h1,h2⟩:=hI.env (0,t) x ht
    exact ⟨v,h1,h2⟩
   | succ d =>
    obtain ⟨v,h1,h2⟩:=hI.env (d+1,t) x ht
    exact ⟨v,h1,h2⟩
 refine Rb (F:={w0:=F.w0,I0:=F.I0,N:=fn.ntmps,outs:=a.tmps::F.outs}) code ac htr hH h fun e s' a' w' _ hK hH'=>?_
 obtain ⟨he,xs,e0,o0,hxs,hout,hK⟩:=hK
 obtain ⟨I',β',lam',hI'⟩:=hH'
 obtain ⟨v,hrun,hRv⟩:=Tc (fn:=fn) (rd:=jC s') (Rel:=R I' w' β' lam') (fun rv ra x h1 h2=>by
   obtain ⟨v,g1,g2,_⟩:=afa hI' h1 h2
   exact ⟨v,g1,g2⟩) (fun xs vs h1 h2 h3=>by
   refine .tuple xs vs h2 (fun sz l rows hm=>?_) h3
   obtain ⟨ra,_,hra⟩:=abn h1 _ hm
   obtain ⟨y,hy⟩:=EX hra
   exact N7 hy.symm) hres hxs
 have hpop:Inv F (St.look {env:=e0,sto:=s'.sto,out:=o0,base:=s.base}) (lk s'.sto) I' β' lam' a w':=by
  refine {hI' with defers:=hI.defers,size:=hI.size,env:=fun t x ht=>?_}
  have key:s'.look (t.1+1,t.2)=some x:=by
   obtain ⟨d,t⟩:=t
   simp only[St.look,hout] at ht ⊢
   cases d with
   | zero=>exact ht
   | succ d=>exact ht
  obtain ⟨v,h1,h2⟩:=hI'.env _ x key
  refine ⟨v,?_,h2⟩
  obtain ⟨d,t⟩:=t
  cases d with
  | zero=>exact h1
  | succ d=>exact h1
 have hpost:a'.defers=[]∧∃ v,(results fn a'.tmps).run P w'=.ok v w'∧∃ u,Ending.returned v=.returned u∧∃ r s' I' β' lam',K r s'∧Inv F s'.look (lk s'.sto) I' β' lam' a w'∧R I' w' β' lam' r u :=
  ⟨hI'.defers,v,hrun,v,rfl,tup xs,_,I',β',lam',hK,hpop,hRv⟩
 rcases he with rfl | rfl
 ·exact hpost
 ·exact hpost
def AV.imp (x y:AV):Prop:=∀ (I:Nat→Nat→Prop) (w:World) (v:Value),R0 I w x v→R0 I w y v
theorem AV.imp.refl {x:AV}:AV.imp x x:=fun _ _ _ h=>h
theorem acS {f:FuncId} {fn:Func} {code:Code} {ac:zd} {ras:List zq} {args:List AV} {r:AV} {K:Exit→St→Prop} (hK0:∀ e s,K e s→(e=.normal∨e=.ret)∧∃ r0,mf ras s=some r0∧AV.imp r0 r) (hf:P.funcs[f]?=some fn) (hb:fn.body=some code)
  (htr:yt P fn.ntmps code=some (bare ac)) (hres:yQ (pg P) fn.results.toList=some ras) (hn:args.length≤fn.ntmps)
  (h:awp P ac {env:=qo 0 args,sto:=[]} K):ze P f args r:=by
 intro I vs w hI hs hR
 refine calls_of_wp hf hb ?_
 have hH:Holds {w0:=w,I0:=I,N:=fn.ntmps} {env:=qo 0 args,sto:=[]} {tmps:=vs++Array.replicate (fn.ntmps-vs.size) undef,defers:=[]} w:=by
  refine ⟨I,fun _=>none,fun _=>none,?_⟩
  refine
   {defers:=rfl
    size:=by simp; omega
    below:=Below.refl _ _
    env:=fun t x ht=>?_
    sto:=fun k en hk=>by simp[lk] at hk
    usto:=fun l sz rows hk=>by simp[lk] at hk
    bdom:=fun k b hk=>by cases hk
    binj:=fun k k' b hk=>by cases hk
    bnew:=fun k b hk=>by cases hk
    Isub:=hI
    I0sub:=fun _ _ h=>h
    Inew:=fun _ _ h=>.inl h
    spare:=fun l a len cap sz hl=>by cases hl
    ldis:=fun l l' b o o' len len' cap cap' sz sz' _ h1=>by cases h1}
  obtain ⟨d,t⟩:=t
  cases d with
  | succ d=>simp[St.look] at ht
  | zero=>?_
  obtain ⟨j,rfl,hj⟩:=L3 _ _ _ _ ht
  have hlt:j<vs.size:=by
   have:=(List.getElem?_eq_some_iff.1 hj).1
   omega
  refine ⟨vs.getD j undef,?_,.base (hR j x hj)⟩
  simp only[yd.val]
  rw[Nat.zero_add,Array.getElem?_append_left hlt]
  simp[hlt]
 refine Rb (F:={w0:=w,I0:=I,N:=fn.ntmps}) code ac htr hH h fun e s a' w' _ hK hH'=>?_
 obtain ⟨he,r0,hr,himp⟩:=hK0 _ _ hK
 obtain ⟨I',β,lam,hI'⟩:=hH'
 obtain ⟨xs,hxs,rfl⟩:=acg hr
 have hJ:∀ b o,Seen I' β lam b o→(I b o∨w.heap.size≤b)∧b<w'.heap.size:=by
  intro b o hb
  rcases hb with hb | ⟨k,hb⟩ | ⟨l,p,cap,sz,hl,h0⟩
  ·exact ⟨hI'.Inew b o hb,hI'.Isub b o hb⟩
  ·exact ⟨.inr (hI'.bnew k b hb).1,(hI'.bnew k b hb).2.1⟩
  ·obtain ⟨g1,g2,_⟩:=hI'.ublock hl h0
   exact ⟨.inr g1,g2⟩
 obtain ⟨v,hrun,hRv⟩:=Tc (fn:=fn) (rd:=Q9 s) (Rel:=R0 (fun b o=>(I b o∨w.heap.size≤b)∧b<w'.heap.size) w') (fun rv ra x h1 h2=>by
   obtain ⟨v,g1,g2⟩:=afc hI' h1 h2
   exact ⟨v,g1,g2.mono hJ (fun _ _ _ _ h=>h)⟩) (fun xs vs _ h2 h3=>.tuple xs vs h2 h3) hres hxs
 have hpost:a'.defers=[]∧∃ v,(results fn a'.tmps).run P w'=.ok v w'∧∃ u,Ending.returned v=.returned u∧Below w.heap.size w w'∧R0 (fun b o=>(I b o∨w.heap.size≤b)∧b<w'.heap.size) w' r u :=
  ⟨hI'.defers,v,hrun,v,rfl,hI'.below,himp _ _ _ hRv⟩
 rcases he with rfl | rfl
 ·exact hpost
 ·exact hpost
end
def zj (P:Program) (f:FuncId):Option (zd × List zq × Nat) :=
 match P.funcs[f]? with
 | some fn=>match fn.body with
  | some c=>match yt P fn.ntmps c,yQ (pg P) fn.results.toList with
   | some a,some r=>some (a,r,fn.ntmps)
   | _,_=>none
  | none=>none
 | none=>none
theorem Ay {P:Program} {f:FuncId} {ac:zd} {ras:List zq} {N:Nat} {args:List AV} {r:AV} {K:Exit→St→Prop} (hK0:∀ e s,K e s→(e=.normal∨e=.ret)∧∃ r0,mf ras s=some r0∧AV.imp r0 r) (ht:zj P f=some (bare ac,ras,N)) (hn:args.length≤N)
  (h:awp P ac {env:=qo 0 args,sto:=[]} K):ze P f args r:=by
 unfold zj at ht
 split at ht
 ·rename_i fn hf
  split at ht
  ·rename_i c hb
   split at ht
   ·rename_i a r' ha hr
    simp only[Option.some.injEq,Prod.mk.injEq] at ht
    obtain ⟨rfl,rfl,rfl⟩:=ht
    exact acS hK0 hf hb ha hr hn h
   ·cases ht
  ·cases ht
 ·cases ht
theorem sound {P:Program} {f:FuncId} {ac:zd} {ras:List zq} {N:Nat} {args:List AV} {r:AV} (ht:zj P f=some (bare ac,ras,N)) (hn:args.length≤N)
  (h:awp P ac {env:=qo 0 args,sto:=[]} fun e s=>(e=.normal∨e=.ret)∧mf ras s=some r):ze P f args r :=
 Ay (fun _ _ h=>⟨h.1,r,h.2,AV.imp.refl⟩) ht hn h
theorem ahy {P:Program} {f:FuncId} {ac:zd} {ras:List zq} {N:Nat} {args:List AV} {s:St} {K:AV→St→Prop} (B:Nat) (ht:zj P f=some (bare ac,ras,N)) (hn:args.length≤N)
  (h:awp P ac {env:=qo 0 args,sto:=s.sto,out:=s.env::s.out,base:=B} fun e s'=>(e=.normal∨e=.ret)∧∃ xs e0 o0,yQ (jC s') ras=some xs∧s'.out=e0::o0∧K (tup xs) {env:=e0,sto:=s'.sto,out:=o0,base:=s.base}):yH P f args s K:=by
 unfold zj at ht
 split at ht
 ·rename_i fn hf
  split at ht
  ·rename_i c hb
   split at ht
   ·rename_i a r' ha hr
    simp only[Option.some.injEq,Prod.mk.injEq] at ht
    obtain ⟨rfl,rfl,rfl⟩:=ht
    exact aaq B hf hb ha hr hn h
   ·cases ht
  ·cases ht
 ·cases ht
abbrev iv (n:Int):AV:=.val (.int .i64 n)
abbrev bv (b:Bool):AV:=.val (.bool b)
def Et (D DK:List Nat) (K:Exit→St→Prop):St→Prop:=fun s=>X5 (s.drop D) DK fun s=>K .normal s
def ahm (P:Program) (ops:List zi) (D DK:List Nat) (K:Exit→St→Prop):St→Prop:=fun s=>zl P ops s (Et D DK K)
def pS (P:Program) (b:zd) (K:Exit→St→Prop):Exit→St→Prop:=KR (awp P b) K
def vi (id:Nat) (K:Exit→St→Prop):Exit→St→Prop:=SF id K
def bm (P:Program) (os:List zi) (K:St→Prop):St→Prop:=fun s=>zl P os s K
def xK (P:Program) (os:List zi) (s:St) (d:Option Nat) (K:St→Prop):AV→Option zf→Prop:=fun x e=>zl P os ((s.put d x).new d e) K
def n7 (x:AV) (A B:Prop):Prop :=
 match x with
 | .val (.bool c)=>(c=true→A)∧(c=false→B)
 | _=>False
def pE (x:AV) (b:Bool) (A B:Prop):Prop :=
 match x with
 | .val (.bool c)=>(c=b→A)∧(c=!b→B)
 | .val _=>B
 | _=>False
theorem akh {s:St} {n:Nat}:ev s (.t n)=(lk s.env n).getD .undef:=congrArg (fun x=>x) rfl
theorem akg {s:St} {x:AV}:ev s (.c x)=x:=congrArg (fun x=>x) rfl
theorem agY {s:St} {n:Nat}:s.get n=(lk s.env n).getD .undef:=congrArg (fun x=>x) rfl
@[congr] theorem ahT {x x':AV} {A B:Prop} (h:Unit→x=x'):n7 x A B=n7 x' A B:=by rw[h ()]
@[congr] theorem agZ {x x':AV} {b:Bool} {A B:Prop} (h:Unit→x=x'):pE x b A B=pE x' b A B:=by rw[h ()]
section
variable {P:Program} {s:St} {K:Exit→St→Prop} {KS:St→Prop} {os:List zi}
theorem Ek {A B:Prop}:n7 (bv true) A B=A:=by simp[n7]
theorem JJ {A B:Prop}:n7 (bv false) A B=B:=by simp[n7]
theorem Ej {c:Bool} {A B:Prop}:n7 (bv c) A B=((c=true→A)∧(c=false→B)):=propext Iff.rfl
theorem Ez {b:Bool} {A B:Prop}:pE (bv b) b A B=A:=by cases b<;>simp[pE]
theorem LQ {A B:Prop}:pE (bv true) false A B=B:=by simp[pE]
theorem LR {A B:Prop}:pE (bv false) true A B=B:=by simp[pE]
theorem JX {b:Bool} {A B:Prop}:pE (.val undef) b A B=B:=propext Iff.rfl
theorem aaj:awp P .skip s K=K .normal s:=propext Iff.rfl
theorem Ea {d:Bool} {FK:List Nat} {D DK:List Nat} {ops:List zi}:awp P (.region d FK ops D DK) s K=qL FK s (ahm P ops D DK K):=propext Iff.rfl
theorem adK {a b:zd}:awp P (.seq a b) s K=awp P a s (pS P b K):=propext Iff.rfl
theorem aag {c:Opd} {a b:zd}:awp P (.cond c a b) s K=n7 (ev s c) (awp P a s K) (awp P b s K):=propext Iff.rfl
theorem DQ {id:Nat} {a:zd}:awp P (.block id a) s K=awp P a s (vi id K):=propext Iff.rfl
theorem aai {l:Nat}:awp P (.goto l) s K=K (.goto l) s:=propext Iff.rfl
theorem aah {id:Nat}:awp P (.exit id) s K=K (.exit id) s:=propext Iff.rfl
theorem adJ:awp P .ret s K=K .ret s:=propext Iff.rfl
theorem afb {D DK:List Nat} {ops:List zi}:ahm P ops D DK K s=zl P ops s (Et D DK K):=propext Iff.rfl
theorem G5 {D DK:List Nat}:Et D DK K s=(gp (lk s.sto) (DK.map (s.base+·)) ⟨del D s.env,del (DK.map (s.base+·)) s.sto,s.out,s.base⟩=true∧K .normal ⟨del D s.env,del (DK.map (s.base+·)) s.sto,s.out,s.base⟩):=propext Iff.rfl
theorem GZ {α:Type} (l:List (Nat × α)):del [] l=l:=by
 induction l with
 | nil=>rfl
 | cons p l ih=>simp[del,ih]
theorem aaW {D:List Nat}:Et D [] K s=K .normal ⟨del D s.env,s.sto,s.out,s.base⟩:=by
 rw[G5]
 simp[gp,GZ]
theorem Gf {b:zd}:pS P b K .normal s=awp P b s K:=propext Iff.rfl
theorem B6 {b:zd} {i:Nat}:pS P b K (.exit i) s=K (.exit i) s:=propext Iff.rfl
theorem acw {b:zd}:pS P b K .ret s=K .ret s:=propext Iff.rfl
theorem NW {i:Nat}:vi i K .normal s=K .normal s:=propext Iff.rfl
theorem JE {i j:Nat}:vi i K (.exit j) s=if j=i then K .normal s else K (.exit j) s:=propext Iff.rfl
theorem Ec {i:Nat}:vi i K .ret s=K .ret s:=propext Iff.rfl
theorem B7 {b:zd} {i:Nat}:pS P b K (.goto i) s=K (.goto i) s:=propext Iff.rfl
theorem JF {i j:Nat}:vi i K (.goto j) s=K (.goto j) s:=propext Iff.rfl
theorem JS:qL [] s KS=KS s:=propext Iff.rfl
theorem ae2:zl P [] s KS=KS s:=propext Iff.rfl
theorem BA {d:Option Nat} {op:AOp} {xs:List Opd} {g:Nat} {b:Bool}:zl P (⟨d,op,xs,some (g,b)⟩::os) s KS =
  pE (s.get g) b (zl P (⟨d,op,xs,none⟩::os) s KS) (zl P os (s.put d (.val undef)) KS):=propext Iff.rfl
variable {d:Nat}
theorem ae1 {x:Opd}:zl P (⟨some d,.mov,[x],none⟩::os) s KS=zl P os ⟨pt s.env d (ev s x),s.sto,s.out,s.base⟩ KS:=propext Iff.rfl
theorem abR {c a b:Opd}:zl P (⟨some d,.pick,[c,a,b],none⟩::os) s KS=n7 (ev s c) (zl P os ⟨pt s.env d (ev s a),s.sto,s.out,s.base⟩ KS) (zl P os ⟨pt s.env d (ev s b),s.sto,s.out,s.base⟩ KS):=by
 show (match [ev s c,ev s a,ev s b] with | [.val (.bool t),a,b]=>(t=true→xK P os s (some d) KS a none)∧(t=false→xK P os s (some d) KS b none) | _=>False)=_
 unfold n7
 cases ev s c<;>try rfl
 rename_i v
 cases v<;>rfl
theorem Bu {cells:List AV}:zl P (⟨some d,.alloc cells,[],none⟩::os) s KS=(lk s.sto (s.base+d)=none∧zl P os ⟨pt s.env d (.ptr (s.base+d) 0),pt s.sto (s.base+d) (.var cells),s.out,s.base⟩ KS):=propext Iff.rfl
def mI (x:Option AV) (P:Program) (os:List zi) (s:St) (d:Nat) (KS:St→Prop):Prop :=
 match x with
 | some v=>zl P os ⟨pt s.env d v,s.sto,s.out,s.base⟩ KS
 | none=>False
theorem BF {v:AV}:mI (some v) P os s d KS=zl P os ⟨pt s.env d v,s.sto,s.out,s.base⟩ KS:=propext Iff.rfl
theorem aeX {d:Option Nat} {o:BinOp} {t:TypeId} {ox oy:Operand} {x y:Opd}:zl P (⟨d,.bin o t ox oy,[x,y],none⟩::os) s KS=ye P o t ox oy [ev s x,ev s y] (xK P os s d KS):=propext Iff.rfl
theorem abN {d:Option Nat} {n:Option Nat} {x:Opd}:zl P (⟨d,.load n,[x],none⟩::os) s KS=jS (lk s.sto) n [ev s x] (xK P os s d KS):=propext Iff.rfl
theorem EM {d:Option Nat} {n m:Nat} {x y:Opd}:zl P (⟨d,.iaddrA n m,[x,y],none⟩::os) s KS=ln n m [ev s x,ev s y] (xK P os s d KS):=propext Iff.rfl
theorem EN {d:Option Nat} {n:Nat} {x y:Opd}:zl P (⟨d,.iaddrS n,[x,y],none⟩::os) s KS=vA n [ev s x,ev s y] (xK P os s d KS):=propext Iff.rfl
theorem BC {d:Option Nat} {n:Nat} {a b c:Bool} {xs:List Opd}:zl P (⟨d,.slice n a b c,xs,none⟩::os) s KS=nQ n a b c (xs.map (ev s)) (xK P os s d KS):=propext Iff.rfl
theorem ahe {d:Option Nat} {n m:Nat} {z:List AV} {x y:Opd}:zl P (⟨d,.mk n m z,[x,y],none⟩::os) s KS=eMk n m z (s.base+d.getD 0) (lk s.sto) [ev s x,ev s y] (xK P os s d KS):=propext Iff.rfl
theorem aeZ {d:Option Nat} {b:Bool} {x:Opd}:zl P (⟨d,.len b,[x],none⟩::os) s KS=jo b [ev s x] (xK P os s d KS):=propext Iff.rfl
theorem abK {d:Option Nat} {f:FuncId} {xs:List Opd}:zl P (⟨d,.call f,xs,none⟩::os) s KS=wq P f (lk s.sto) (xs.map (ev s)) (xK P os s d KS):=propext Iff.rfl
theorem ae0 {d:Nat} {f:FuncId} {xs:List Opd}:zl P (⟨some d,.mkb f,xs,none⟩::os) s KS=zl P os ⟨pt s.env d (.fn (.via 0 #[] f false) ((xs.map (ev s)).map strip)),s.sto,s.out,s.base⟩ KS:=propext Iff.rfl
theorem abO {d:Nat} {f:FuncId} {xs:List Opd}:zl P (⟨some d,.mkfn f,xs,none⟩::os) s KS=zl P os ⟨pt s.env d (.fn (.func f) ((xs.map (ev s)).map strip)),s.sto,s.out,s.base⟩ KS:=propext Iff.rfl
theorem abP {d:Nat} {t:TypeId} {x:Opd}:zl P (⟨some d,.mkif t,[x],none⟩::os) s KS=(rf (ev s x)=true∧zl P os ⟨pt s.env d (.iface t (strip (ev s x))),s.sto,s.out,s.base⟩ KS):=propext Iff.rfl
def unA (P:Program) (op:UnOp):AV→Option AV
 | .val v=>(zr P (Op.unary op v)).map ofV
 | _=>none
def jQ (P:Program) (a b:TypeId):AV→Option AV
 | .val v=>(zr P (convert a b v)).map ofV
 | .list _ _ rows=>match qB rows with
  | some ns=>if Zj P a b=true then some (.val (.string (strOfNums ns))) else none
  | none=>none
 | _=>none
def eL (off:Nat) (n:Option Nat):AV→Option AV
 | .agg cells=>uS cells off n
 | .raw cells=>zH cells off n
 | _=>none
def LB (off:Nat):AV→Option AV
 | .ptr j o=>some (.ptr j (o+off))
 | .eptr j sz i o=>some (.eptr j sz i (o+off))
 | .up j sz i o=>some (.up j sz i (o+off))
 | .ro cells=>some (.ro (cells.drop off))
 | _=>none
def Ri (i:Nat):AV→Option AV
 | .tuple vs=>vs[i]?
 | _=>none
def aby:AV→Option AV
 | .ptr j off=>some (.ptr j off)
 | .eptr j sz i off=>some (.eptr j sz i off)
 | .up j sz i off=>some (.up j sz i off)
 | .ro cells=>some (.ro cells)
 | .fn f caps=>some (.fn f caps)
 | _=>none
theorem ahg {o:UnOp} {x:Opd}:zl P (⟨some d,.un o,[x],none⟩::os) s KS=mI (unA P o (ev s x)) P os s d KS:=by
 show zK P (s.base+d) (.un o) [ev s x] (lk s.sto) (xK P os s (some d) KS)=_
 simp only[zK]
 cases ev s x<;>try rfl
 rename_i v
 simp only[unA]
 cases zr P (Op.unary o v)<;>rfl
theorem abL {a b:TypeId} {x:Opd}:zl P (⟨some d,.conv a b,[x],none⟩::os) s KS=mI (jQ P a b (ev s x)) P os s d KS:=by
 show zK P (s.base+d) (.conv a b) [ev s x] (lk s.sto) (xK P os s (some d) KS)=_
 simp only[zK]
 cases ev s x<;>try rfl
 ·rename_i v
  simp only[jQ]
  cases zr P (convert a b v)<;>rfl
 ·rename_i sz m rows
  simp only[jQ]
  cases qB rows with
  | none=>rfl
  | some ns =>
   by_cases h:Zj P a b=true
   ·simp only[h,if_true,true_and]; rfl
   ·simp only[h,Bool.false_eq_true,if_false,false_and]; rfl
theorem Bz {off:Nat} {n:Option Nat} {x:Opd}:zl P (⟨some d,.field off n,[x],none⟩::os) s KS=mI (eL off n (ev s x)) P os s d KS:=by
 show zK P (s.base+d) (.field off n) [ev s x] (lk s.sto) (xK P os s (some d) KS)=_
 simp only[zK]
 cases ev s x<;>try rfl
 ·rename_i v
  simp only[eL]
  cases uS v off n<;>rfl
 ·rename_i v
  simp only[eL]
  cases zH v off n<;>rfl
theorem By {off:Nat} {x:Opd}:zl P (⟨some d,.faddr off,[x],none⟩::os) s KS=mI (LB off (ev s x)) P os s d KS:=by
 show zK P (s.base+d) (.faddr off) [ev s x] (lk s.sto) (xK P os s (some d) KS)=_
 simp only[zK]
 cases ev s x<;>rfl
theorem J3 {i:Nat} {x:Opd}:zl P (⟨some d,.extract i,[x],none⟩::os) s KS=mI (Ri i (ev s x)) P os s d KS:=by
 show zK P (s.base+d) (.extract i) [ev s x] (lk s.sto) (xK P os s (some d) KS)=_
 simp only[zK]
 cases ev s x<;>try rfl
 rename_i v
 simp only[Ri]
 cases v[i]?<;>rfl
theorem EQ {x:Opd}:zl P (⟨some d,.nilChk,[x],none⟩::os) s KS=mI (aby (ev s x)) P os s d KS:=by
 show zK P (s.base+d) .nilChk [ev s x] (lk s.sto) (xK P os s (some d) KS)=_
 simp only[zK]
 cases ev s x<;>rfl
theorem Bv {z:List AV} {ps:List (Nat × Nat)} {xs:List Opd}:zl P (⟨some d,.build z ps,xs,none⟩::os) s KS=mI (orR (rm z ps (xs.map (ev s))) (ql z ps (xs.map (ev s)))) P os s d KS:=by
 show zK P (s.base+d) (.build z ps) (xs.map (ev s)) (lk s.sto) (xK P os s (some d) KS)=_
 simp only[zK]
 cases orR (rm z ps (xs.map (ev s))) (ql z ps (xs.map (ev s)))<;>rfl
def orL (sz:Nat):Option (List (List AV))→Option (List (List AV))→Option AV
 | some rows,_=>some (.list sz .full rows)
 | none,some rows=>some (.lit sz rows)
 | none,none=>none
@[congr] theorem ajV {a a' b:Option (List AV)} (h:a=a'):orR a b=orR a' b:=by rw[h]
@[congr] theorem ajU {sz:Nat} {a a' b:Option (List (List AV))} (h:a=a'):orL sz a b=orL sz a' b:=by rw[h]
theorem abZ {cs:List AV} {b:Option (List AV)}:orR (some cs) b=some (.agg cs):=by cases b<;>exact congrArg (fun x=>x) rfl
theorem abY {b:Option (List AV)}:orR none b=b.map .raw:=by cases b<;>exact congrArg (fun x=>x) rfl
theorem abX {sz:Nat} {rows:List (List AV)} {b:Option (List (List AV))}:orL sz (some rows) b=some (.list sz .full rows):=by cases b<;>exact congrArg (fun x=>x) rfl
theorem abW {sz:Nat} {b:Option (List (List AV))}:orL sz none b=b.map (.lit sz):=by cases b<;>exact congrArg (fun x=>x) rfl
theorem Kw {sz n:Nat} {z:List AV} {ps:List Nat} {xs:List Opd} (h1:z.length=sz) (h2:0<sz) :
  zl P (⟨some d,.mksliceL sz n z ps,xs,none⟩::os) s KS=mI ((vt sz (List.replicate n z) ps (xs.map (ev s))).map (.lit sz)) P os s d KS:=by
 show zK P (s.base+d) (.mksliceL sz n z ps) (xs.map (ev s)) (lk s.sto) (xK P os s (some d) KS)=_
 simp only[zK]
 cases vt sz (List.replicate n z) ps (xs.map (ev s)) with
 | none=>rfl
 | some rows=>simp only[h1,h2,true_and]; rfl
theorem BB:zl P (⟨some d,.mkmap,[],none⟩::os) s KS=(lk s.sto (s.base+d)=none∧zl P os ⟨pt s.env d (.mp (s.base+d)),pt s.sto (s.base+d) (.map #[] 0),s.out,s.base⟩ KS):=propext Iff.rfl
theorem EO {d:Option Nat} {t:TypeId} {ok:Bool} {x y:Opd}:zl P (⟨d,.lookup t ok,[x,y],none⟩::os) s KS=ss P t ok (lk s.sto) [ev s x,ev s y] (xK P os s d KS):=propext Iff.rfl
theorem EP {d:Option Nat} {t:TypeId} {x y z:Opd}:zl P (⟨d,.mapset t,[x,y,z],none⟩::os) s KS=rP P t s d (bm P os KS) [ev s x,ev s y,ev s z]:=propext Iff.rfl
theorem J4 {sz n:Nat} {z:List AV} {ps:List Nat} {xs:List Opd} (h1:z.length=sz) (h2:0<sz) :
  zl P (⟨some d,.mkslice sz n z ps,xs,none⟩::os) s KS=mI (orL sz (wt sz (List.replicate n z) ps (xs.map (ev s))) (vt sz (List.replicate n z) ps (xs.map (ev s)))) P os s d KS:=by
 show zK P (s.base+d) (.mkslice sz n z ps) (xs.map (ev s)) (lk s.sto) (xK P os s (some d) KS)=_
 simp only[zK]
 cases wt sz (List.replicate n z) ps (xs.map (ev s)) with
 | none =>
  cases vt sz (List.replicate n z) ps (xs.map (ev s)) with
  | none=>rfl
  | some rows=>simp only[h1,h2,true_and]; rfl
 | some rows=>simp only[h1,h2,true_and]; rfl
def Pa (ras:List zq) (r:AV):Exit→St→Prop:=fun e s=>(e=.normal∨e=.ret)∧mf ras s=some r
theorem ach {ras:List zq} {r:AV}:Pa ras r .ret s=(mf ras s=some r):=by simp[Pa]
theorem J9 {ras:List zq} {r:AV}:Pa ras r .normal s=(mf ras s=some r):=by simp[Pa]
theorem zn {f:FuncId} {ac:zd} {ras:List zq} {N:Nat} {args:List AV} {r:AV} (ht:zj P f=some (bare ac,ras,N)) (hn:args.length≤N)
  (h:awp P ac ⟨qo 0 args,[],[],0⟩ (Pa ras r)):ze P f args r:=sound ht hn h
def ZB (ras:List zq) (r:AV):Exit→St→Prop:=fun e s=>(e=.normal∨e=.ret)∧∃ r0,mf ras s=some r0∧AV.imp r0 r
theorem aci {ras:List zq} {r:AV}:ZB ras r .ret s=∃ r0,mf ras s=some r0∧AV.imp r0 r:=by simp[ZB]
theorem Ga {ras:List zq} {r:AV}:ZB ras r .normal s=∃ r0,mf ras s=some r0∧AV.imp r0 r:=by simp[ZB]
theorem wW {f:FuncId} {ac:zd} {ras:List zq} {N:Nat} {args:List AV} {r:AV} (ht:zj P f=some (bare ac,ras,N)) (hn:args.length≤N)
  (h:awp P ac ⟨qo 0 args,[],[],0⟩ (ZB ras r)):ze P f args r:=Ay (fun _ _ h=>h) ht hn h
def agn (x:Option (List AV)) (P:Program) (os:List zi) (s:St) (d:Nat) (KS:St→Prop):Prop :=
 match x with
 | some cs=>lk s.sto (s.base+d)=none∧zl P os ⟨pt s.env d (.ptr (s.base+d) 0),pt s.sto (s.base+d) (.var cs),s.out,s.base⟩ KS
 | none=>False
theorem DW {cs:List AV}:agn (some cs) P os s d KS=(lk s.sto (s.base+d)=none∧zl P os ⟨pt s.env d (.ptr (s.base+d) 0),pt s.sto (s.base+d) (.var cs),s.out,s.base⟩ KS):=propext Iff.rfl
theorem aeY {x:Opd}:zl P (⟨some d,.box,[x],none⟩::os) s KS=agn (cellsOf (ev s x)) P os s d KS:=propext Iff.rfl
theorem abT {x:Option AV}:xJ x (xK P os s (some d) KS)=mI x P os s d KS:=by cases x<;>rfl
theorem Kx {x:Option Value}:y5 x (xK P os s (some d) KS)=mI (x.map ofV) P os s d KS:=by cases x<;>rfl
theorem BP {v:AV}:xK P os s (some d) KS v none=zl P os ⟨pt s.env d v,s.sto,s.out,s.base⟩ KS:=propext Iff.rfl
theorem EU {v:AV}:xK P os s none KS v none=zl P os s KS:=propext Iff.rfl
theorem BQ {v:AV} {e:zf}:xK P os s (some d) KS v (some e)=zl P os ⟨pt s.env d v,pt s.sto (s.base+d) e,s.out,s.base⟩ KS:=propext Iff.rfl
theorem BE {n:Nat} {a b:Opd}:zl P (⟨none,.store n,[a,b],none⟩::os) s KS=kj n s none [ev s a,ev s b] (bm P os KS):=propext Iff.rfl
theorem J2 {sz by_:Nat} {a b:Opd} {d:Option Nat}:zl P (⟨d,.appendU sz by_,[a,b],none⟩::os) s KS=uY sz by_ s d (bm P os KS) [ev s a,ev s b]:=propext Iff.rfl
theorem Bw {f:FuncId} {xs:List Opd} {d:Option Nat}:zl P (⟨d,.callI f,xs,none⟩::os) s KS=(yy P f=true∧qG P f (xs.map (ev s)) s d (bm P os KS)):=propext Iff.rfl
theorem abQ {neg:Bool} {x:Opd} {d:Option Nat}:zl P (⟨d,.nilS neg,[x],none⟩::os) s KS=d7 neg s d (bm P os KS) [ev s x]:=propext Iff.rfl
theorem Es {neg:Bool} {d:Option Nat} {sz:Nat} {m:Mode} {rows:List (List AV)} {K:St→Prop}:d7 neg s d K [.list sz m rows]=((rows=[]→K (s.put d (bv true))∧K (s.put d (bv false)))∧(rows≠[]→K (s.put d (bv neg)))):=by
 simp only[d7,Kj,List.length_eq_zero_iff,ne_eq]
theorem aeW:bm P os KS s=zl P os s KS:=propext Iff.rfl
theorem Zs {sz by_:Nat} {a b:Opd} {d:Option Nat}:zl P (⟨d,.append sz by_,[a,b],none⟩::os) s KS=yY sz by_ s d (bm P os KS) [ev s a,ev s b]:=propext Iff.rfl
end
section
variable {P:Program} {t:TypeId} {ox oy:Operand} {k:IntKind} {a b:Int} {K:AV→Option zf→Prop}
theorem aaK:ye P .add t ox oy [.val (.int k a),.val (.int k b)] K=K (.val (.int k (k.wrap (a+b)))) none:=by
 simp[ye,toV,zr,eqGuard,binOp,Op.intArith,y5,ofV,xm,bind,Sem.bind,pure]
theorem aaT:ye P .sub t ox oy [.val (.int k a),.val (.int k b)] K=K (.val (.int k (k.wrap (a-b)))) none:=by
 simp[ye,toV,zr,eqGuard,binOp,Op.intArith,y5,ofV,xm,bind,Sem.bind,pure]
theorem aaR:ye P .mul t ox oy [.val (.int k a),.val (.int k b)] K=K (.val (.int k (k.wrap (a*b)))) none:=by
 simp[ye,toV,zr,eqGuard,binOp,Op.intArith,y5,ofV,xm,bind,Sem.bind,pure]
theorem aaQ:ye P .lss t ox oy [.val (.int k a),.val (.int k b)] K=K (bv (decide (a<b))) none:=by
 simp[ye,toV,zr,eqGuard,binOp,Op.intCmp,y5,ofV,xm,bind,Sem.bind,pure]
theorem aaP:ye P .leq t ox oy [.val (.int k a),.val (.int k b)] K=K (bv (decide (a≤b))) none:=by
 simp[ye,toV,zr,eqGuard,binOp,Op.intCmp,y5,ofV,xm,bind,Sem.bind,pure]
theorem aaO:ye P .gtr t ox oy [.val (.int k a),.val (.int k b)] K=K (bv (decide (b<a))) none:=by
 simp[ye,toV,zr,eqGuard,binOp,Op.intCmp,y5,ofV,xm,bind,Sem.bind,pure]
theorem aaN:ye P .geq t ox oy [.val (.int k a),.val (.int k b)] K=K (bv (decide (b≤a))) none:=by
 simp[ye,toV,zr,eqGuard,binOp,Op.intCmp,y5,ofV,xm,bind,Sem.bind,pure]
theorem aaM:ye P .eql t ox oy [.val (.int k a),.val (.int k b)] K=K (bv (decide (a=b))) none:=by
 simp[ye,toV,zr,eqGuard,binOp,Op.intCmp,y5,ofV,xm,bind,Sem.bind,pure]
 rfl
theorem aaS:ye P .neq t ox oy [.val (.int k a),.val (.int k b)] K=K (bv (decide (a≠b))) none:=by
 simp[ye,toV,zr,eqGuard,binOp,Op.intCmp,y5,ofV,xm,bind,Sem.bind,pure]
 rfl
theorem ahN {c:Bool}:zr P (Op.unary .not (.bool c))=some (.bool !c):=by
 simp[zr,Op.unary,pure]
theorem wrap64 {n:Int} (h1:-9223372036854775808≤n) (h2:n≤9223372036854775807):IntKind.i64.wrap n=n:=IntWalk.i64_in n ⟨h1,h2⟩
end
theorem Do {cells:List AV} {off:Nat} {x:AV} (h:off<cells.length):splice cells off [x]=cells.set off x:=by
 unfold splice
 rw[List.set_eq_take_append_cons_drop,if_pos h]
 simp
theorem Dn {cells cs:List AV} (h:cs.length=cells.length):splice cells 0 cs=cs:=by
 unfold splice
 simp[h]
theorem DN (k:Nat) (l:List Int):wy k (l.map iv)=false:=by
 induction l with
 | nil=>rfl
 | cons x l ih=>simp[ih,wy,zP]
theorem Jg:strip∘iv=iv:=rfl
theorem Nb {l:List Int} {n:Nat} (h:l.length=n):zH (l.map iv) 0 (some n)=some (.agg (l.map iv)):=by
 have h1:(l.map iv).all rf=true:=by simp[rf]
 have h2:(l.map iv).map strip=l.map iv:=by simp[Jg]
 simp only[zH,List.drop_zero]
 rw[List.take_of_length_le (by simp; omega),if_pos ⟨by simp; omega,h1⟩,h2]
theorem JW (cells:List AV) (off:Nat):zH cells off none=cells[off]?:=by simp[zH]
section
variable {σ:Nat→Option zf}
theorem Dk:vv σ .undef=some .undef:=rfl
theorem acR {v:Value}:vv σ (.val v)=some (.val v):=rfl
theorem acP {c:List AV}:vv σ (.agg c)=some (.agg c):=rfl
theorem Dj {c:List AV}:vv σ (.tuple c)=if c.all rf=true then some (.tuple (c.map strip)) else none:=rfl
theorem Ax {sz:Nat} {m:Mode} {r:List (List AV)}:vv σ (.list sz m r)=some (strip (.list sz m r)):=rfl
theorem afr {c:List AV}:vv σ (.ro c)=some (.ro c):=rfl
theorem acQ {k off:Nat}:vv σ (.ptr k off)=(match σ k with
  | some (.var cells)=>if (cells.drop off).all rf=true then some (.ro ((cells.drop off).map strip)) else (yQ (wg σ) (cells.drop off)).map .ro
  | _=>none):=rfl
theorem aoe {v:Value}:wg σ (.val v)=some (.val v):=rfl
theorem As {c:List AV}:wg σ (.agg c)=some (.agg c):=rfl
theorem Dg {sz:Nat} {m:Mode} {r:List (List AV)}:wg σ (.list sz m r)=some (strip (.list sz m r)):=rfl
theorem acL {c:List AV}:wg σ (.ro c)=some (.ro c):=rfl
theorem acN {k sz off n:Nat}:wg σ (.us k sz off n)=(match σ k with
  | some (.uarr sz' rows)=>if sz'=sz∧off+n≤rows.length∧wh ((rows.drop off).take n)=true then some (.list sz .plain (zT ((rows.drop off).take n))) else none
  | _=>none):=rfl
theorem acM {k sz off n:Nat}:wg σ (.sl k sz off n)=(match σ k with
  | some (.arr sz' rows)=>if sz'=sz∧off+n≤rows.length then some (.list sz .plain ((rows.drop off).take n)) else none
  | _=>none):=rfl
theorem Aw {k sz i off:Nat}:vv σ (.eptr k sz i off)=(match σ k with
  | some (.arr sz' rows)=>if sz'=sz then (rows[i]?).map fun r=>.ro (r.drop off) else none
  | _=>none):=rfl
theorem afs {k sz off n:Nat}:vv σ (.sl k sz off n)=(match σ k with
  | some (.arr sz' rows)=>if sz'=sz∧off+n≤rows.length then some (.list sz .plain ((rows.drop off).take n)) else none
  | _=>none):=rfl
theorem afu {k sz off n:Nat}:vv σ (.us k sz off n)=(match σ k with
  | some (.uarr sz' rows)=>if sz'=sz∧off+n≤rows.length∧wh ((rows.drop off).take n)=true then some (.list sz .plain (zT ((rows.drop off).take n))) else none
  | _=>none):=rfl
theorem aft {k sz i off:Nat}:vv σ (.up k sz i off)=(match σ k with
  | some (.uarr sz' rows)=>match rows[i]? with
   | some r=>if sz'=sz∧(r.drop off).all rf=true then some (.ro ((r.drop off).map strip)) else none
   | none=>none
  | _=>none):=rfl
theorem Di {t:TypeId} {x:AV}:vv σ (.iface t x)=some (.iface t x):=rfl
theorem afq {f:Fn} {caps:List AV}:vv σ (.fn f caps)=(yQ (fm σ) caps).map (.fn f):=rfl
theorem Av {v:Value}:fm σ (.val v)=some (.val v):=rfl
theorem Au {c:List AV}:fm σ (.agg c)=some (.agg c):=rfl
theorem Dh {sz:Nat} {m:Mode} {r:List (List AV)}:fm σ (.list sz m r)=some (strip (.list sz m r)):=rfl
theorem acO {c:List AV}:fm σ (.ro c)=some (.ro c):=rfl
end
theorem Gm:strip .undef=.undef:=rfl
theorem AG {v:Value}:strip (.val v)=.val v:=rfl
theorem AE {c:List AV}:strip (.agg c)=.agg c:=rfl
theorem Gl {c:List AV}:strip (.tuple c)=.tuple c:=rfl
theorem acW {c:List AV}:strip (.ro c)=.ro c:=rfl
theorem AF {k o:Nat}:strip (.ptr k o)=.ptr k o:=rfl
theorem Dv {k sz i o:Nat}:strip (.eptr k sz i o)=.eptr k sz i o:=rfl
theorem acX {k sz o n:Nat}:strip (.sl k sz o n)=.sl k sz o n:=rfl
theorem acZ {k sz o n:Nat}:strip (.us k sz o n)=.us k sz o n:=rfl
theorem acY {k sz i o:Nat}:strip (.up k sz i o)=.up k sz i o:=rfl
theorem Gk {t:TypeId} {x:AV}:strip (.iface t x)=.iface t x:=rfl
theorem acV {f:Fn} {c:List AV}:strip (.fn f c)=.fn f c:=rfl
attribute [simp ↓ low] Ej
attribute [simp ↓] Ek JJ Ez LQ LR JX
theorem KL {k:Nat}:zP k .undef=false:=rfl
theorem E2 {k:Nat} {v:Value}:zP k (.val v)=false:=rfl
theorem EY {k:Nat} {c:List AV}:zP k (.agg c)=false:=rfl
theorem J7 {k sz:Nat} {m:Mode} {r:List (List AV)}:zP k (.list sz m r)=false:=rfl
theorem BU {k:Nat} {c:List AV}:zP k (.ro c)=false:=rfl
theorem KI {k:Nat} {t:TypeId} {x:AV}:zP k (.iface t x)=false:=rfl
theorem E0 {k j o:Nat}:zP k (.ptr j o)=(j == k):=rfl
theorem J6 {k j a b c:Nat}:zP k (.eptr j a b c)=(j == k):=rfl
theorem BV {k j a b c:Nat}:zP k (.sl j a b c)=(j == k):=rfl
theorem BX {k j a b c:Nat}:zP k (.us j a b c)=(j == k):=rfl
theorem BW {k j a b c:Nat}:zP k (.up j a b c)=(j == k):=rfl
theorem BS {k:Nat} {f:Fn} {c:List AV}:zP k (.fn f c)=c.any (tZ k):=rfl
theorem KJ {k:Nat} {c:List AV}:zP k (.tuple c)=c.any (tZ k):=rfl
theorem acl:rf .undef=true:=rfl
theorem ahs {v:Value}:rf (.val v)=true:=rfl
theorem aho {c:List AV}:rf (.agg c)=true:=rfl
theorem afe {sz:Nat} {m:Mode} {r:List (List AV)}:rf (.list sz m r)=true:=rfl
theorem ajg {c:List AV}:rf (.ro c)=true:=rfl
theorem acj {t:TypeId} {x:AV}:rf (.iface t x)=true:=rfl
theorem ahq {j o:Nat}:rf (.ptr j o)=false:=rfl
theorem afd {j a b c:Nat}:rf (.eptr j a b c)=false:=rfl
theorem ajh {j a b c:Nat}:rf (.sl j a b c)=false:=rfl
theorem ajj {j a b c:Nat}:rf (.us j a b c)=false:=rfl
theorem aji {j a b c:Nat}:rf (.up j a b c)=false:=rfl
theorem aje {f:Fn} {c:List AV}:rf (.fn f c)=false:=rfl
theorem ack {c:List AV}:rf (.tuple c)=false:=rfl
theorem ajf {k:Nat}:rf (.mp k)=false:=rfl
theorem ahp {n:Nat} {c:List (List AV)}:rf (.lit n c)=false:=rfl
theorem ahr {c:List AV}:rf (.raw c)=false:=rfl
theorem BT {j k:Nat}:zP k (.mp j)=(j == k):=rfl
theorem EZ {k n:Nat} {rows:List (List AV)}:zP k (.lit n rows)=rows.any fun r=>r.any (Sa k):=rfl
theorem E1 {k:Nat} {c:List AV}:zP k (.raw c)=c.any (Sa k):=rfl
attribute [simp] ajf ahp ahr BT EZ E1 Sa MD
attribute [simp] KL E2 EY J7 BU KI E0 J6 BV BX BW BS KJ tZ acl ahs aho afe ajg acj ahq afd ajh ajj aji aje ack
attribute [simp] aai B7 JF
attribute [simp] aaj Ea adK aag DQ aah adJ afb aaW G5 Gf B6 acw NW JE Ec JS ae2 BA ae1 abR Bu DW aeY aeX abN EM EN BC ahe aeZ abK abO ae0 abP ahg abL Bz By J3 EQ Bv J4 Kw BB EO EP abZ abY abX abW ach J9 aci Ga BF abT Kx BP EU BQ BE aeW Zs abQ Es J2 Bw aaK aaT aaR aaQ aaP aaO aaN aaM aaS DN Jg jS ln vA jo jR kj akh akg agY lk pt del Nb JW cellsOf qo mf yQ Q9 Dk acR acP Dj Ax afr acQ Aw afs afq Av Dh Au acO aoe As Dg acL acN acM Gm AG AE Gl acW AF Dv acX acV afu aft Di acZ acY Gk St.unmet gp rU zf.isU kG tV kH wy uH jE unA ahN eL LB Ri aby single Value.oneCell' List.getElem?_eq_getElem
def wA (P:Program) (os:List zi) (s:St) (d:Nat) (KS:St→Prop):AV→Option zf→Prop:=fun x e=>lk s.env d=some x∧lk s.sto (s.base+d)=e∧zl P os s KS
def mC (x:Option AV) (P:Program) (os:List zi) (s:St) (d:Nat) (KS:St→Prop):Prop :=
 match x with
 | some v=>lk s.env d=some v∧lk s.sto (s.base+d)=none∧zl P os s KS
 | none=>False
def agr (x:Option (List AV)) (P:Program) (os:List zi) (s:St) (d:Nat) (KS:St→Prop):Prop :=
 match x with
 | some cs=>lk (del [s.base+d] s.sto) (s.base+d)=none∧lk s.env d=some (.ptr (s.base+d) 0)∧lk s.sto (s.base+d)=some (.var cs)∧zl P os s KS
 | none=>False
section
variable {P:Program} {s:St} {KS:St→Prop} {os:List zi} {d:Nat}
theorem adN {x:AV} {e:Option zf}:wA P os s d KS x e=(lk s.env d=some x∧lk s.sto (s.base+d)=e∧zl P os s KS):=propext Iff.rfl
theorem D2 {x:AV}:mC (some x) P os s d KS=(lk s.env d=some x∧lk s.sto (s.base+d)=none∧zl P os s KS):=propext Iff.rfl
theorem D0 {cs:List AV}:agr (some cs) P os s d KS=(lk (del [s.base+d] s.sto) (s.base+d)=none∧lk s.env d=some (.ptr (s.base+d) 0)∧lk s.sto (s.base+d)=some (.var cs)∧zl P os s KS):=propext Iff.rfl
theorem abS {x:Option AV}:xJ x (wA P os s d KS)=mC x P os s d KS:=by cases x<;>rfl
theorem abU {x:Option Value}:y5 x (wA P os s d KS)=mC (x.map ofV) P os s d KS:=by cases x<;>rfl
theorem BD {ds:List Nat}:zl P (⟨none,.start ds,[],none⟩::os) s KS=(rQ s.sto s.base ds∧zl P os ⟨del ds s.env,s.sto,s.out,s.base⟩ KS):=propext Iff.rfl
def adA (P:Program) (os:List zi) (s:St) (d:Nat) (KS:St→Prop):Prop:=lk s.env d=some (.val undef)∧lk s.sto (s.base+d)=none∧zl P os s KS
theorem D7 {op:AOp} {g:Nat} {b:Bool} {xs:List Opd}:zl P (⟨some d,.chkG op g b,xs,none⟩::os) s KS=pE (s.get g) b (zl P (⟨some d,.chk op,xs,none⟩::os) s KS) (adA P os s d KS):=propext Iff.rfl
theorem act:adA P os s d KS=(lk s.env d=some (.val undef)∧lk s.sto (s.base+d)=none∧zl P os s KS):=propext Iff.rfl
theorem adT {x:Opd}:zl P (⟨some d,.chk .mov,[x],none⟩::os) s KS=wA P os s d KS (ev s x) none:=propext Iff.rfl
theorem aax {c a b:Opd}:zl P (⟨some d,.chk .pick,[c,a,b],none⟩::os) s KS=n7 (ev s c) (wA P os s d KS (ev s a) none) (wA P os s d KS (ev s b) none):=by
 show (match [ev s c,ev s a,ev s b] with | [.val (.bool t),a,b]=>(t=true→wA P os s d KS a none)∧(t=false→wA P os s d KS b none) | _=>False)=_
 unfold n7
 cases ev s c<;>try rfl
 rename_i v
 cases v<;>rfl
theorem D3 {cells:List AV}:zl P (⟨some d,.chk (.alloc cells),[],none⟩::os) s KS=(lk (del [s.base+d] s.sto) (s.base+d)=none∧wA P os s d KS (.ptr (s.base+d) 0) (some (.var cells))):=propext Iff.rfl
theorem adP {x:Opd}:zl P (⟨some d,.chk .box,[x],none⟩::os) s KS=agr (cellsOf (ev s x)) P os s d KS:=by
 show zK P (s.base+d) .box [ev s x] (lk (del [s.base+d] s.sto)) (wA P os s d KS)=_
 simp only[zK]
 cases cellsOf (ev s x)<;>rfl
theorem adO {o:BinOp} {t:TypeId} {ox oy:Operand} {x y:Opd}:zl P (⟨some d,.chk (.bin o t ox oy),[x,y],none⟩::os) s KS=ye P o t ox oy [ev s x,ev s y] (wA P os s d KS):=propext Iff.rfl
theorem aav {n:Option Nat} {x:Opd}:zl P (⟨some d,.chk (.load n),[x],none⟩::os) s KS=jS (lk (del [s.base+d] s.sto)) n [ev s x] (wA P os s d KS):=propext Iff.rfl
theorem Ef {n m:Nat} {x y:Opd}:zl P (⟨some d,.chk (.iaddrA n m),[x,y],none⟩::os) s KS=ln n m [ev s x,ev s y] (wA P os s d KS):=propext Iff.rfl
theorem Eg {n:Nat} {x y:Opd}:zl P (⟨some d,.chk (.iaddrS n),[x,y],none⟩::os) s KS=vA n [ev s x,ev s y] (wA P os s d KS):=propext Iff.rfl
theorem D8 {n:Nat} {a b c:Bool} {xs:List Opd}:zl P (⟨some d,.chk (.slice n a b c),xs,none⟩::os) s KS=nQ n a b c (xs.map (ev s)) (wA P os s d KS):=propext Iff.rfl
theorem adR {b:Bool} {x:Opd}:zl P (⟨some d,.chk (.len b),[x],none⟩::os) s KS=jo b [ev s x] (wA P os s d KS):=propext Iff.rfl
theorem aat {f:FuncId} {xs:List Opd}:zl P (⟨some d,.chk (.call f),xs,none⟩::os) s KS=wq P f (lk (del [s.base+d] s.sto)) (xs.map (ev s)) (wA P os s d KS):=propext Iff.rfl
theorem adS {f:FuncId} {xs:List Opd}:zl P (⟨some d,.chk (.mkb f),xs,none⟩::os) s KS=wA P os s d KS (.fn (.via 0 #[] f false) ((xs.map (ev s)).map strip)) none:=propext Iff.rfl
theorem aaw {f:FuncId} {xs:List Opd}:zl P (⟨some d,.chk (.mkfn f),xs,none⟩::os) s KS=wA P os s d KS (.fn (.func f) ((xs.map (ev s)).map strip)) none:=propext Iff.rfl
theorem ags {o:UnOp} {x:Opd}:zl P (⟨some d,.chk (.un o),[x],none⟩::os) s KS=mC (unA P o (ev s x)) P os s d KS:=by
 show zK P (s.base+d) (.un o) [ev s x] (lk (del [s.base+d] s.sto)) (wA P os s d KS)=_
 simp only[zK]
 cases ev s x<;>try rfl
 rename_i v
 simp only[unA]
 cases zr P (Op.unary o v)<;>rfl
theorem aau {a b:TypeId} {x:Opd}:zl P (⟨some d,.chk (.conv a b),[x],none⟩::os) s KS=mC (jQ P a b (ev s x)) P os s d KS:=by
 show zK P (s.base+d) (.conv a b) [ev s x] (lk (del [s.base+d] s.sto)) (wA P os s d KS)=_
 simp only[zK]
 cases ev s x<;>try rfl
 ·rename_i v
  simp only[jQ]
  cases zr P (convert a b v)<;>rfl
 ·rename_i sz m rows
  simp only[jQ]
  cases qB rows with
  | none=>rfl
  | some ns =>
   by_cases h:Zj P a b=true
   ·simp only[h,if_true,true_and]; rfl
   ·simp only[h,Bool.false_eq_true,if_false,false_and]; rfl
theorem D6 {off:Nat} {n:Option Nat} {x:Opd}:zl P (⟨some d,.chk (.field off n),[x],none⟩::os) s KS=mC (eL off n (ev s x)) P os s d KS:=by
 show zK P (s.base+d) (.field off n) [ev s x] (lk (del [s.base+d] s.sto)) (wA P os s d KS)=_
 simp only[zK]
 cases ev s x<;>try rfl
 ·rename_i v
  simp only[eL]
  cases uS v off n<;>rfl
 ·rename_i v
  simp only[eL]
  cases zH v off n<;>rfl
theorem D5 {off:Nat} {x:Opd}:zl P (⟨some d,.chk (.faddr off),[x],none⟩::os) s KS=mC (LB off (ev s x)) P os s d KS:=by
 show zK P (s.base+d) (.faddr off) [ev s x] (lk (del [s.base+d] s.sto)) (wA P os s d KS)=_
 simp only[zK]
 cases ev s x<;>rfl
theorem JG {i:Nat} {x:Opd}:zl P (⟨some d,.chk (.extract i),[x],none⟩::os) s KS=mC (Ri i (ev s x)) P os s d KS:=by
 show zK P (s.base+d) (.extract i) [ev s x] (lk (del [s.base+d] s.sto)) (wA P os s d KS)=_
 simp only[zK]
 cases ev s x<;>try rfl
 rename_i v
 simp only[Ri]
 cases v[i]?<;>rfl
theorem Ei {x:Opd}:zl P (⟨some d,.chk .nilChk,[x],none⟩::os) s KS=mC (aby (ev s x)) P os s d KS:=by
 show zK P (s.base+d) .nilChk [ev s x] (lk (del [s.base+d] s.sto)) (wA P os s d KS)=_
 simp only[zK]
 cases ev s x<;>rfl
theorem D4 {z:List AV} {ps:List (Nat × Nat)} {xs:List Opd}:zl P (⟨some d,.chk (.build z ps),xs,none⟩::os) s KS=mC (orR (rm z ps (xs.map (ev s))) (ql z ps (xs.map (ev s)))) P os s d KS:=by
 show zK P (s.base+d) (.build z ps) (xs.map (ev s)) (lk (del [s.base+d] s.sto)) (wA P os s d KS)=_
 simp only[zK]
 cases orR (rm z ps (xs.map (ev s))) (ql z ps (xs.map (ev s)))<;>rfl
theorem M8 {sz n:Nat} {z:List AV} {ps:List Nat} {xs:List Opd} (h1:z.length=sz) (h2:0<sz) :
  zl P (⟨some d,.chk (.mksliceL sz n z ps),xs,none⟩::os) s KS=mC ((vt sz (List.replicate n z) ps (xs.map (ev s))).map (.lit sz)) P os s d KS:=by
 show zK P (s.base+d) (.mksliceL sz n z ps) (xs.map (ev s)) (lk (del [s.base+d] s.sto)) (wA P os s d KS)=_
 simp only[zK]
 cases vt sz (List.replicate n z) ps (xs.map (ev s))<;>simp[mC,h1,h2,wA]
theorem Eh {t:TypeId} {ok:Bool} {x y:Opd}:zl P (⟨some d,.chk (.lookup t ok),[x,y],none⟩::os) s KS=ss P t ok (lk (del [s.base+d] s.sto)) [ev s x,ev s y] (wA P os s d KS):=propext Iff.rfl
theorem JH {sz n:Nat} {z:List AV} {ps:List Nat} {xs:List Opd} (h1:z.length=sz) (h2:0<sz) :
  zl P (⟨some d,.chk (.mkslice sz n z ps),xs,none⟩::os) s KS=mC (orL sz (wt sz (List.replicate n z) ps (xs.map (ev s))) (vt sz (List.replicate n z) ps (xs.map (ev s)))) P os s d KS:=by
 show zK P (s.base+d) (.mkslice sz n z ps) (xs.map (ev s)) (lk (del [s.base+d] s.sto)) (wA P os s d KS)=_
 simp only[zK]
 cases wt sz (List.replicate n z) ps (xs.map (ev s)) with
 | none=>cases vt sz (List.replicate n z) ps (xs.map (ev s))<;>simp[mC,h1,h2,wA,orL]
 | some rows=>simp[mC,h1,h2,wA,orL]
end
attribute [simp] adN D7 act D2 D0 abS abU BD rQ adT aax D3 adP adO aav Ef Eg D8 adR aat aaw adS ags aau D6 D5 JG Ei D4 JH M8 Eh
theorem zO {α β:Type} (P:Program) (s:Sem α) (f:α→Sem β):zr P (s >>= f)=(zr P s).bind fun a=>zr P (f a):=by
 induction s with
 | pure a=>simp[bind,Sem.bind,zr]
 | program k ih=>simp only[bind,Sem.bind,zr] at *; exact ih P
 | _=>rfl
theorem zQ {α:Type} (P:Program) (a:α):zr P (pure a:Sem α)=some a:=rfl
theorem yD {P:Program} {t:TypeId}:zr P (underlying t)=P.underlying t:=by
 simp only[underlying,zO]
 simp only[program,zr]
 simp only[Option.bind]
 cases P.underlying t<;>rfl
theorem N3 {P:Program} {t:TypeId}:zr P (typeInfo t)=P.info? t:=by
 simp only[typeInfo,zO]
 simp only[program,zr]
 simp only[Option.bind]
 cases P.info? t<;>rfl
theorem U7 {P:Program} {t:TypeId}:zr P (sizeOf t)=szT P t:=by
 simp only[sizeOf,zO,N3,szT]
 cases P.info? t<;>rfl
theorem ET {P:Program} {t:TypeId} {d:TypeDesc} (h:P.underlying t=some d):zr P (isAgg t)=some (agT P t):=by
 simp only[isAgg,zO,yD,h,Option.bind,agT]
 cases d<;>rfl
inductive Kd where
 | b
 | i (k:IntKind)
 | s
def Kd.fit:Kd→Value→Bool
 | .b,.bool _=>true
 | .i k,.int k' _=>decide (k=k')
 | .s,.string _=>true
 | _,_=>false
def sf:List Kd→List Value→Bool
 | [],[]=>true
 | k::ks,v::vs=>k.fit v&&sf ks vs
 | _,_=>false
def eq1:Value→Value→Bool
 | .bool a,.bool b=>a == b
 | .int _ a,.int _ b=>a == b
 | .string a,.string b=>a == b
 | _,_=>false
def eqL:List Value→List Value→Bool
 | [],[]=>true
 | x::xs,y::ys=>eq1 x y&&eqL xs ys
 | _,_=>false
def QP (P:Program) (kd:TypeId→Option (List Kd)):Nat→List Field→Option (List Kd)
 | _,[]=>some []
 | off,f::fs =>
  if f.name = "_" ∨ f.offset ≠ off then none
  else
   match kd f.type with
   | some ks=>if szT P f.type=some ks.length then (QP P kd (off+ks.length) fs).map (ks++·) else none
   | none=>none
def kds (P:Program):Nat→TypeId→Option (List Kd)
 | 0,_=>none
 | d+1,t =>
  match P.underlying t with
  | some .bool=>some [.b]
  | some (.int k)=>some [.i k]
  | some .string=>some [.s]
  | some (.array n e) =>
   match kds P d e with
   | some ks=>if szT P e=some ks.length then some (List.replicate n ks).flatten else none
   | none=>none
  | some (.struct fs)=>if P.stoodInHeld t=true then none else QP P (kds P d) 0 fs.toList
  | _=>none
theorem TC:∀ {ks:List Kd} {xs:List Value},sf ks xs=true→xs.length=ks.length
 | [],[],_=>rfl
 | [],_::_,h=>by cases h
 | _::_,[],h=>by cases h
 | k::ks,x::xs,h=>by simp only[sf,Bool.and_eq_true] at h; simp[TC h.2]
theorem eM:∀ {ks ls:List Kd} {xs:List Value},sf (ks++ls) xs=true→sf ks (xs.take ks.length)=true∧sf ls (xs.drop ks.length)=true
 | [],_,_,h=>by simpa [sf] using h
 | k::ks,ls,[],h=>by cases h
 | k::ks,ls,x::xs,h=>by
  simp only[List.cons_append,sf,Bool.and_eq_true] at h
  have:=eM h.2
  simp[sf,h.1,this.1,this.2]
theorem QF:∀ {n:Nat} {xs ys:List Value},xs.length=ys.length→eqL xs ys=(eqL (xs.take n) (ys.take n)&&eqL (xs.drop n) (ys.drop n))
 | 0,_,_,_=>by simp[eqL]
 | _+1,[],[],_=>by simp[eqL]
 | _+1,[],_::_,h=>by cases h
 | _+1,_::_,[],h=>by cases h
 | n+1,x::xs,y::ys,h=>by
  simp only[List.length_cons,Nat.add_right_cancel_iff] at h
  simp only[eqL,List.take_succ_cons,List.drop_succ_cons,Bool.and_assoc]
  rw[QF (n:=n) h]
def valOf (P:Program) (t:TypeId) (xs:List Value):Value:=if agT P t=true then .agg xs.toArray else xs.headD undef
theorem Fi {P:Program} {d:Nat} {t:TypeId} {ks:List Kd} (h:kds P d t=some ks):(∃ u,P.underlying t=some u)∧(agT P t=false→ks.length=1):=by
 cases d with
 | zero=>cases h
 | succ d =>
  simp only[kds] at h
  split at h<;>rename_i hu
  ·exact ⟨⟨_,hu⟩,fun _=>by cases h; rfl⟩
  ·exact ⟨⟨_,hu⟩,fun _=>by cases h; rfl⟩
  ·exact ⟨⟨_,hu⟩,fun _=>by cases h; rfl⟩
  ·exact ⟨⟨_,hu⟩,fun ha=>by simp[agT,hu] at ha⟩
  ·exact ⟨⟨_,hu⟩,fun ha=>by simp[agT,hu] at ha⟩
  ·cases h
theorem ct {P:Program} {d:Nat} {t:TypeId} {ks:List Kd} {xs:List Value} {off:Nat} (h:kds P d t=some ks) (hz:szT P t=some ks.length)
  (hl:off+ks.length≤xs.length):zr P (part t xs.toArray off)=some (valOf P t ((xs.drop off).take ks.length)):=by
 obtain ⟨⟨u,hu⟩,h1⟩:=Fi h
 simp only[part,zO,ET hu,Option.bind_some]
 by_cases ha:agT P t=true
 ·simp only[ha,if_true,zO,U7,hz,Option.bind_some,zQ,valOf]
  congr 2
  apply Array.ext'
  simp
 ·have h2:=h1 (by simpa using ha)
  rw[if_neg ha]
  have h3:off<xs.length:=by omega
  simp only[List.getElem?_toArray,List.getElem?_eq_getElem h3,zQ,valOf,if_neg ha,h2]
  rw[List.drop_eq_getElem_cons h3]
  rfl
theorem Ny {P:Program} {α:Type} (f:α→Sem Bool):∀ (l:List α) (g:List α→Bool),g []=true→(∀ a m,(∃ h,h++a::m=l)→∃ b,zr P (f a)=some b∧g (a::m)=(b&&g m)) →
  zr P (forIn l ((none,()):Option Bool × Unit) fun a _=>do
   let b ← f a
   if (!b)=true then pure (ForInStep.done (some false,())) else pure (ForInStep.yield (none,())))=some (if g l=true then (none,()) else (some false,()))
 | [],g,h0,_=>by simp[h0,zQ]
 | a::l,g,h0,h=>by
  obtain ⟨b,hb,hg⟩:=h a l ⟨[],rfl⟩
  have ih:=Ny f l g h0 (fun x m ⟨p,hp⟩=>h x m ⟨a::p,by simp[hp]⟩)
  rw[List.forIn_cons]
  simp only[zO,hb,Option.bind_some]
  cases b with
  | false=>simp[hg,zQ]
  | true =>
   simp only[hg,Bool.true_and,Bool.not_true,Bool.false_eq_true,if_false,zQ,Option.bind_some]
   exact ih
theorem ahn {n:Nat} {α:Type} {l:List α}:(List.replicate n l).flatten.length=n*l.length:=by
 induction n with
 | zero=>simp
 | succ n ih=>simp[List.replicate_succ,ih,Nat.succ_mul,Nat.add_comm]
theorem Fh {P:Program} {d:Nat}:∀ {fs:List Field} {off:Nat} {ks:List Kd} {xs ys:List Value},QP P (kds P d) off fs=some ks→xs.length=off+ks.length→ys.length=off+ks.length →
  sf ks (xs.drop off)=true→sf ks (ys.drop off)=true →
  (∀ (t:TypeId) (ks:List Kd) (xs ys:List Value),kds P d t=some ks→sf ks xs=true→sf ks ys=true→zr P (Op.equalIn d t (valOf P t xs) (valOf P t ys))=some (eqL xs ys)) →
  zr P (forIn fs ((none,()):Option Bool × Unit) fun f _ =>
   if f.name ≠ "_" then do
    let x ← part f.type xs.toArray f.offset
    let y ← part f.type ys.toArray f.offset
    let b ← Op.equalIn d f.type x y
    if (!b)=true then pure (ForInStep.done (some false,())) else pure (ForInStep.yield (none,()))
   else pure (ForInStep.yield (none,())))=some (if eqL (xs.drop off) (ys.drop off)=true then (none,()) else (some false,()))
 | [],off,ks,xs,ys,h,hx,hy,_,_,_=>by
  simp only[QP,Option.some.injEq] at h
  subst h
  simp only[List.length_nil,Nat.add_zero] at hx hy
  rw[List.drop_of_length_le (by omega),List.drop_of_length_le (by omega)]
  simp[zQ,eqL]
 | f::fs,off,ks,xs,ys,h,hx,hy,h1,h2,IH=>by
  simp only[QP] at h
  split at h
  ·cases h
  rename_i hn
  simp only[not_or,Decidable.not_not,ne_eq] at hn
  split at h
  rotate_left
  ·cases h
  rename_i ls hk
  split at h
  rotate_left
  ·cases h
  rename_i hz
  cases hr:QP P (kds P d) (off+ls.length) fs with
  | none=>simp[hr] at h
  | some ms =>
   simp only[hr,Option.map_some,Option.some.injEq] at h
   subst h
   simp only[List.length_append] at hx hy
   have a1:=eM h1
   have a2:=eM h2
   rw[List.drop_drop] at a1 a2
   have ih:=Fh hr (xs:=xs) (ys:=ys) (by omega) (by omega) a1.2 a2.2 IH
   rw[List.forIn_cons]
   have p1:=ct (xs:=xs) (off:=off) hk hz (by omega)
   have p2:=ct (xs:=ys) (off:=off) hk hz (by omega)
   have p3:=IH _ _ _ _ hk a1.1 a2.1
   rw[if_pos hn.1,hn.2]
   simp only[zO,p1,p2,p3,Option.bind_some]
   rw[QF (n:=ls.length) (xs:=xs.drop off) (ys:=ys.drop off) (by simp; omega),List.drop_drop,List.drop_drop]
   cases eqL ((xs.drop off).take ls.length) ((ys.drop off).take ls.length) with
   | false=>simp[zQ]
   | true =>
    simp only[Bool.true_and,Bool.not_true,Bool.false_eq_true,if_false,zQ,Option.bind_some]
    exact ih
theorem Zb {ls:List Kd}:∀ {n:Nat} {xs:List Value} {a:Nat},sf (List.replicate n ls).flatten xs=true→a<n→sf ls ((xs.drop (a*ls.length)).take ls.length)=true
 | 0,_,_,_,h=>by omega
 | n+1,xs,0,h,_=>by
  simp only[List.replicate_succ,List.flatten_cons] at h
  simpa using (eM h).1
 | n+1,xs,a+1,h,ha=>by
  simp only[List.replicate_succ,List.flatten_cons] at h
  have:=Zb (eM h).2 (a:=a) (by omega)
  rw[List.drop_drop] at this
  rw[Nat.succ_mul,Nat.add_comm (a*ls.length)]
  exact this
theorem pM {P:Program}:∀ (d:Nat) (t:TypeId) (ks:List Kd) (xs ys:List Value),kds P d t=some ks→sf ks xs=true→sf ks ys=true →
  zr P (Op.equalIn d t (valOf P t xs) (valOf P t ys))=some (eqL xs ys)
 | 0,_,_,_,_,h,_,_=>by cases h
 | d+1,t,ks,xs,ys,h,hx,hy=>by
  have lx:=TC hx
  have ly:=TC hy
  simp only[kds] at h
  split at h<;>rename_i hu
  ·cases h
   match xs,ys,hx,hy with
   | [.bool a],[.bool b],_,_=>simp[valOf,agT,hu,Op.equalIn,zO,yD,zQ,eqL,eq1]
  ·cases h
   match xs,ys,hx,hy with
   | [.int k a],[.int k' b],hx,hy =>
    simp only[sf,Kd.fit,decide_eq_true_eq,Bool.and_true] at hx hy
    subst hx; subst hy
    simp[valOf,agT,hu,Op.equalIn,zO,yD,zQ,eqL,eq1]
  ·cases h
   match xs,ys,hx,hy with
   | [.string a],[.string b],_,_=>simp[valOf,agT,hu,Op.equalIn,zO,yD,zQ,eqL,eq1]
  ·rename_i n e
   split at h
   rotate_left
   ·cases h
   rename_i ls hk
   split at h
   rotate_left
   ·cases h
   rename_i hz
   cases h
   rw[ahn] at lx ly
   simp only[valOf,agT,hu,if_true,Op.equalIn,zO,yD,Option.bind_some,U7,hz]
   have hloop:=Ny (P:=P) (fun i=>do
     let x ← part e xs.toArray (i*ls.length)
     let y ← part e ys.toArray (i*ls.length)
     Op.equalIn d e x y) (List.range' 0 n) (fun m=>eqL (xs.drop ((n-m.length)*ls.length)) (ys.drop ((n-m.length)*ls.length)))
    (by
     simp only[List.length_nil,Nat.sub_zero]
     rw[List.drop_of_length_le (by omega),List.drop_of_length_le (by omega)]; rfl)
    (by
     rintro a m ⟨p,hp⟩
     have hlen:p.length+(m.length+1)=n:=by
      have:=congrArg List.length hp
      simpa using this
     have ha:a=p.length:=by
      have:=congrArg (·[p.length]?) hp
      simp only[List.getElem?_append_right (Nat.le_refl _),Nat.sub_self,List.getElem?_cons_zero] at this
      rw[List.getElem?_range' (by omega)] at this
      simpa using this
     have hmul:a*ls.length+ls.length≤n*ls.length:=by
      rw[← Nat.succ_mul]; exact Nat.mul_le_mul_right _ (by omega)
     have e1:n-(a::m).length=a:=by simp only[List.length_cons]; omega
     have e2:(n-m.length)*ls.length=a*ls.length+ls.length:=by
      have:n-m.length=a+1:=by omega
      rw[this,Nat.succ_mul]
     have f1:=Zb hx (a:=a) (by omega)
     have f2:=Zb hy (a:=a) (by omega)
     have p1:=ct (xs:=xs) (off:=a*ls.length) hk hz (by omega)
     have p2:=ct (xs:=ys) (off:=a*ls.length) hk hz (by omega)
     refine ⟨_,by simp only[zO,p1,p2,Option.bind_some]; exact pM d _ _ _ _ hk f1 f2,?_⟩
     simp only[e1,e2]
     rw[QF (n:=ls.length) (by simp; omega),List.drop_drop,List.drop_drop])
   simp only[List.length_range',Nat.sub_self,Nat.zero_mul,List.drop_zero] at hloop
   simp only[bind_assoc] at hloop
   rw[Std.Legacy.Range.forIn_eq_forIn_range']
   simp only[Std.Legacy.Range.size,Nat.sub_zero,Nat.add_sub_cancel,Nat.div_one] at hloop ⊢
   rw[hloop]
   cases eqL xs ys<;>simp[zQ]
  ·rename_i fs
   split at h
   ·cases h
   rename_i hs
   simp only[valOf,agT,hu,if_true,Op.equalIn,zO,yD,Option.bind_some]
   simp only[program,zr,Option.bind_some,hs]
   have:=Fh (xs:=xs) (ys:=ys) h (by omega) (by omega) (by simpa using hx) (by simpa using hy) (pM d)
   simp only[Bool.false_eq_true,if_false]
   rw[← Array.forIn_toList,zO,this]
   simp only[List.drop_zero,Option.bind_some]
   cases eqL xs ys<;>rfl
  ·cases h
def eR (n:Nat) (l:List AV):Bool:=decide (l.length=n)&&l.all fun | .val (.int .i64 _)=>true | _=>false
def Zi:List AV→List Int
 | .val (.int _ x)::r=>x::Zi r
 | _=>[]
theorem YW (l:List Int):Zi (l.map iv)=l:=by
 induction l with
 | nil=>rfl
 | cons x l ih=>simp[Zi,ih]
theorem Ro (n:Nat) (l:List Int):eR n (l.map iv)=decide (l.length=n):=by simp[eR]
theorem QO:∀ {l:List AV},(l.all fun | .val (.int .i64 _)=>true | _=>false)=true→∃ xs:List Int,l=xs.map iv
 | [],_=>⟨[],rfl⟩
 | x::l,h=>by
  simp only[List.all_cons,Bool.and_eq_true] at h
  obtain ⟨xs,rfl⟩:=QO h.2
  match x,h.1 with
  | .val (.int .i64 n),_=>exact ⟨n::xs,rfl⟩
theorem Uz:∀ l:List Int,qz (l.map iv)=some (l.map (Value.int .i64))
 | []=>rfl
 | x::l=>by simp[qz,Uz l]
theorem Lw:∀ (a b:List Int),eqL (a.map (Value.int .i64)) (b.map (Value.int .i64))=decide (a=b)
 | [],[]=>rfl
 | [],_::_=>by simp[eqL]
 | _::_,[]=>by simp[eqL]
 | x::a,y::b=>by
  simp only[List.map_cons,eqL,eq1,Lw a b,List.cons.injEq,Bool.decide_and]
  rfl
theorem bV:∀ (a:List Int),sf (List.replicate a.length (.i .i64)) (a.map (Value.int .i64))=true
 | []=>rfl
 | x::a=>by simp[List.replicate_succ,sf,Kd.fit,bV a]
theorem Rg {P:Program} {op:BinOp} {t:TypeId} {ox oy:Operand} {xs ys:Array Value} (hg:P.eqGuardType P.depth t=false):zr P (eqGuard op t ox oy (.agg xs) (.agg ys))=some ():=by
 have e:zr P program=some P:=rfl
 unfold eqGuard
 cases op<;>simp[zO,e,hg,zQ]
section
variable {P:Program} {t n:Nat} {ox oy:Operand} {a b:List AV} {K:AV→Option zf→Prop} {σ:Nat→Option zf}
theorem gG (hk:kds P Op.maxDepth t=some (List.replicate n (.i .i64))) (hg:P.eqGuardType P.depth t=false) (hA:agT P t=true)
  (ha:eR n a=true) (hb:eR n b=true):ye P .eql t ox oy [.agg a,.agg b] K=K (bv (decide (Zi a=Zi b))) none:=by
 simp only[eR,Bool.and_eq_true,decide_eq_true_eq] at ha hb
 obtain ⟨xs,rfl⟩:=QO ha.2
 obtain ⟨ys,rfl⟩:=QO hb.2
 simp only[List.length_map] at ha hb
 have e:=pM Op.maxDepth t _ (xs.map (Value.int .i64)) (ys.map (Value.int .i64)) hk (by rw[← ha.1]; exact bV xs) (by rw[← hb.1]; exact bV ys)
 simp only[valOf,hA,if_true] at e
 have e2:zr P (Op.equal t (.agg (xs.map (Value.int .i64)).toArray) (.agg (ys.map (Value.int .i64)).toArray))=some (decide (xs=ys)):=by rw[← Lw]; exact e
 have e1:binOp .eql t (.agg (xs.map (Value.int .i64)).toArray) (.agg (ys.map (Value.int .i64)).toArray)=(do pure (.bool (← Op.equal t (.agg (xs.map (Value.int .i64)).toArray) (.agg (ys.map (Value.int .i64)).toArray)))):=rfl
 simp only[ye,toV,Uz,Option.map_some,zO,Rg hg,e1,e2,Option.bind_some,zQ,y5,ofV,xm,YW]
theorem n8 {x y:Bool} (hu:P.underlying t=some .bool):ye P .eql t ox oy [bv x,bv y] K=K (bv (x == y)) none:=by
 have e1:binOp .eql t (.bool x) (.bool y)=(do pure (.bool (← Op.equal t (.bool x) (.bool y)))):=rfl
 have e2:zr P (eqGuard .eql t ox oy (.bool x) (.bool y))=some ():=rfl
 have e3:zr P (Op.equal t (.bool x) (.bool y))=some (x == y):=by
  have e4:∀ d:Nat,zr P (Op.equalIn (d+1) t (.bool x) (.bool y))=some (x == y):=fun d=>by
   simp only[Op.equalIn,zO,yD,hu,Option.bind_some,zQ]
  exact e4 9999
 simp only[ye,toV,zO,e1,e2,e3,Option.bind_some,zQ,y5,ofV,xm]
theorem wD {x y:Bool} (hu:P.underlying t=some .bool):ye P .neq t ox oy [bv x,bv y] K=K (bv (!(x == y))) none:=by
 have e1:binOp .neq t (.bool x) (.bool y)=(do pure (.bool (!(← Op.equal t (.bool x) (.bool y))))):=rfl
 have e2:zr P (eqGuard .neq t ox oy (.bool x) (.bool y))=some ():=rfl
 have e3:zr P (Op.equal t (.bool x) (.bool y))=some (x == y):=by
  have e4:∀ d:Nat,zr P (Op.equalIn (d+1) t (.bool x) (.bool y))=some (x == y):=fun d=>by
   simp only[Op.equalIn,zO,yD,hu,Option.bind_some,zQ]
  exact e4 9999
 simp only[ye,toV,zO,e1,e2,e3,Option.bind_some,zQ,y5,ofV,xm]
theorem za {f:FuncId} {xs args:List AV} {r:AV} (h:ze P f args r) (hs:yQ (vv σ) xs=some args) (hp:xs.any gc=false∨pf r=true) (hk:K r none):wq P f σ xs K:=by
 unfold wq
 rw[hs]
 refine ⟨r,h,fun hr=>?_,hk⟩
 rcases hp with hp | hp
 ·rw[hp] at hr; cases hr
 ·exact hp
end
theorem Nv {k k':AV→Option zf→Prop} (hk:∀ x e,k x e→k' x e):∀ {x:Option Value},y5 x k→y5 x k'
 | some _,h=>hk _ _ h
 | none,h=>h
theorem pL {k k':AV→Option zf→Prop} (hk:∀ x e,k x e→k' x e):∀ {x:Option AV},xJ x k→xJ x k'
 | some _,h=>hk _ _ h
 | none,h=>h
theorem SG {n lo hi mx xs} {k k':Nat→Nat→Bool→Prop} (hk:∀ x e f,k x e f→k' x e f):vL n lo hi mx xs k→vL n lo hi mx xs k':=by
 unfold vL
 repeat' split
 all_goals grind
theorem Cm {P:Program} {op t ox oy xs} {k k':AV→Option zf→Prop} (hk:∀ x e,k x e→k' x e):ye P op t ox oy xs k→ye P op t ox oy xs k':=by
 match xs with
 | []=>exact id
 | [_]=>exact id
 | [x,y] =>
  simp only[ye]
  cases toV x<;>cases toV y<;>first | exact pL hk | exact Nv hk
 | _::_::_::_=>exact id
theorem Er {σ n xs} {k k':AV→Option zf→Prop} (hk:∀ x e,k x e→k' x e):jS σ n xs k→jS σ n xs k':=by
 unfold jS
 split
 ·split
  ·exact pL hk
  ·exact id
 ·split
  ·refine fun ⟨a,b⟩=>⟨a,?_⟩
   revert b
   split
   ·exact pL hk
   ·exact id
  ·exact id
 ·exact pL hk
 ·split
  ·refine fun ⟨a,b⟩=>⟨a,?_⟩
   revert b
   split
   ·exact pL hk
   ·exact id
  ·exact id
 ·exact id
theorem Ep {str x} {k k':AV→Option zf→Prop} (hk:∀ x e,k x e→k' x e):jR str k x→jR str k' x:=by
 unfold jR
 split<;>first | exact id | exact fun ⟨a,b⟩=>⟨a,hk _ _ b⟩
theorem Re {P:Program} {f σ xs} {k k':AV→Option zf→Prop} (hk:∀ x e,k x e→k' x e):wq P f σ xs k→wq P f σ xs k':=by
 unfold wq
 cases yQ (vv σ) xs with
 | none=>exact id
 | some args=>exact fun ⟨r,h1,h2,h3⟩=>⟨r,h1,h2,hk _ _ h3⟩
theorem Ls {P:Program} {t ok σ xs} {k k':AV→Option zf→Prop} (hk:∀ x e,k x e→k' x e):ss P t ok σ xs k→ss P t ok σ xs k':=by
 unfold ss
 repeat' split
 all_goals first | exact id | exact hk _ _
theorem a7 {P:Program} {d op xs σ} {k k':AV→Option zf→Prop} (hk:∀ x e,k x e→k' x e):zK P d op xs σ k→zK P d op xs σ k':=by
 unfold zK
 repeat' split
 all_goals first
  | exact id
  | exact hk _ _
  | exact Nv hk
  | exact pL hk
  | exact Cm hk
  | exact Er hk
  | exact Ls hk
  | exact Re hk
  | (unfold ln; repeat' split<;>first | exact id | grind)
  | (unfold vA; repeat' split<;>first | exact id | grind)
  | (unfold eMk; repeat' split<;>first | exact id | grind)
  | (unfold jo; split<;>first | exact id | exact Ep hk)
  | (unfold nQ; repeat' split<;>first | exact id | exact fun ⟨h1,h2⟩=>⟨h1,SG (fun _ _ _=>hk _ _) h2⟩)
  | exact SG (fun _ _ _ h=>⟨h.1,hk _ _ h.2⟩)
  | exact fun ⟨a,b⟩=>⟨a,Re hk b⟩
  | exact fun ⟨a,b⟩=>⟨a,hk _ _ b⟩
  | exact fun ⟨a,b,c⟩=>⟨a,b,hk _ _ c⟩
  | exact fun ⟨a,b,c⟩=>⟨a,b,pL hk c⟩
  | exact fun ⟨a,b⟩=>⟨fun h=>hk _ _ (a h),fun h=>hk _ _ (b h)⟩
  | skip
theorem fS {σ sz x} {k k':List (List AV)→Prop} (hk:∀ x,k x→k' x):xb σ sz x k→xb σ sz x k':=by
 unfold xb
 repeat' split
 all_goals grind
theorem JQ {n s dst xs} {K K':St→Prop} (hk:∀ s,K s→K' s):kj n s dst xs K→kj n s dst xs K':=by
 unfold kj
 repeat' split
 all_goals grind
theorem Lp {n b s dst xs} {K K':St→Prop} (hk:∀ s,K s→K' s):yY n b s dst K xs→yY n b s dst K' xs:=by
 unfold yY
 split
 ·refine fS fun rows h=>⟨h.1,h.2.1,h.2.2.1,?_⟩
  have:=h.2.2.2
  revert this
  repeat' split
  all_goals grind
 ·refine fun ⟨h1,h⟩=>⟨h1,?_⟩
  revert h
  split
  ·exact fun h=>⟨h.1,hk _ h.2⟩
  ·exact id
 ·exact id
theorem En {n s dst xs} {K K':St→Prop} (hk:∀ s,K s→K' s):aY n s dst K xs→aY n s dst K' xs:=by
 unfold aY
 split
 ·refine fun ⟨a,a2,b⟩=>⟨a,a2,?_⟩
  unfold bS at b ⊢
  revert b
  split
  ·exact id
  ·refine fS fun rows h=>?_
   revert h
   split<;>grind
 ·exact id
theorem Z1 {σ sz x} {k k':List (List AV)→Prop} (hk:∀ x,k x→k' x):wF σ sz x k→wF σ sz x k':=by
 unfold wF
 split
 ·split
  ·exact fun ⟨a,b,c,d⟩=>⟨a,b,c,hk _ d⟩
  ·exact fun ⟨_,h⟩=>h.elim
 ·exact fun ⟨a,b⟩=>⟨a,hk _ b⟩
 ·exact fS hk
theorem NY {n b s dst xs} {K K':St→Prop} (hk:∀ s,K s→K' s):uY n b s dst K xs→uY n b s dst K' xs:=by
 unfold uY
 split
 ·refine Z1 fun rows h=>⟨h.1,h.2.1,h.2.2.1,?_⟩
  have:=h.2.2.2
  revert this
  split
  ·exact fun ⟨a,b,c⟩=>⟨a,b,hk _ c⟩
  ·exact id
 ·refine Z1 fun rows h=>⟨h.1,h.2.1,h.2.2.1,?_⟩
  have:=h.2.2.2
  revert this
  split
  ·exact fun ⟨a,b,c,d,e⟩=>⟨a,b,c,d,hk _ e⟩
  ·exact id
 ·exact id
theorem QD {n b z ps s dst xs} {K K':St→Prop} (hk:∀ s,K s→K' s):lq n b z ps s dst K xs→lq n b z ps s dst K' xs:=by
 unfold lq
 split
 ·exact fun ⟨a,b,c,d⟩=>⟨a,b,c,hk _ d⟩
 ·exact id
theorem Lu {P t s dst xs} {K K':St→Prop} (hk:∀ s,K s→K' s):rP P t s dst K xs→rP P t s dst K' xs:=by
 unfold rP
 repeat' split
 all_goals first | exact id | exact fun ⟨a,b⟩=>⟨a,hk _ b⟩
theorem Sy {P f args s} {K K':AV→St→Prop} (hk:∀ r s,K r s→K' r s) (h:yH P f args s K):yH P f args s K' :=
 fun F a w I β lam hI vs hs hR=>(h F a w I β lam hI vs hs hR).mono fun _e _w' ⟨v,he,r,s',I',β',lam',hK,h⟩=>⟨v,he,r,s',I',β',lam',hk _ _ hK,h⟩
theorem UW {P f xs s dst} {K K':St→Prop} (hk:∀ s,K s→K' s):qG P f xs s dst K→qG P f xs s dst K' :=
 Sy fun _ _ h=>⟨h.1,hk _ h.2⟩
theorem MR {P o s} {K K':St→Prop} (hk:∀ s,K s→K' s):xQ P o s K→xQ P o s K':=by
 have hop:yJ P o s K→yJ P o s K':=by
  unfold yJ
  split
  ·unfold YL
   split
   ·exact a7 fun _ _ h=>⟨h.1,h.2.1,hk _ h.2.2⟩
   ·exact id
  ·have hc:∀ {op:AOp} {xs:List AV},YL P op s o.dst K xs→YL P op s o.dst K' xs:=by
    unfold YL
    split
    ·exact a7 fun _ _ h=>⟨h.1,h.2.1,hk _ h.2.2⟩
    ·exact id
   have hs:aZ s o.dst K→aZ s o.dst K':=by
    unfold aZ
    split
    ·exact fun h=>⟨h.1,h.2.1,hk _ h.2.2⟩
    ·exact id
   split
   ·exact fun h=>⟨fun e=>hc (h.1 e),fun e=>hs (h.2 e)⟩
   ·exact hs
   ·exact id
  ·exact fun ⟨a,b⟩=>⟨a,hk _ b⟩
  ·exact JQ hk
  ·exact Lp hk
  ·exact En hk
  ·exact NY hk
  ·exact QD hk
  ·exact Lu hk
  ·unfold d7
   split
   ·split
    ·exact fun ⟨a,b⟩=>⟨fun h=>⟨hk _ (a h).1,hk _ (a h).2⟩,fun h=>hk _ (b h)⟩
    ·exact id
   ·exact id
  ·exact fun ⟨a,b⟩=>⟨a,UW hk b⟩
  ·split
   ·exact fun ⟨a,b⟩=>⟨a,UW hk b⟩
   ·exact id
  ·exact fun ⟨a,b,c⟩=>⟨a,b,fun D=>Sy (fun _ _ ⟨A,h1,h2,h3,h4⟩=>⟨A,h1,h2,h3,hk _ h4⟩) (c D)⟩
  ·exact a7 fun _ _=>hk _
 unfold xQ
 repeat' split
 ·exact hop
 ·exact fun ⟨a,b⟩=>⟨fun h=>hop (a h),fun h=>hk _ (b h)⟩
 ·exact hk _
 ·exact id
theorem UJ {P}:∀ {os s} {K K':St→Prop},(∀ s,K s→K' s)→zl P os s K→zl P os s K'
 | [],_,_,_,hk,h=>hk _ h
 | _::_,_,_,_,hk,h=>MR (fun _=>UJ hk) h
theorem YR:∀ {ks s} {K K':St→Prop},(∀ s,K s→K' s)→qL ks s K→qL ks s K'
 | [],_,_,_,hk,h=>hk _ h
 | k::ks,s,K,K',hk,h=>by
  simp only[qL,qK] at h ⊢
  split at h
  ·exact ⟨h.1,YR hk h.2⟩
  ·exact h
theorem vh {P}:∀ {c s} {K K':Exit→St→Prop},(∀ e s,K e s→K' e s)→awp P c s K→awp P c s K'
 | .skip,_,_,_,hk,h=>hk _ _ h
 | .region ..,_,_,_,hk,h=>YR (fun _=>UJ fun _ h=>by
   unfold X5 at h ⊢
   exact ⟨h.1,hk _ _ h.2⟩) h
 | .seq a b,s,K,K',hk,h=>by
  simp only[awp] at h ⊢
  refine vh (fun e s h=>?_) h
  cases e<;>first | exact vh hk h | exact hk _ _ h
 | .cond c a b,s,K,K',hk,h=>by
  simp only[awp] at h ⊢
  split at h
  ·exact ⟨fun e=>vh hk (h.1 e),fun e=>vh hk (h.2 e)⟩
  ·exact h
 | .block i b,s,K,K',hk,h=>by
  simp only[awp] at h ⊢
  refine vh (fun e s h=>?_) h
  cases e<;>simp only[SF] at h ⊢<;>grind
 | .loop b,s,K,K',hk,⟨J,n,s0,hi,h0,h⟩=>⟨J,n,s0,hi,h0,fun n s hj=>vh (fun e s h=>by
   cases e<;>simp only[ads] at h ⊢<;>grind) (h n s hj)⟩
 | .goto _,_,_,_,hk,h=>hk _ _ h
 | .again l b,s,K,K',hk,⟨J,n,s0,hi,h0,h⟩=>⟨J,n,s0,hi,h0,fun n s hj=>vh (fun e s h=>by
   cases e<;>simp only[DJ] at h ⊢<;>grind) (h n s hj)⟩
 | .exit i,_,_,_,hk,h=>hk _ _ h
 | .ret,_,_,_,hk,h=>hk _ _ h
section
variable {P:Program} {s:St} {K:Exit→St→Prop} {KS:St→Prop} {os:List zi} {d:Nat}
def mmA (P:Program) (b:Builtin) (ts:Array TypeId) (t:TypeId) (xs:List AV):Option AV :=
 match qz xs with
 | some vs=>(zr P (if b=.max then Builtin.max_ ts t vs.toArray else Builtin.min_ ts t vs.toArray)).map ofV
 | none=>none
theorem ahf {b:Builtin} {ts:Array TypeId} {t:TypeId} {xs:List Opd}:zl P (⟨some d,.mm b ts t,xs,none⟩::os) s KS=mI (mmA P b ts t (xs.map (ev s))) P os s d KS:=by
 show zK P (s.base+d) (.mm b ts t) (xs.map (ev s)) (lk s.sto) (xK P os s (some d) KS)=_
 simp only[zK,mmA]
 cases qz (xs.map (ev s)) with
 | none=>rfl
 | some vs=>simp only[Kx]
theorem aeB {ts:Array TypeId} {t:TypeId} {x y:Int}:mmA P .max ts t [iv x,iv y]=some (iv (max x y)):=by
 simp only[mmA,qz,Builtin.max_,Option.map_some,if_true,List.foldlM,zO]
 simp only[Builtin.max2,zQ,Option.bind_some,Option.map_some,ofV,xm]
 by_cases h:y > x
 ·rw[if_pos h,Int.max_eq_right (by omega)]
 ·rw[if_neg h,Int.max_eq_left (by omega)]
theorem aeC {ts:Array TypeId} {t:TypeId} {x y:Int}:mmA P .min ts t [iv x,iv y]=some (iv (min x y)):=by
 have e:(Go.Builtin.min=Go.Builtin.max)=False:=by simp
 simp only[mmA,qz,Builtin.min_,Option.map_some,e,if_false,List.foldlM,zO]
 simp only[Builtin.min2,zQ,Option.bind_some,Option.map_some,ofV,xm]
 by_cases h:y<x
 ·rw[if_pos h,Int.min_eq_right (by omega)]
 ·rw[if_neg h,Int.min_eq_left (by omega)]
def cF (st:Nat→St) (k:Nat) (K:Exit→St→Prop):Exit→St→Prop
 | .normal,s=>s=st k
 | e,s=>K e s
def t7 (K:Exit→St→Prop):Exit→St→Prop
 | .normal,_=>False
 | e,s=>K e s
theorem Jf {st:Nat→St} {k:Nat}:cF st k K .normal s=(s=st k):=rfl
theorem Dr {st:Nat→St} {k j:Nat}:cF st k K (.exit j) s=K (.exit j) s:=rfl
theorem AB {st:Nat→St} {k:Nat}:cF st k K .ret s=K .ret s:=rfl
theorem ED {j:Nat}:t7 K (.exit j) s=K (.exit j) s:=rfl
theorem CV:t7 K .ret s=K .ret s:=rfl
theorem LZ:t7 K .normal s=False:=rfl
theorem yl {a:zd} (st:Nat→St) (N:Nat) (h0:s=st 0) (h1:∀ k,k<N→awp P a (st k) (cF st (k+1) K)) (h2:awp P a (st N) (t7 K)):awp P (.loop a) s K:=by
 refine ⟨fun n s=>∃ k,k≤N∧n=N-k∧s=st k,N,s,St.imp.refl,⟨0,by omega,by omega,h0⟩,?_⟩
 rintro n s ⟨k,hk,rfl,rfl⟩
 by_cases h:k<N
 ·refine vh (fun e s hs=>?_) (h1 k h)
  cases e with
  | normal=>exact ⟨N-(k+1),s,by omega,St.imp.refl,k+1,by omega,rfl,hs⟩
  | _=>exact hs
 ·obtain rfl:k=N:=by omega
  refine vh (fun e s hs=>?_) h2
  cases e with
  | normal=>exact hs.elim
  | _=>exact hs
theorem Ds {st:Nat→St} {k j:Nat}:cF st k K (.goto j) s=K (.goto j) s:=rfl
theorem EE {j:Nat}:t7 K (.goto j) s=K (.goto j) s:=rfl
def mN {α:Type} (m:List (Nat × α)):List (Nat × α)→Prop
 | []=>True
 | (t,x)::l=>lk m t=some x∧mN m l
theorem PG {α:Type} {m l:List (Nat × α)} (h:mN m l) {t:Nat} {x:α} (hx:lk l t=some x):lk m t=some x:=by
 induction l with
 | nil=>simp[lk] at hx
 | cons p l ih =>
  obtain ⟨u,y⟩:=p
  obtain ⟨h1,h2⟩:=h
  simp only[lk] at hx
  split at hx
  ·rename_i e; cases hx; rw[← e]; exact h1
  ·exact ih h2 hx
theorem afD {α:Type} {m l:List (Nat × α)} (h:mN m l) (h':mN l m):lk l=lk m:=by
 funext t
 cases h1:lk l t with
 | some x=>exact (PG h h1).symm
 | none =>
  cases h2:lk m t with
  | none=>rfl
  | some y=>rw[PG h' h2] at h1; cases h1
def bh (s s':St):Prop:=mN s.env s'.env∧(s'.sto=s.sto∨lk s'.sto=lk s.sto∨(mN s.sto s'.sto∧mN s'.sto s.sto))∧s'.out=s.out
theorem St.imp_of {s s':St} (h:bh s s'):St.imp s s':=by
 obtain ⟨h1,h2,h3⟩:=h
 rintro F a w ⟨I,β,lam,hI⟩
 have e:lk s'.sto=lk s.sto:=by
  rcases h2 with h2 | h2 | h2
  ·rw[h2]
  ·exact h2
  ·exact afD h2.1 h2.2
 refine ⟨I,β,lam,{hI with env:=fun t x hx=>hI.env t x ?_,sto:=by rw[e]; exact hI.sto,usto:=by rw[e]; exact hI.usto,bdom:=by rw[e]; exact hI.bdom}⟩
 obtain ⟨d,t⟩:=t
 cases d with
 | zero=>exact PG h1 hx
 | succ d =>
  simp only[St.look] at hx ⊢
  rw[← h3]; exact hx
theorem ac0 {α:Type} {m:List (Nat × α)}:mN m []=True:=rfl
theorem AH {α:Type} {m l:List (Nat × α)} {t:Nat} {x:α}:mN m ((t,x)::l)=(lk m t=some x∧mN m l):=rfl
theorem aet {e e':List (Nat × AV)} {σ σ':List (Nat × zf)} {o o':List (List (Nat × AV))} {b b':Nat}:bh ⟨e,σ,o,b⟩ ⟨e',σ',o',b'⟩=(mN e e'∧(σ'=σ∨lk σ'=lk σ∨(mN σ σ'∧mN σ' σ))∧o'=o):=rfl
def stepW (st:Nat→St) (I:Nat→Prop) (k:Nat) (K:Exit→St→Prop):Exit→St→Prop
 | .normal,s=>bh s (st k)∧I k
 | e,s=>K e s
theorem XA {st:Nat→St} {I:Nat→Prop} {k:Nat}:stepW st I k K .normal s=(bh s (st k)∧I k):=rfl
theorem Dt {st:Nat→St} {I:Nat→Prop} {k j:Nat}:stepW st I k K (.exit j) s=K (.exit j) s:=rfl
theorem AC {st:Nat→St} {I:Nat→Prop} {k:Nat}:stepW st I k K .ret s=K .ret s:=rfl
theorem Du {st:Nat→St} {I:Nat→Prop} {k j:Nat}:stepW st I k K (.goto j) s=K (.goto j) s:=rfl
theorem zw {a:zd} (st:Nat→St) (I:Nat→Prop) (N:Nat) (h0:bh s (st 0)) (i0:I 0) (h1:∀ k,k<N→I k→awp P a (st k) (stepW st I (k+1) K)) (h2:I N→awp P a (st N) (t7 K)) :
  awp P (.loop a) s K:=by
 refine ⟨fun n s=>∃ k,k≤N∧n=N-k∧s=st k∧I k,N,st 0,St.imp_of h0,⟨0,by omega,by omega,rfl,i0⟩,?_⟩
 rintro n s ⟨k,hk,rfl,rfl,hi⟩
 by_cases h:k<N
 ·refine vh (fun e s hs=>?_) (h1 k h hi)
  cases e with
  | normal=>exact ⟨N-(k+1),st (k+1),by omega,St.imp_of hs.1,k+1,by omega,rfl,rfl,hs.2⟩
  | _=>exact hs
 ·obtain rfl:k=N:=by omega
  refine vh (fun e s hs=>?_) (h2 hi)
  cases e with
  | normal=>exact hs.elim
  | _=>exact hs
end
def yE (sz d:Nat) (rows:List (List AV)):AV:=.list (if rows=[] then 0 else sz) (if rows=[] then .full else .own d) rows
abbrev Zt (sz:Nat) (rows:List (List AV)):AV:=.list (if rows=[] then 0 else sz) (if rows=[] then .full else .plain) rows
theorem kT {sz d:Nat} {rows:List (List AV)}:strip (yE sz d rows)=Zt sz rows:=by
 unfold yE Zt
 split<;>rfl
theorem FT {sz d:Nat} {rows:List (List AV)}:rf (yE sz d rows)=true:=rfl
theorem Tb {sz d k:Nat} {rows:List (List AV)}:zP k (yE sz d rows)=false:=by simp[yE,zP]
theorem Cq {sz d:Nat} {rows:List (List AV)} {K:AV→Option zf→Prop}:jo false [yE sz d rows] K=K (.val (.int .i64 rows.length)) none:=by simp[yE,jo]
theorem fU {sz d:Nat}:yE sz d []=.list 0 .full []:=rfl
theorem NO {sz d:Nat} {rows:List (List AV)} {σ:Nat→Option zf}:vv σ (yE sz d rows)=some (Zt sz rows):=by
 rw[← kT (d:=d)]; rfl
theorem agA {l:Nat} {v:Value}:dg l (.val v)=.val v:=rfl
theorem agy {l:Nat} {v:List AV}:dg l (.agg v)=.agg v:=rfl
theorem ah9 {l:Nat} {v:List AV}:dg l (.ro v)=.ro v:=rfl
theorem agz {l k o:Nat}:dg l (.ptr k o)=.ptr k o:=rfl
theorem aaD {l sz:Nat} {r:List (List AV)}:dg l (.list sz .plain r)=.list sz .plain r:=rfl
theorem ad4 {l sz:Nat} {r:List (List AV)}:dg l (.list sz .full r)=.list sz .full r:=rfl
theorem aia {l k sz off n:Nat}:dg l (.sl k sz off n)=.sl k sz off n:=rfl
theorem aic {l k sz off n:Nat}:dg l (.us k sz off n)=if k=l then .undef else .us k sz off n:=rfl
theorem aib {l k sz i off:Nat}:dg l (.up k sz i off)=if k=l then .undef else .up k sz i off:=rfl
theorem aaF {l:Nat}:dg l .undef=.undef:=rfl
theorem ad3 {l k sz i o:Nat}:dg l (.eptr k sz i o)=.eptr k sz i o:=rfl
theorem aaC {l:Nat} {t:TypeId} {x:AV}:dg l (.iface t x)=.iface t x:=rfl
theorem ah8 {l:Nat} {f:Fn} {caps:List AV}:dg l (.fn f caps)=if caps.any (jJ l)=true then .undef else .fn f caps:=rfl
theorem aaE {l:Nat} {caps:List AV}:dg l (.tuple caps)=if caps.any (jJ l)=true then .undef else .tuple caps:=rfl
theorem ad2 {l sz d:Nat} {rows:List (List AV)} (h:d≠l):dg l (yE sz d rows)=yE sz d rows:=by
 by_cases e:rows=[]
 ·simp[yE,e,dg]
 ·simp[yE,e,dg,h]
theorem rO {sz by_ d l:Nat} {s:St} {KS:St→Prop} {rows:List (List AV)} {m:Mode} {x:List AV} {xs:List (List AV)} (h0:0<sz) (h1:s.base+d=l) :
  yY sz by_ s (some d) KS [yE sz l rows,.list sz m (x::xs)] =
   ((rows.length+(xs.length+1))*by_≤140737488355328∧rows.length+(xs.length+1)≤9223372036854775807∧lk s.sto l=none∧KS ((s.dg l).put (some d) (yE sz l (rows++x::xs)))):=by
 subst h1
 unfold yE
 by_cases h:rows=[]
 ·subst h
  simp[yY,xb,h0,St.put]
 ·simp[yY,xb,h0,h,St.put]
theorem Yb {sz by_ d l sz':Nat} {s:St} {KS:St→Prop} {rows xs:List (List AV)} {m:Mode} (h0:0<sz) (hx:xs=[]∨sz'=sz) (h1:lk s.sto (s.base+d)=none) (h2:lk s.sto l=none)
  (hb:(rows.length+xs.length)*by_≤140737488355328) (hb2:rows.length+xs.length≤9223372036854775807)
  (hK:∀ t,t=l∨t=s.base+d→KS ((s.dg t).put (some d) (.list sz (.own t) (rows++xs)))):yY sz by_ s (some d) KS [yE sz l rows,.list sz' m xs]:=by
 by_cases hr:rows=[]
 ·subst hr
  exact ⟨hx,h0,hb,hb2,.inl rfl,h1,hK _ (.inr rfl)⟩
 ·simp only[yE,hr,if_false]
  exact ⟨hx,h0,hb,hb2,rfl,h2,hK _ (.inl rfl)⟩
theorem JV {l:List Int} {off n:Nat} (h:l.length=n) (h0:off=0):zH (l.map iv) off (some n)=some (.agg (l.map iv)):=by
 subst h0
 exact Nb h
def stm:Mode→Mode
 | .own _=>.plain
 | m=>m
theorem nw {sz:Nat} {m:Mode} {rows:List (List AV)}:strip (.list sz m rows)=.list sz (stm m) rows:=by cases m<;>rfl
theorem AD:stm .plain=.plain:=rfl
theorem acU:stm .full=.full:=rfl
theorem afx {l:Nat}:stm (.own l)=.plain:=rfl
theorem sM {cells:List AV} {n:Nat} (h:cells.length=n) (h2:cells.all rf=true):zH cells 0 (some n)=some (.agg (cells.map strip)):=by
 simp only[zH,List.drop_zero]
 rw[List.take_of_length_le (by omega),if_pos ⟨by omega,h2⟩]
theorem afy {m:Mode}:stm (stm m)=stm m:=by cases m<;>rfl
theorem ad5 {l sz:Nat} {m:Mode} {r:List (List AV)} (h:stm m=m):dg l (.list sz m r)=.list sz m r:=by
 cases m with
 | own k=>cases h
 | _=>rfl
theorem acb {s:St} {d:Nat} {x:AV}:s.put (some d) x=⟨pt s.env d x,s.sto,s.out,s.base⟩:=rfl
attribute [simp] Ds EE ac0 AH aet XA Dt AC Du
attribute [simp] ahf aeB aeC Jf Dr AB LZ ED CV YW Ro Zi eR kT FT Tb Cq fU NO agA agy ah9 agz aaD ad4 aia ad2 aic aib aaF ad3 aaC ah8 aaE jJ rO acb wt rm St.dg dgE Do Dn nw AD acU afx afy ad5 gc jD pf pf1 EC JV sM
abbrev XE:=Option (AV × Option zf)
def Ms (n:Nat) (lo hi mx:Bool) (xs:List AV):Option (Nat × Nat × Bool) :=
 match lo,hi,mx,xs with
 | false,false,false,[]=>some (0,n,false)
 | true,false,false,[.val (.int _ l)]=>if 0≤l∧l≤n then some (l.toNat,n,false) else none
 | false,true,false,[.val (.int _ h)]=>if 0≤h∧h≤n then some (0,h.toNat,false) else none
 | true,true,false,[.val (.int _ l),.val (.int _ h)]=>if 0≤l∧l≤h∧h≤n then some (l.toNat,h.toNat,false) else none
 | false,true,true,[.val (.int _ h),.val (.int _ m)]=>if 0≤h∧h=m∧m≤n then some (0,h.toNat,true) else none
 | true,true,true,[.val (.int _ l),.val (.int _ h),.val (.int _ m)]=>if 0≤l∧l≤h∧h=m∧m≤n then some (l.toNat,h.toNat,true) else none
 | _,_,_,_=>none
def Jy:Option Value→XE
 | some v=>some (ofV v,none)
 | none=>none
def avX:Option AV→XE
 | some v=>some (v,none)
 | none=>none
def aka (P:Program) (op:BinOp) (t:TypeId) (ox oy:Operand):List AV→XE
 | [x,y]=>match toV x,toV y with
  | some a,some b=>Jy (zr P (do eqGuard op t ox oy a b; binOp op t a b))
  | _,_=>none
 | _=>none
def aiv (σ:Nat→Option zf) (n:Option Nat):List AV→XE
 | [.ptr j off]=>match σ j with
  | some (.var cells)=>avX (zH cells off n)
  | _=>none
 | [.eptr j sz i off]=>match σ j with
  | some (.arr sz' rows)=>if sz'=sz then (match rows[i]? with
   | some r=>avX (zH r off n)
   | none=>none) else none
  | _=>none
 | [.ro cells]=>avX (zH cells 0 n)
 | [.up l sz i off]=>match σ l with
  | some (.uarr sz' rows)=>if sz'=sz then (match rows[i]? with
   | some r=>avX (zH r off n)
   | none=>none) else none
  | _=>none
 | _=>none
def aer (len esz:Nat):List AV→XE
 | [.ptr j off,.val (.int _ i)]=>if 0≤i∧i<len then some (.ptr j (off+i.toNat * esz),none) else none
 | [.eptr j sz r off,.val (.int _ i)]=>if 0≤i∧i<len then some (.eptr j sz r (off+i.toNat * esz),none) else none
 | [.ro cells,.val (.int _ i)]=>if 0≤i∧i<len then some (.ro (cells.drop (i.toNat * esz)),none) else none
 | [.up j sz r off,.val (.int _ i)]=>if 0≤i∧i<len then some (.up j sz r (off+i.toNat * esz),none) else none
 | _=>none
def aes (sz:Nat):List AV→XE
 | [.list sz' _ rows,.val (.int _ i)]=>if 0≤i∧i<rows.length∧sz'=sz then (match rows[i.toNat]? with
   | some r=>some (.ro r,none)
   | none=>none) else none
 | [.sl j sz' off len,.val (.int _ i)]=>if 0≤i∧i<len∧sz'=sz then some (.eptr j sz (off+i.toNat) 0,none) else none
 | [.us j sz' off len,.val (.int _ i)]=>if 0≤i∧i<len∧sz'=sz then some (.up j sz (off+i.toNat) 0,none) else none
 | [.lit sz' rows,.val (.int _ i)]=>if wh rows=true∧0≤i∧i<(zT rows).length∧sz'=sz then (match (zT rows)[i.toNat]? with
   | some r=>some (.ro r,none)
   | none=>none) else none
 | _=>none
def ahx (sz:Nat) (lo hi mx:Bool):List AV→XE
 | .list sz' _ rows::xs=>if rows.isEmpty=true∨sz'=sz then (match Ms rows.length lo hi mx xs with
   | some (l,h,f)=>some (.list sz' (if f=true then .full else .plain) ((rows.take h).drop l),none)
   | none=>none) else none
 | .sl j sz' off len::xs=>if sz'=sz then (match Ms len lo hi mx xs with
   | some (l,h,_)=>some (.sl j sz (off+l) (h-l),none)
   | none=>none) else none
 | .us j sz' off len::xs=>if sz'=sz then (match Ms len lo hi mx xs with
   | some (l,h,_)=>some (.us j sz (off+l) (h-l),none)
   | none=>none) else none
 | _=>none
def mkX (sz bytes:Nat) (zero:List AV) (d:Nat) (σ:Nat→Option zf):List AV→XE
 | [.val (.int _ l),.val (.int _ c)] =>
  if l=c∧0≤l∧l*bytes≤140737488355328∧l≤9223372036854775807∧zero.length=sz∧0<sz∧(σ d).isNone=true then
   some (.sl d sz 0 l.toNat,some (.arr sz (List.replicate l.toNat zero))) else none
 | _=>none
def akx (str:Bool):List AV→XE
 | [.list _ _ rows]=>if str=false then some (.val (.int .i64 rows.length),none) else none
 | [.sl _ _ _ len]=>if str=false then some (.val (.int .i64 len),none) else none
 | [.us _ _ _ len]=>if str=false then some (.val (.int .i64 len),none) else none
 | [.lit _ rows]=>if str=false then some (.val (.int .i64 rows.length),none) else none
 | [.val (.string s)]=>if str=true then some (.val (.int .i64 s.size),none) else none
 | _=>none
def S5 (call:FuncId→List AV→Option AV) (f:FuncId) (σ:Nat→Option zf) (xs:List AV):XE :=
 match yQ (vv σ) xs with
 | some args=>match call f args with
  | some r=>if xs.any gc=false∨pf r=true then some (r,none) else none
  | none=>none
 | none=>none
def aex (P:Program) (t:TypeId) (ok:Bool) (σ:Nat→Option zf):List AV→XE
 | [.mp j,y]=>match σ j,toV y with
  | some (.map es _),some kv=>match findM P t kv es with
   | some (v,b)=>some (if ok=true then .tuple [ofV v,.val (.bool b)] else ofV v,none)
   | none=>none
  | _,_=>none
 | _=>none
def ado (P:Program) (call:FuncId→List AV→Option AV) (d:Nat) (op:AOp) (xs:List AV) (σ:Nat→Option zf):XE :=
 match op with
 | .mov=>match xs with
  | [x]=>some (x,none)
  | _=>none
 | .pick=>match xs with
  | [.val (.bool t),a,b]=>some (cond t a b,none)
  | _=>none
 | .alloc cells=>if (σ d).isNone=true then some (.ptr d 0,some (.var cells)) else none
 | .box=>match xs with
  | [x]=>match cellsOf x with
   | some cs=>if (σ d).isNone=true then some (.ptr d 0,some (.var cs)) else none
   | none=>none
  | _=>none
 | .build zero places=>avX (orR (rm zero places xs) (ql zero places xs))
 | .mkslice sz n zero places=>match wt sz (List.replicate n zero) places xs,vt sz (List.replicate n zero) places xs with
  | some rows,_=>if zero.length=sz∧0<sz then some (.list sz .full rows,none) else none
  | none,some rows=>if zero.length=sz∧0<sz then some (.lit sz rows,none) else none
  | none,none=>none
 | .load n=>aiv σ n xs
 | .nilChk=>match xs with
  | [.ptr j off]=>some (.ptr j off,none)
  | [.eptr j sz i off]=>some (.eptr j sz i off,none)
  | [.up j sz i off]=>some (.up j sz i off,none)
  | [.ro cells]=>some (.ro cells,none)
  | [.fn f caps]=>some (.fn f caps,none)
  | _=>none
 | .bin op t ox oy=>aka P op t ox oy xs
 | .un op=>match xs with
  | [.val v]=>Jy (zr P (Op.unary op v))
  | _=>none
 | .conv s d'=>match xs with
  | [.val v]=>Jy (zr P (convert s d' v))
  | _=>none
 | .idxV t=>match xs with
  | [x,.val i]=>match toV x with
   | some a=>Jy (zr P (Instr.index t a i))
   | none=>none
  | _=>none
 | .sliceV _ lo hi mx=>match xs with
  | .val (.string s)::ys=>match Ms s.size lo hi mx ys with
   | some (l,h,_)=>if mx=false then some (.val (.string (s.extract l h)),none) else none
   | none=>none
  | _=>none
 | .mm b ts t=>match qz xs with
  | some vs=>Jy (zr P (if b=.max then Builtin.max_ ts t vs.toArray else Builtin.min_ ts t vs.toArray))
  | none=>none
 | .field off n=>match xs with
  | [.agg cells]=>avX (uS cells off n)
  | [.raw cells]=>avX (zH cells off n)
  | _=>none
 | .faddr off=>match xs with
  | [.ptr j o]=>some (.ptr j (o+off),none)
  | [.eptr j sz i o]=>some (.eptr j sz i (o+off),none)
  | [.up j sz i o]=>some (.up j sz i (o+off),none)
  | [.ro cells]=>some (.ro (cells.drop off),none)
  | _=>none
 | .iaddrA len esz=>aer len esz xs
 | .iaddrS sz=>aes sz xs
 | .idxA len esz n=>match xs with
  | [.agg cells,.val (.int _ i)]=>if 0≤i∧i<len then avX (uS cells (i.toNat * esz) n) else none
  | _=>none
 | .slice sz lo hi mx=>ahx sz lo hi mx xs
 | .mk sz bytes zero=>mkX sz bytes zero d σ xs
 | .len s=>akx s xs
 | .extract i=>match xs with
  | [.tuple vs]=>avX vs[i]?
  | _=>none
 | .mkfn f=>some (.fn (.func f) (xs.map strip),none)
 | .mkb f=>some (.fn (.via 0 #[] f false) (xs.map strip),none)
 | .call f=>S5 call f σ xs
 | .callv=>match xs with
  | .fn (.func f) caps::ys=>if yy P f=true then S5 call f σ (ys++caps) else none
  | .fn (.via _ _ f _) rs::ys=>if yy P f=true then S5 call f σ (rs++ys) else none
  | _=>none
 | .mksliceL sz n zero places=>match vt sz (List.replicate n zero) places xs with
  | some rows=>if zero.length=sz∧0<sz then some (.lit sz rows,none) else none
  | none=>none
 | .mkmap=>if (σ d).isNone=true then some (.mp d,some (.map #[] 0)) else none
 | .lookup t ok=>aex P t ok σ xs
 | .mkif t=>match xs with
  | [x]=>if rf x=true then some (.iface t (strip x),none) else none
  | _=>none
 | .callm name=>match xs with
  | .iface t x::ys=>match ue P t name with
   | some f=>if yy P f=true then S5 call f σ (x::ys) else none
   | none=>none
  | _=>none
 | _=>none
def ahB (n:Nat) (s:St) (dst:Option Nat):List AV→Option St
 | [.ptr j off,x]=>match lk s.sto j,cellsOf x with
  | some (.var cells),some cs=>if cs.length=n∧off+n≤cells.length∧dst.isNone=true then some {s with sto:=pt s.sto j (.var (splice cells off cs))} else none
  | _,_=>none
 | [.eptr j sz i off,x]=>match lk s.sto j,cellsOf x with
  | some (.arr sz' rows),some cs=>if sz'=sz∧cs.length=n∧off+n≤sz∧i<rows.length∧cs.all rf=true∧dst.isNone=true then
    (match rows[i]? with
    | some r=>some {s with sto:=pt s.sto j (.arr sz (rows.set i (splice r off (cs.map strip))))}
    | none=>none) else none
  | _,_=>none
 | [.up l sz i off,x]=>match lk s.sto l,cellsOf x with
  | some (.uarr sz' rows),some cs=>if sz'=sz∧cs.length=n∧off+n≤sz∧dst.isNone=true then
    (match rows[i]? with
    | some r=>some {s with sto:=pt s.sto l (.uarr sz (rows.set i (splice r off cs)))}
    | none=>none) else none
  | _,_=>none
 | _=>none
def Tn (σ:Nat→Option zf) (sz:Nat):AV→Option (List (List AV))
 | .list sz' _ rows=>if rows.isEmpty=true∨sz'=sz then some rows else none
 | .sl j sz' off len=>if sz'=sz then (match σ j with
   | some (.arr sz'' rows)=>if sz''=sz∧off+len≤rows.length then some ((rows.drop off).take len) else none
   | _=>none) else none
 | .us j sz' off len=>if sz'=sz then (match σ j with
   | some (.uarr sz'' rows)=>if sz''=sz∧off+len≤rows.length∧wh ((rows.drop off).take len)=true then some (zT ((rows.drop off).take len)) else none
   | _=>none) else none
 | .val (.string b)=>if sz=1 then some (b.data.toList.map fun x=>[.val (.int .u8 x.toNat)]) else none
 | .lit sz' rows=>if sz'=sz∧wh rows=true then some (zT rows) else none
 | _=>none
def PU (σ:Nat→Option zf) (sz:Nat):AV→Option (List (List AV))
 | .us j sz' off len=>if sz'=sz then (match σ j with
   | some (.uarr sz'' rows)=>if sz''=sz∧off+len≤rows.length then some ((rows.drop off).take len) else none
   | _=>none) else none
 | .lit sz' rows=>if sz'=sz then some rows else none
 | x=>Tn σ sz x
def aae (sz bytes:Nat) (s:St) (dst:Option Nat):List AV→Option St
 | [.list _ .full rows1,x]=>match PU (lk s.sto) sz x with
  | some rows2=>if 0<sz∧(rows1.length+rows2.length)*bytes≤140737488355328∧rows1.length+rows2.length≤9223372036854775807 then
    (match dst with
    | some d=>if rows1.isEmpty=true∧(lk s.sto (s.base+d)).isNone=true then
      some (((s.dg (s.base+d)).put (some d) (.us (s.base+d) sz 0 rows2.length)).new (some d) (some (.uarr sz (yC (s.base+d) rows2)))) else none
    | none=>none) else none
  | none=>none
 | [.us l sz1 off len,x]=>match PU (lk s.sto) sz x with
  | some rows2=>if 0<sz∧(len+rows2.length)*bytes≤140737488355328∧len+rows2.length≤9223372036854775807 then
    (match lk s.sto l,dst with
    | some (.uarr sz' rows1),some d=>if sz'=sz∧sz1=sz∧off=0∧len=rows1.length then
      some ({(s.dg l) with sto:=pt (s.dg l).sto l (.uarr sz (yC l (rows1++rows2)))}.put (some d) (.us l sz 0 (len+rows2.length))) else none
    | _,_=>none) else none
  | none=>none
 | _=>none
def Bc (sz n:Nat) (zero:List AV) (places:List Nat) (s:St) (dst:Option Nat) (xs:List AV):Option St :=
 match vt sz (List.replicate n zero) places xs,dst with
 | some rows,some d=>if zero.length=sz∧0<sz∧(lk s.sto (s.base+d)).isNone=true then
   some (((s.dg (s.base+d)).put (some d) (.us (s.base+d) sz 0 n)).new (some d) (some (.uarr sz (yC (s.base+d) rows)))) else none
 | _,_=>none
abbrev CI:=FuncId→List AV→St→Option (AV × St)
def DY (P:Program) (ci:CI) (f:FuncId) (xs:List AV) (s:St) (dst:Option Nat):Option St :=
 if yy P f=true then (match ci f xs s with
  | some (r,s')=>if s'.base=s.base then some (s'.put dst r) else none
  | none=>none) else none
def adH (sz bytes:Nat) (s:St) (dst:Option Nat):List AV→Option St
 | [.list sz1 m rows1,x]=>match Tn (lk s.sto) sz x with
  | some rows2=>if 0<sz∧(rows1.length+rows2.length)*bytes≤140737488355328∧rows1.length+rows2.length≤9223372036854775807 then
    (match m,dst with
    | .full,some d=>if (rows1.isEmpty=true∨sz1=sz)∧(lk s.sto (s.base+d)).isNone=true then some ((s.dg (s.base+d)).put (some d) (.list sz (.own (s.base+d)) (rows1++rows2))) else none
    | .own l,some d=>if sz1=sz∧(lk s.sto l).isNone=true then some ((s.dg l).put (some d) (.list sz (.own l) (rows1++rows2))) else none
    | _,_=>none) else none
  | none=>none
 | _=>none
def adX (σ:Nat→Option zf) (sz:Nat):AV→Option (List (List AV))
 | .val _=>none
 | x=>Tn σ sz x
def ah6 (sz:Nat) (s:St) (dst:Option Nat):List AV→Option St
 | [.sl j sz1 off len,x]=>if sz1=sz∧0<sz then (match adX (lk s.sto) sz x with
  | some rows2=>match lk s.sto j with
   | some (.arr sz' rows)=>if sz'=sz∧off+len≤rows.length∧rows2.length≤len then
     some (({s with sto:=pt s.sto j (.arr sz (rows.take off++rows2++rows.drop (off+rows2.length)))}).put dst (.val (.int .i64 (rows2.length:Nat)))) else none
   | _=>none
  | none=>none) else none
 | _=>none
section
variable {P:Program} {call:FuncId→List AV→Option AV} {ci:CI} {K:St→Prop} {s s':St} {xs:List AV} {dst:Option Nat}
def vEq:Value→Value→Bool
 | .bool a,.bool b=>a == b
 | .int k a,.int k' b=>decide (k=k')&&decide (a=b)
 | .string a,.string b=>decide (a=b)
 | .pointer none,.pointer none=>true
 | .slice none a b,.slice none c d=>decide (a=c)&&decide (b=d)
 | _,_=>false
def mEq:Mode→Mode→Bool
 | .plain,.plain=>true
 | .full,.full=>true
 | .own a,.own b=>decide (a=b)
 | _,_=>false
def fEq:Fn→Fn→Bool
 | .func a,.func b=>decide (a=b)
 | _,_=>false
mutual
def aaf:AV→AV→Bool
 | .undef,y=>match y with
  | .undef=>true
  | _=>false
 | .val a,y=>match y with
  | .val b=>vEq a b
  | _=>false
 | .agg a,y=>match y with
  | .agg b=>dH a b
  | _=>false
 | .tuple a,y=>match y with
  | .tuple b=>dH a b
  | _=>false
 | .list n m r,y=>match y with
  | .list n' m' r'=>decide (n=n')&&(mEq m m'&&Mp r r')
  | _=>false
 | .ro a,y=>match y with
  | .ro b=>dH a b
  | _=>false
 | .ptr a b,y=>match y with
  | .ptr c d=>decide (a=c)&&decide (b=d)
  | _=>false
 | .eptr a b c d,y=>match y with
  | .eptr a' b' c' d'=>decide (a=a')&&decide (b=b')&&decide (c=c')&&decide (d=d')
  | _=>false
 | .sl a b c d,y=>match y with
  | .sl a' b' c' d'=>decide (a=a')&&decide (b=b')&&decide (c=c')&&decide (d=d')
  | _=>false
 | .us a b c d,y=>match y with
  | .us a' b' c' d'=>decide (a=a')&&decide (b=b')&&decide (c=c')&&decide (d=d')
  | _=>false
 | .up a b c d,y=>match y with
  | .up a' b' c' d'=>decide (a=a')&&decide (b=b')&&decide (c=c')&&decide (d=d')
  | _=>false
 | .fn f c,y=>match y with
  | .fn f' c'=>fEq f f'&&dH c c'
  | _=>false
 | .iface t x,y=>match y with
  | .iface t' x'=>decide (t=t')&&aaf x x'
  | _=>false
 | .mp a,y=>match y with
  | .mp b=>decide (a=b)
  | _=>false
 | .lit n r,y=>match y with
  | .lit n' r'=>decide (n=n')&&Mp r r'
  | _=>false
 | .raw a,y=>match y with
  | .raw b=>dH a b
  | _=>false
def dH:List AV→List AV→Bool
 | [],y=>match y with
  | []=>true
  | _=>false
 | x::l,y=>match y with
  | z::m=>aaf x z&&dH l m
  | _=>false
def Mp:List (List AV)→List (List AV)→Bool
 | [],y=>match y with
  | []=>true
  | _=>false
 | x::l,y=>match y with
  | z::m=>dH x z&&Mp l m
  | _=>false
end
def akf:Option zf→Option zf→Bool
 | none,none=>true
 | some (.var a),some (.var b)=>dH a b
 | some (.arr n a),some (.arr m b)=>decide (n=m)&&Mp a b
 | some (.map a n),some (.map b m)=>a.isEmpty&&b.isEmpty&&decide (n=m)
 | _,_=>false
def akb (P:Program) (call:FuncId→List AV→Option AV) (op:AOp) (s:St) (dst:Option Nat) (xs:List AV):Option St :=
 match dst with
 | some d=>match ado P call (s.base+d) op xs (lk (del [s.base+d] s.sto)),lk s.env d with
  | some (x,e),some y=>if aaf y x&&akf (lk s.sto (s.base+d)) e then some s else none
  | _,_=>none
 | none=>none
def CH (σ:List (Nat × zf)) (base:Nat):List Nat→Bool
 | []=>true
 | d::ds=>(lk σ (base+d)).isNone&&CH σ base ds
def ahz (ds:List Nat) (s:St):Option St:=if CH s.sto s.base ds=true then some {s with env:=del ds s.env} else none
def aeA (P:Program) (t:TypeId) (s:St) (dst:Option Nat):List AV→Option St
 | [.mp j,y,x]=>match lk s.sto j,toV y,toV x with
  | some (.map es clock),some kv,some v=>match setM P t kv v es clock with
   | some (es',clock')=>if dst.isNone=true then some {s with sto:=pt s.sto j (.map es' clock')} else none
   | none=>none
  | _,_,_=>none
 | _=>none
def execOp (P:Program) (call:FuncId→List AV→Option AV) (ci:CI) (dst:Option Nat) (op:AOp) (xs:List AV) (s:St):Option St :=
 match op with
 | .store n=>ahB n s dst xs
 | .append sz b=>adH sz b s dst xs
 | .copy sz=>ah6 sz s dst xs
 | .appendU sz b=>aae sz b s dst xs
 | .mksliceU sz n z ps=>Bc sz n z ps s dst xs
 | .callI f=>DY P ci f xs s dst
 | .mapset t=>aeA P t s dst xs
 | .chk op=>akb P call op s dst xs
 | .start ds=>ahz ds s
 | .callvI=>match xs with
  | .fn (.func f) caps::ys=>DY P ci f (ys++caps) s dst
  | _=>none
 | .nilS neg=>match xs with
  | [x]=>match Kj x with
   | some (_+1)=>some (s.put dst (.val (.bool neg)))
   | _=>none
  | _=>none
 | .callM _ _=>none
 | .chkG _ _ _=>none
 | op=>match ado P call (s.base+dst.getD 0) op xs (lk s.sto) with
  | some (x,e)=>some ((s.put dst x).new dst e)
  | none=>none
end
abbrev aj7:=FuncId→Option (zd × List zq × Nat)
def SA (P:Program) (tbl:aj7):Prop:=∀ f ac ras N,tbl f=some (ac,ras,N)→zj P f=some (bare ac,ras,N)
theorem SA.nil {P:Program}:SA P (lk []):=fun _ _ _ _ h=>by cases h
theorem SA.cons {P:Program} {f:FuncId} {ac:zd} {ras:List zq} {N:Nat} {l:List (Nat × (zd × List zq × Nat))} (h:zj P f=some (bare ac,ras,N)) (hl:SA P (lk l)) :
  SA P (lk ((f,(ac,ras,N))::l)):=fun g a r n hg=>by
 simp only[lk] at hg
 split at hg
 ·rename_i e; subst e; cases hg; exact h
 ·exact hl _ _ _ _ hg
@[simp] theorem akC {b:Bool}:ofV (.bool b)=.val (.bool b):=rfl
@[simp] theorem aeQ {k:IntKind} {n:Int}:ofV (.int k n)=.val (.int k n):=rfl
@[simp] theorem aiQ {s:ByteArray}:ofV (.string s)=.val (.string s):=rfl
@[congr] theorem ahV {P:Program} {f:FuncId} {σ:Nat→Option zf} {xs xs':List AV} {k:AV→Option zf→Prop} (h:Unit→xs=xs'):wq P f σ xs k=wq P f σ xs' k:=by rw[h ()]
@[congr] theorem agf {P:Program} {os:List zi} {s s':St} {K:St→Prop} (h:Unit→s=s'):zl P os s K=zl P os s' K:=by rw[h ()]
@[simp] theorem ak7 {c:Prop} [Decidable c]:stm (if c then Mode.full else Mode.plain)=if c then Mode.full else Mode.plain:=by split<;>rfl
def Eo (len esz:Nat) (n:Option Nat) (x y:AV) (k:AV→Option zf→Prop):Prop :=
 match x,y with
 | .agg cells,.val (.int _ i)=>0≤i∧i<len∧xJ (uS cells (i.toNat * esz) n) k
 | _,_=>False
@[simp] theorem ajD {len esz:Nat} {n:Option Nat} {cells:List AV} {ik:IntKind} {i:Int} {k:AV→Option zf→Prop} :
  Eo len esz n (.agg cells) (.val (.int ik i)) k=(0≤i∧i<len∧xJ (uS cells (i.toNat * esz) n) k):=rfl
@[simp] theorem akE {P:Program} {s:St} {KS:St→Prop} {os:List zi} {d:Nat} {len esz:Nat} {n:Option Nat} {x y:Opd} :
  zl P (⟨some d,.idxA len esz n,[x,y],none⟩::os) s KS=Eo len esz n (ev s x) (ev s y) (xK P os s (some d) KS):=by
 show zK P (s.base+d) (.idxA len esz n) [ev s x,ev s y] (lk s.sto) (xK P os s (some d) KS)=_
 simp only[zK,Eo]
 cases ev s x<;>try rfl
 cases ev s y<;>try rfl
 rename_i v
 cases v<;>rfl
@[simp] theorem ai9 {cells:List AV} {off:Nat}:uS cells off none=cells[off]?:=rfl
open Go.ChangeShapes Go.WideShapes
inductive Ty where
 | bool
 | int (k:IntKind)
 | str
 | slice (e:Ty)
 | arr (n:Nat) (e:Ty)
 | st (fs:List Ty)
mutual
def Ty.sz:Ty→Nat
 | .bool=>1
 | .int _=>1
 | .str=>1
 | .slice _=>1
 | .arr n e=>n*e.sz
 | .st fs=>Ty.szs fs
def Ty.szs:List Ty→Nat
 | []=>0
 | t::ts=>t.sz+Ty.szs ts
end
def jq (P:Program) (f:TypeId→Option Ty):Nat→List Field→Option (List Ty)
 | _,[]=>some []
 | off,g::gs=>match f g.type with
  | some τ=>if g.offset=off∧P.cellsOf g.type=τ.sz then (jq P f (off+τ.sz) gs).map (τ::·) else none
  | none=>none
def dx (P:Program):Nat→TypeId→Option Ty
 | 0,_=>none
 | m+1,t=>match P.underlying t with
  | some .bool=>some .bool
  | some (.int k)=>some (.int k)
  | some .string=>some .str
  | some (.slice e)=>match dx P m e with
   | some τ=>if 0<τ.sz∧P.cellsOf e=τ.sz∧0<P.bytesOf e then some (.slice τ) else none
   | none=>none
  | some (.array n e)=>match dx P m e with
   | some τ=>if P.cellsOf e=τ.sz∧P.cellsOf t=n*τ.sz then some (.arr n τ) else none
   | none=>none
  | some (.struct fs)=>match jq P (dx P m) 0 fs.toList with
   | some τs=>if P.cellsOf t=Ty.szs τs then some (.st τs) else none
   | none=>none
  | _=>none
mutual

def TyC:Ty→List AV→Prop
 | .bool,cs=>∃ b,cs=[.val (.bool b)]
 | .int k,cs=>∃ n,cs=[.val (.int k n)]∧(Lit.int k n).wf=true
 | .str,cs=>∃ s:ByteArray,cs=[.val (.string s)]∧s.size≤reachBytes
 | .slice e,cs=>∃ rows:List (List AV),cs=[.list e.sz .plain rows]∧rows.length≤reachBytes∧∀ r∈rows,TyC e r
 | .arr n e,cs=>∃ rows:List (List AV),cs=rows.flatten∧rows.length=n∧∀ r∈rows,TyC e r
 | .st fs,cs=>ML fs cs
def ML:List Ty→List AV→Prop
 | [],cs=>cs=[]
 | τ::τs,cs=>∃ a b,cs=a++b∧TyC τ a∧ML τs b
end
theorem UY {α:Type} {n:Nat}:∀ {rows:List (List α)},(∀ r∈rows,r.length=n)→rows.flatten.length=rows.length*n
 | [],_=>by simp
 | r::rows,h=>by
  simp only[List.flatten_cons,List.length_append,List.length_cons,Nat.succ_mul]
  rw[UY (rows:=rows) (fun r hr=>h r (by simp[hr])),h r (by simp)]
  omega
mutual
theorem XY:∀ {τ:Ty} {cs:List AV},TyC τ cs→cs.length=τ.sz
 | .bool,_,h=>by obtain ⟨b,rfl⟩:=h; rfl
 | .int _,_,h=>by obtain ⟨b,rfl,_⟩:=h; rfl
 | .str,_,h=>by obtain ⟨b,rfl,_⟩:=h; rfl
 | .slice _,_,h=>by obtain ⟨b,rfl,_⟩:=h; rfl
 | .arr n e,_,h=>by
  obtain ⟨rows,rfl,rfl,h⟩:=h
  rw[UY (fun r hr=>XY (h r hr))]; rfl
 | .st fs,_,h=>MM (show ML fs _ from h)
theorem MM:∀ {τs:List Ty} {cs:List AV},ML τs cs→cs.length=Ty.szs τs
 | [],_,h=>by rw[show _=[] from h]; rfl
 | τ::τs,_,h=>by
  obtain ⟨a,b,rfl,h1,h2⟩:=h
  rw[List.length_append,XY h1,MM h2]; rfl
end
section
variable {H:Type} {enc:TypeId × Value→H} {P:Program} {w:World}
abbrev PI (ps:List MemPlace):Nat→Nat→Prop:=fun b o=>MemPlace.cell b o∈ps
def wb (w:World) (ps:List MemPlace) (xs:List AV) (cs:List Value):Prop :=
 xs.length=cs.length∧∀ (i:Nat) x,xs[i]?=some x→R0 (PI ps) w x (cs.getD i undef)∧single (cs.getD i undef)=true
theorem wb.mono {ps qs:List MemPlace} {xs:List AV} {cs:List Value} (h:wb w ps xs cs) (hs:∀ p∈ps,p∈qs):wb w qs xs cs :=
 ⟨h.1,fun i x hx=>⟨(h.2 i x hx).1.mono (fun _ _ hp=>hs _ hp) (fun _ _ _ _ h=>h),(h.2 i x hx).2⟩⟩
theorem wb.append {ps:List MemPlace} {xs ys:List AV} {cs ds:List Value} (h:wb w ps xs cs) (k:wb w ps ys ds):wb w ps (xs++ys) (cs++ds):=by
 refine ⟨by simp[h.1,k.1],fun i x hx=>?_⟩
 by_cases hi:i<xs.length
 ·rw[List.getElem?_append_left hi] at hx
  have:(cs++ds).getD i undef=cs.getD i undef:=by simp only[List.getD]; rw[List.getElem?_append_left (by rw[← h.1]; exact hi)]
  rw[this]; exact h.2 i x hx
 ·rw[List.getElem?_append_right (by omega)] at hx
  have:(cs++ds).getD i undef=ds.getD (i-xs.length) undef:=by simp only[List.getD]; rw[List.getElem?_append_right (by rw[← h.1]; omega),h.1]
  rw[this]; exact k.2 _ x hx
theorem wb.one {ps:List MemPlace} {x:AV} {v:Value} (h:R0 (PI ps) w x v) (hs:single v=true):wb w ps [x] [v]:=by
 refine ⟨rfl,fun i y hy=>?_⟩
 cases i with
 | zero=>simp at hy; subst hy; exact ⟨h,hs⟩
 | succ i=>simp at hy
theorem wb.nil {ps:List MemPlace}:wb w ps [] []:=⟨rfl,fun i x h=>by simp at h⟩
theorem R9 {ps:List MemPlace} {n:Nat}:∀ {rows:List (List AV)} {cs:List Value},cs.length=rows.length*n →
  (∀ i r,rows[i]?=some r→wb w ps r ((cs.drop (i*n)).take n))→wb w ps rows.flatten cs
 | [],cs,hl,_=>by
  have:cs=[]:=List.eq_nil_of_length_eq_zero (by simpa using hl)
  subst this
  exact wb.nil
 | r::rows,cs,hl,h=>by
  simp only[List.length_cons,Nat.succ_mul] at hl
  have h0:=h 0 r rfl
  simp only[Nat.zero_mul,List.drop_zero] at h0
  have ih:=R9 (ps:=ps) (n:=n) (rows:=rows) (cs:=cs.drop n) (by simp; omega) (fun i q hq=>by
   have:=h (i+1) q (by simpa using hq)
   rw[List.drop_drop]
   rwa [Nat.succ_mul,Nat.add_comm] at this)
  have:=h0.append ih
  rwa [List.take_append_drop] at this
theorem Tu {base:Nat} {a:Addr} {n:Nat} {cs:List Value} (h:w.cells? base a n=some cs):cs.length=n∧∀ i,i<n→w.cell? (a.add i)=cs[i]?:=by
 unfold World.cells? at h
 split at h
 ·refine ⟨by simpa using mapM_some_length h,fun i hi=>mapM_some_get h i i (by simp[hi])⟩
 ·cases h
abbrev jK (P:Program) (t:TypeId) (d:DataW H):Prop:=(d.weights P t).all (·≤reachBytes)=true
theorem Xp {P:Program} {e:TypeId}:∀ {ds:List (DataW H)},(DataW.weightsAll P e ds).all (·≤reachBytes)=true→∀ d∈ds,jK P e d
 | [],_,_,h=>by cases h
 | d::ds,h,q,hq=>by
  simp only[DataW.weightsAll,List.all_append,Bool.and_eq_true] at h
  rcases List.mem_cons.1 hq with rfl | hq
  ·exact h.1
  ·exact Xp h.2 q hq
theorem ZI {P:Program}:∀ {ts:List TypeId} {ds:List (DataW H)},(DataW.weightsEach P ts ds).all (·≤reachBytes)=true→∀ (i:Nat) t d,ts[i]?=some t→ds[i]?=some d→jK P t d
 | [],_,_,i,t,d,h1,_=>by simp at h1
 | t::ts,[],_,i,_,_,_,h2=>by simp at h2
 | t::ts,d::ds,h,i,t',d',h1,h2=>by
  simp only[DataW.weightsEach,List.all_append,Bool.and_eq_true] at h
  cases i with
  | zero=>simp at h1 h2; subst h1; subst h2; exact h.1
  | succ i=>simp at h1 h2; exact ZI h.2 i _ _ h1 h2
theorem c7 {α β:Type} {Q:Nat→α→β→Prop}:∀ {l:List α} (k:Nat),(∀ i a,l[i]?=some a→∃ b,Q (k+i) a b)→∃ m:List β,m.length=l.length∧∀ i a b,l[i]?=some a→m[i]?=some b→Q (k+i) a b
 | [],_,_=>⟨[],rfl,fun i a b h=>by simp at h⟩
 | a::l,k,h=>by
  obtain ⟨b,hb⟩:=h 0 a rfl
  obtain ⟨m,h1,h2⟩:=c7 (l:=l) (k+1) (fun i a ha=>by
   have:=h (i+1) a (by simpa using ha)
   rwa [show k+1+i=k+(i+1) by omega])
  refine ⟨b::m,by simp[h1],fun i a' b' ha hb'=>?_⟩
  cases i with
  | zero=>simp at ha hb'; subst ha; subst hb'; exact hb
  | succ i =>
   simp at ha hb'
   have:=h2 i a' b' ha hb'
   rwa [show k+1+i=k+(i+1) by omega] at this
theorem Xz {ps:List MemPlace} {n:Nat} {f:TypeId→Option Ty} {cs:List Value}:∀ {fs:List Field} {τs:List Ty} {off:Nat} {xs:List (DataW H × List MemPlace)},jq P f off fs=some τs→xs.length=fs.length→cs.length=off+Ty.szs τs →
  (∀ (i:Nat) (g:Field) x,fs[i]?=some g→xs[i]?=some x→(∀ p∈x.2,p∈ps)∧∀ τ,f g.type=some τ→∃ ys,TyC τ ys∧wb w x.2 ys ((cs.drop g.offset).take (P.cellsOf g.type))) →
  ∃ ys,ML τs ys∧wb w ps ys (cs.drop off)
 | [],τs,off,xs,h,_,hl,_=>by
  simp only[jq,Option.some.injEq] at h
  subst h
  simp only[Ty.szs,Nat.add_zero] at hl
  rw[List.drop_of_length_le (by omega)]
  exact ⟨[],rfl,wb.nil⟩
 | g::fs,τs,off,xs,h,hx,hl,hf=>by
  simp only[jq] at h
  split at h
  ·rename_i τ hτ
   split at h
   ·rename_i hc
    cases hr:jq P f (off+τ.sz) fs with
    | none=>simp[hr] at h
    | some τr =>
     simp only[hr,Option.map_some,Option.some.injEq] at h
     subst h
     cases xs with
     | nil=>simp at hx
     | cons x xs =>
      simp only[Ty.szs] at hl
      obtain ⟨h1,h2⟩:=hf 0 g x rfl rfl
      obtain ⟨ys,hy1,hy2⟩:=h2 τ hτ
      obtain ⟨zs,hz1,hz2⟩:=Xz (ps:=ps) (n:=n) hr (by simpa using hx) (by omega) (fun i g' x' hg hx'=>hf (i+1) g' x' (by simpa using hg) (by simpa using hx'))
      refine ⟨ys++zs,⟨ys,zs,rfl,hy1,hz1⟩,?_⟩
      have:=(hy2.mono h1).append hz2
      rw[hc.1,hc.2,← List.drop_drop] at this
      rwa [List.take_append_drop] at this
   ·cases h
  ·cases h
theorem ZS {held:Bool}:∀ (n m:Nat) (t:TypeId) (τ:Ty) (cs:List Value) (d:DataW H) (ps:List MemPlace),dx P m t=some τ →
  DataW.trod enc P w 0 (fun _=>true) held n t cs=some (d,ps)→jK P t d→∃ xs,TyC τ xs∧wb w ps xs cs
 | 0,_,_,_,_,_,_,_,h,_=>by simp[DataW.trod] at h
 | n+1,0,_,_,_,_,_,h,_,_=>by cases h
 | n+1,m+1,t,τ,cs,d,ps,hτ,h,hw=>by
  simp only[dx] at hτ
  split at hτ<;>rename_i hu
  ·cases hτ
   obtain ⟨b,rfl,hx⟩:=DataW.trod_bool hu h
   exact ⟨[.val (.bool b)],⟨b,rfl⟩,wb.one (.val _) rfl⟩
  ·cases hτ
   obtain ⟨k,rfl,hx,hwf⟩:=DataW.trod_int hu h
   exact ⟨[.val (.int _ k)],⟨k,rfl,hwf⟩,wb.one (.val _) rfl⟩
  ·cases hτ
   obtain ⟨s,rfl,hx,_⟩:=DataW.trod_string hu h
   simp only[Prod.mk.injEq] at hx
   obtain ⟨rfl,rfl⟩:=hx
   refine ⟨[.val (.string s)],⟨s,rfl,?_⟩,wb.one (.val _) rfl⟩
   simp[jK,DataW.weights] at hw
   exact hw
  ·rename_i e
   split at hτ
   ·rename_i σ hσ
    split at hτ
    ·rename_i hc
     cases hτ
     rcases DataW.trod_slice hu h with ⟨rfl,hx⟩ | ⟨a,len,cap,elems,rest,n',hn,rfl,hx,_,hlc,hcm,hlen,hel,_,_⟩
     ·exact ⟨[.list σ.sz .plain []],⟨[],rfl,by simp,by simp⟩,wb.one (.listNil _ _ _ _ (fun h=>by cases h) (fun _ h=>by cases h)) rfl⟩
     ·cases hn
      simp only[Prod.mk.injEq] at hx
      obtain ⟨rfl,rfl⟩:=hx
      simp only[jK,DataW.weights,hu,List.all_cons,List.all_append,Bool.and_eq_true,decide_eq_true_eq] at hw
      obtain ⟨hw1,hw2,_⟩:=hw
      have hsz:=Xp hw2
      obtain ⟨rows,hr1,hr2⟩:=c7 (l:=elems) (Q:=fun i y r=>TyC σ r∧∃ c,w.cells? 0 (a.add (i*P.cellsOf e)) (P.cellsOf e)=some c∧wb w y.2 r c) 0 (fun i y hy=>by
       have hi:i<len:=by have:=(List.getElem?_eq_some_iff.1 hy).1; omega
       have:=hel i hi
       rw[hy,Option.bind_eq_some_iff] at this
       obtain ⟨c,hc1,hc2⟩:=this
       obtain ⟨xs,hx1,hx2⟩:=ZS n m e σ c y.1 y.2 hσ hc2 (hsz y.1 (List.mem_map.2 ⟨y,List.mem_of_getElem? hy,rfl⟩))
       exact ⟨xs,hx1,c,by rw[Nat.zero_add]; exact hc1,hx2⟩)
      simp only[Nat.zero_add] at hr2
      have hlr:rows.length=len:=by omega
      refine ⟨[.list σ.sz .plain rows],⟨rows,rfl,?_,fun r hr=>?_⟩,wb.one ?_ rfl⟩
      ·have h1:(elems.length+rest.length)*P.bytesOf e≤reachBytes:=by simpa using hw1
       have h2:elems.length+rest.length≤(elems.length+rest.length)*P.bytesOf e:=Nat.le_mul_of_pos_right _ hc.2.2
       omega
      ·obtain ⟨i,hi⟩:=List.mem_iff_getElem?.1 hr
       have hil:i<elems.length:=by have:=(List.getElem?_eq_some_iff.1 hi).1; omega
       exact (hr2 i elems[i] r (by simp[hil]) hi).1
      ·by_cases h0:len=0
       ·have:rows=[]:=List.eq_nil_of_length_eq_zero (by omega)
        subst this
        subst h0
        exact .listNil _ _ _ _ (fun h=>by cases h) (fun _ h=>by cases h)
       ·have get:∀ (i:Nat) (r:List AV),rows[i]?=some r→∃ y c,elems[i]?=some y∧TyC σ r∧w.cells? 0 (a.add (i*P.cellsOf e)) (P.cellsOf e)=some c∧wb w y.2 r c:=fun i r hi=>by
         have hil:i<elems.length:=by have:=(List.getElem?_eq_some_iff.1 hi).1; omega
         obtain ⟨g1,c,g2,g3⟩:=hr2 i elems[i] r (by simp[hil]) hi
         exact ⟨elems[i],c,by simp[hil],g1,g2,g3⟩
        obtain ⟨b,o,spot⟩:=a
        have hspot:spot=none:=by
         obtain ⟨y,c,g1,g2,g3,g4⟩:=get 0 rows[0] (List.getElem?_eq_getElem (by omega))
         have g5:=(Tu g3).2 0 (by omega)
         have g6:=(Tu g3).1
         rw[List.getElem?_eq_getElem (by omega)] at g5
         simpa [Addr.add] using World.cell?_spot g5
        subst hspot
        have hget:∀ (i:Nat) (r:List AV) (j:Nat) (x:AV),rows[i]?=some r→r[j]?=some x→∃ y v,elems[i]?=some y∧i<len∧j<σ.sz∧w.cell? ⟨b,o+i*σ.sz+j,none⟩=some v∧R0 (PI y.2) w x v∧single v=true:=fun i r j x hi hj=>by
         obtain ⟨y,c,g1,g2,g3,g4⟩:=get i r hi
         obtain ⟨g5,g6⟩:=Tu g3
         have hjl:j<σ.sz:=by have:=(List.getElem?_eq_some_iff.1 hj).1; have:=XY g2; omega
         have g7:=g6 j (by omega)
         have hjc:j<c.length:=by omega
         rw[List.getElem?_eq_getElem hjc] at g7
         obtain ⟨k1,k2⟩:=g4.2 j x hj
         have:c.getD j undef=c[j]:=by simp[hjc]
         rw[this] at k1 k2
         refine ⟨y,c[j],g1,?_,hjl,?_,k1,k2⟩
         ·have:=(List.getElem?_eq_some_iff.1 hi).1; omega
         ·rw[← g7,hc.2.1,addr_add,addr_add]
        rw[← hlr]
        refine .list _ _ _ _ _ _ (fun i j=>((w.cell? ⟨b,o+i*σ.sz+j,none⟩).getD undef)) (by omega) (fun h=>by cases h) (fun _ h=>by cases h) (fun i r hi=>?_) (fun i r j x hi hj=>?_) (fun i r j x hi hj=>?_)
        ·obtain ⟨_,_,_,g2,_⟩:=get i r hi
         exact XY g2
        ·obtain ⟨y,v,g1,gi,gj,g2,g3,g4⟩:=hget i r j x hi hj
         rw[g2]
         refine ⟨?_,rfl,g4⟩
         refine List.mem_append_left _ (MemPlace.mem_row.2 ⟨i*σ.sz+j,?_,?_⟩)
         ·rw[hc.2.1]
          have h1:i+1≤elems.length+rest.length:=by omega
          have h2:=Nat.mul_le_mul_right σ.sz h1
          rw[Nat.succ_mul] at h2
          omega
         ·simp only[MemPlace.cell.injEq,true_and]; omega
        ·obtain ⟨y,v,g1,gi,gj,g2,g3,g4⟩:=hget i r j x hi hj
         rw[g2]
         refine g3.mono (fun b' o' hp=>?_) (fun _ _ _ _ h=>h)
         exact List.mem_append_right _ (List.mem_flatMap.2 ⟨y,List.mem_append_left _ (List.mem_of_getElem? g1),hp⟩)
    ·cases hτ
   ·cases hτ
  ·rename_i k e
   split at hτ
   ·rename_i σ hσ
    split at hτ
    ·rename_i hc
     cases hτ
     obtain ⟨xs,n',hn,hx,hcl,hxl,hel⟩:=DataW.trod_array hu h
     cases hn
     simp only[Prod.mk.injEq] at hx
     obtain ⟨rfl,rfl⟩:=hx
     simp only[jK,DataW.weights,hu] at hw
     have hsz:=Xp hw
     obtain ⟨rows,hr1,hr2⟩:=c7 (l:=xs) (Q:=fun i y r=>TyC σ r∧wb w y.2 r ((cs.drop (i*P.cellsOf e)).take (P.cellsOf e))) 0 (fun i y hy=>by
      have hi:i<k:=by have:=(List.getElem?_eq_some_iff.1 hy).1; omega
      have:=hel i hi
      rw[hy] at this
      rw[Nat.zero_add]
      exact ZS n m e σ _ y.1 y.2 hσ this (hsz y.1 (List.mem_map.2 ⟨y,List.mem_of_getElem? hy,rfl⟩)))
     simp only[Nat.zero_add] at hr2
     refine ⟨rows.flatten,⟨rows,rfl,by omega,fun r hr=>?_⟩,?_⟩
     ·obtain ⟨i,hi⟩:=List.mem_iff_getElem?.1 hr
      have hil:i<xs.length:=by have:=(List.getElem?_eq_some_iff.1 hi).1; omega
      exact (hr2 i xs[i] r (by simp[hil]) hi).1
     ·refine R9 (n:=σ.sz) (by rw[hcl,hc.2,hr1,hxl]) (fun i r hi=>?_)
      have hil:i<xs.length:=by have:=(List.getElem?_eq_some_iff.1 hi).1; omega
      have:=(hr2 i xs[i] r (by simp[hil]) hi).2
      rw[hc.1] at this
      exact this.mono (fun p hp=>List.mem_flatMap.2 ⟨xs[i],List.getElem_mem _,hp⟩)
    ·cases hτ
   ·cases hτ
  ·rename_i fs
   split at hτ
   ·rename_i τs hσ
    split at hτ
    ·rename_i hc
     cases hτ
     obtain ⟨xs,n',hn,hx,hcl,hxl,hel⟩:=DataW.trod_struct hu h
     cases hn
     simp only[Prod.mk.injEq] at hx
     obtain ⟨rfl,rfl⟩:=hx
     simp only[jK,DataW.weights,hu] at hw
     have:=Xz (P:=P) (w:=w) (ps:=xs.flatMap (·.2)) (n:=n) (cs:=cs) hσ (by simpa using hxl) (by rw[hcl,hc]; omega) (fun i g x hg hx=>by
      have hg':fs[i]?=some g:=by simpa using hg
      have h1:=hel i g hg'
      rw[hx] at h1
      refine ⟨fun p hp=>List.mem_flatMap.2 ⟨x,List.mem_of_getElem? hx,hp⟩,fun τ hτ=>?_⟩
      exact ZS n m g.type τ _ x.1 x.2 hτ h1 (ZI hw i g.type x.1 (by simp[hg']) (by simp[hx])))
     obtain ⟨ys,h1,h2⟩:=this
     exact ⟨ys,h1,by simpa using h2⟩
    ·cases hτ
   ·cases hτ
  ·cases hτ
end
def jc:Ty→AV→Prop
 | .arr n e,x=>∃ cs,x=.agg cs∧TyC (.arr n e) cs
 | .st fs,x=>∃ cs,x=.agg cs∧TyC (.st fs) cs
 | τ,x=>TyC τ [x]
def dE:List Ty→List AV→Prop
 | [],[]=>True
 | τ::τs,x::xs=>jc τ x∧dE τs xs
 | _,_=>False
section
variable {H:Type} {enc:TypeId × Value→H} {P:Program} {W:World}
theorem NQ {ps:List MemPlace} {xs:List AV} {cs:Array Value} (h:wb W ps xs cs.toList):R0 (PI ps) W (.agg xs) (.agg cs):=by
 obtain ⟨h1,h2⟩:=h
 simp only[Array.length_toList] at h1
 have hg:∀ i,cs.toList.getD i undef=cs.getD i undef:=fun i=>by simp[List.getD,Array.getD_eq_getD_getElem?]
 refine .agg _ _ h1.symm ?_ (fun i x hx=>?_)
 ·rw[Array.all_eq_true]
  intro i hi
  obtain ⟨_,h4⟩:=h2 i xs[i] (by simp[h1,hi])
  rw[hg] at h4
  simpa [hi] using h4
 ·obtain ⟨h3,_⟩:=h2 i x hx
  rw[hg] at h3
  exact h3
theorem DP {m:Nat} {t:TypeId} {τ:Ty} {v:Value} {d:DataW H} {ps:List MemPlace} {r:Reach} {base:Nat} (hτ:dx P m t=some τ) (hok:Value.okWide P W r base t v)
  (h:DataW.Trod enc P W 0 (fun _=>true) true t v d ps) (hw:jK P t d):∃ x,jc τ x∧R0 (PI ps) W x v:=by
 obtain ⟨n,hn⟩:=h
 obtain ⟨xs,h1,h2⟩:=ZS n m t τ _ d ps hτ hn hw
 have one:v.cells=#[v]→(∃ x,xs=[x])→∃ x,TyC τ [x]∧R0 (PI ps) W x v:=by
  rintro hv ⟨x,rfl⟩
  obtain ⟨h3,_⟩:=h2.2 0 x rfl
  rw[hv] at h3
  exact ⟨x,h1,h3⟩
 cases m with
 | zero=>cases hτ
 | succ m =>
  simp only[dx] at hτ
  split at hτ<;>rename_i hu
  ·cases hτ
   obtain ⟨b,rfl⟩:=h1
   refine one ?_ ⟨_,rfl⟩
   simp only[Value.okWide,hu,Cell.okWide,Cell.ok] at hok
   cases v<;>first | rfl | exact hok.elim
  ·cases hτ
   obtain ⟨b,rfl,hb⟩:=h1
   have:=one ?_ ⟨_,rfl⟩
   ·exact this
   simp only[Value.okWide,hu,Cell.okWide,Cell.ok] at hok
   cases v<;>first | rfl | exact hok.elim
  ·cases hτ
   obtain ⟨b,rfl,hb⟩:=h1
   have:=one ?_ ⟨_,rfl⟩
   ·exact this
   simp only[Value.okWide,hu,Cell.okWide,Cell.ok] at hok
   cases v<;>first | rfl | exact hok.elim
  ·split at hτ
   ·split at hτ
    ·cases hτ
     obtain ⟨rows,rfl,hb⟩:=h1
     have:=one ?_ ⟨_,rfl⟩
     ·exact this
     simp only[Value.okWide,hu,Cell.okWide,Cell.ok] at hok
     cases v<;>first | rfl | exact hok.elim
    ·cases hτ
   ·cases hτ
  ·split at hτ
   ·split at hτ
    ·cases hτ
     simp only[Value.okWide,hu] at hok
     obtain ⟨cs,rfl,_⟩:=hok
     exact ⟨.agg xs,⟨xs,rfl,h1⟩,NQ h2⟩
    ·cases hτ
   ·cases hτ
  ·split at hτ
   ·split at hτ
    ·cases hτ
     simp only[Value.okWide,hu] at hok
     obtain ⟨cs,rfl,_⟩:=hok
     exact ⟨.agg xs,⟨xs,rfl,h1⟩,NQ h2⟩
    ·cases hτ
   ·cases hτ
  ·cases hτ
theorem SC {m:Nat} {r:Reach} {base:Nat}:∀ {ts:List TypeId} {τs:List Ty} {vs:List Value} {ds:List (DataW H)} {ps:List MemPlace},yQ (dx P m) ts=some τs →
  (∀ (j:Nat) t v,ts[j]?=some t→vs[j]?=some v→Value.okWide P W r base t v)→DataW.TrodAll enc P W 0 (fun _=>true) true ts vs ds ps →
  (∀ (j:Nat) t d,ts[j]?=some t→ds[j]?=some d→jK P t d) →
  ∃ xs,dE τs xs∧xs.length=vs.length∧ds.length=ts.length∧∀ (i:Nat) x,xs[i]?=some x→R0 (PI ps) W x (vs.getD i undef)
 | [],τs,vs,ds,ps,h,_,hA,_=>by
  simp only[yQ,Option.some.injEq] at h
  subst h
  match vs,ds,hA with
  | [],[],_=>exact ⟨[],trivial,rfl,rfl,fun i x hx=>by simp at hx⟩
 | t::ts,τs,vs,ds,ps,h,hv,hA,hs=>by
  simp only[yQ] at h
  split at h
  ·rename_i τ hτ
   cases hr:yQ (dx P m) ts with
   | none=>simp[hr] at h
   | some σs =>
    simp only[hr,Option.map_some,Option.some.injEq] at h
    subst h
    match vs,ds,hA with
    | v::vs,d::ds,⟨p,q,h1,h2,e⟩ =>
     obtain ⟨x,a1,a2⟩:=DP hτ (hv 0 t v rfl rfl) h1 (hs 0 t d rfl rfl)
     obtain ⟨xs,b1,b2,b3,b4⟩:=SC hr (fun j t' v' ht hv'=>hv (j+1) t' v' (by simpa using ht) (by simpa using hv')) h2 (fun j t' d' ht hd=>hs (j+1) t' d' (by simpa using ht) (by simpa using hd))
     subst e
     refine ⟨x::xs,⟨a1,b1⟩,by simp[b2],by simp[b3],fun i y hy=>?_⟩
     cases i with
     | zero =>
      simp at hy
      subst hy
      simp only[List.getD_cons_zero]
      exact a2.mono (fun _ _ hp=>List.mem_append_left _ hp) (fun _ _ _ _ h=>h)
     | succ i =>
      simp at hy
      simp only[List.getD_cons_succ]
      exact (b4 i y hy).mono (fun _ _ hp=>List.mem_append_right _ hp) (fun _ _ _ _ h=>h)
  ·cases h
theorem Yh {W':World} (hl:laidOutB P=true) (hb:Below W.heap.size W W'):∀ {ts:List TypeId} {vs:List Value} {ds:List (DataW H)} {ps:List MemPlace},
  (∀ t∈ts,P.readableRec t=true∧t<P.types.size)→DataW.TrodAll enc P W 0 (fun _=>true) true ts vs ds ps→(∀ x∈ps,x.block<W.heap.size) →
  DataW.TrodAll enc P W' 0 (fun b=>decide (b<W.heap.size)) true ts vs ds ps
 | [],[],[],_,_,h,_=>h
 | t::ts,v::vs,d::ds,_,ht,⟨p,q,h1,h2,e⟩,hlt=>by
  subst e
  exact ⟨p,q,Below.trod hl (ht t (by simp)).1 (ht t (by simp)).2 h1 hb (fun x hx=>hlt x (List.mem_append_left _ hx)),
   Yh hl hb (fun t h=>ht t (by simp[h])) h2 (fun x hx=>hlt x (List.mem_append_right _ hx)),rfl⟩
theorem CW {f:FuncId} {fn:Func} {s:ChangeSpec} {tb:TypeId} {τs:List Ty} (hl:laidOutB P=true) (hty:yQ (dx P 20) fn.params.toList=some τs)
  (hread:(fn.params.toList.all fun t=>P.readableRec t&&decide (t<P.types.size))=true) (hres:fn.resultTypes=#[tb]) (hub:P.underlying tb=some .bool) (hvars:s.vars=[])
  (hfn:∀ ds:List (DataW H),ds.length=fn.params.toList.length→(s.fn H (ds++[])).results=[.lit (.bool true)]∧(s.fn H (ds++[])).args=ds∧(s.fn H (ds++[])).vars=[])
  (hcall:∀ xs,dE τs xs→ze P f xs (bv true)) {base:Nat} {args:Array Value} {ds gs:List (DataW H)} {before:List MemPlace}
  (hval:∀ (j:Nat) t v,fn.params[j]?=some t→args[j]?=some v→Value.okWide P W .any base t v)
  (hW:DataW.Whole enc P fn.params.toList s.vars false W args.toList ds gs before)
  (hsz:(DataW.weightsEach P (fn.params.toList++s.plain.varTypes P) (ds++gs)).all (·≤reachBytes)=true) :
  Calls P f args W fun e W'=>∃ v,e=.returned v∧s.post enc P fn false true false false W args v W':=by
 have hW':=hW
 obtain ⟨p,q,hA,hV,rfl,_,_⟩:=hW
 rw[hvars] at hV
 obtain ⟨rfl,rfl⟩:=trodVars_none hV
 have hsz':∀ (j:Nat) t d,fn.params.toList[j]?=some t→ds[j]?=some d→jK P t d:=fun j t d ht hd=>by
  refine ZI hsz j t d ?_ ?_
  ·rw[List.getElem?_append_left (List.getElem?_eq_some_iff.1 ht).1]; exact ht
  ·rw[List.getElem?_append_left (List.getElem?_eq_some_iff.1 hd).1]; exact hd
 obtain ⟨xs,h1,h2,h3,h4⟩:=SC (r:=.any) (base:=base) hty (fun j t v ht hv=>hval j t v (by simpa using ht) (by simpa using hv)) hA hsz'
 have hlt:∀ x∈p,x.block<W.heap.size:=fun x hx=>by simpa using hW'.lt x (List.mem_append_left _ hx)
 refine (hcall xs h1 (PI p) args W (fun b o hb=>hlt _ hb) (by simp[h2]) (fun i x hx=>?_)).mono fun e W' ⟨v,he,hb,hR⟩=>?_
 ·have:=h4 i x hx
  have e:args.toList.getD i undef=args.getD i undef:=by simp[List.getD,Array.getD_eq_getD_getElem?]
  rwa [e] at this
 ·have hv:v=.bool true:=R0.val_eq hR
  subst hv
  obtain ⟨f1,f2,f3⟩:=hfn ds h3
  have hread':∀ t∈fn.params.toList,P.readableRec t=true∧t<P.types.size:=fun t ht=>by
   have:=List.all_eq_true.1 hread t ht
   simpa using this
  refine ⟨_,he,ds,[],p++[],[]++[],p,[],hW',?_,?_,?_,hb.frame _,fun h=>by cases h⟩
  ·rw[f1,hres]
   exact trodAll_mk1 (shut_bool hub _)
  ·rw[f2]; exact Yh hl hb hread' hA hlt
  ·rw[f3,hvars]; rfl
end
theorem mL {α:Type} {τ:Ty} (f:α→List AV) (Q:α→Prop) (one:∀ r,TyC τ r→∃ x,r=f x∧Q x):∀ {rows:List (List AV)},(∀ r∈rows,TyC τ r)→∃ a:List α,rows=a.map f∧∀ x∈a,Q x
 | [],_=>⟨[],rfl,by simp⟩
 | r::rows,h=>by
  obtain ⟨a,rfl,h2⟩:=mL f Q one (rows:=rows) (fun r hr=>h r (by simp[hr]))
  obtain ⟨x,rfl,h3⟩:=one r (h r (by simp))
  exact ⟨x::a,rfl,by simpa using ⟨h3,h2⟩⟩
theorem an2 {a b:Ty} {xs:List AV} (h:dE [a,b] xs):∃ x y,xs=[x,y]∧jc a x∧jc b y:=by
 match xs,h with
 | [x,y],h=>exact ⟨x,y,rfl,h.1,h.2.1⟩
theorem AV.imp_nil {sz sz':Nat} {m':Mode} (hm:m'=.plain):AV.imp (.list sz .full []) (.list sz' m' []):=fun I w v h=>by
 subst hm
 cases h with
 | listNil _ _ a cap hm ho=>exact .listNil _ _ _ _ (by simp) (by simp)
 | list _ _ _ b o cap g h1 h2 h3 h4 h5 h6 =>
  exact .listNil _ _ _ _ (by simp) (by simp)
theorem AV.imp_tuple2 {x x' y:AV} (h:AV.imp x x'):AV.imp (.tuple [x,y]) (.tuple [x',y]):=fun I w v hv=>by
 cases hv with
 | tuple cells vs hs hc =>
  refine .tuple _ _ (by simpa using hs) fun i c hi=>?_
  match i,hi with
  | 0,hi=>simp at hi; subst hi; exact h _ _ _ (hc 0 x rfl)
  | 1,hi=>simp at hi; subst hi; exact hc 1 y rfl
  | i+2,hi=>simp at hi
attribute [simp] GZ
@[simp] theorem aju {σ:Nat→Option zf} {s:St}:gp σ [] s=true:=rfl
@[simp] theorem agC {sz by_ d n sz':Nat} {m:Mode} {rows:List (List AV)} {s:St} {K:St→Prop} :
  uY sz by_ s (some d) K [.list n .full [],.list sz' m rows]=((rows=[]∨sz'=sz)∧0<sz∧rows.length*by_≤140737488355328∧rows.length≤9223372036854775807∧lk s.sto (s.base+d)=none ∧
   K (((s.dg (s.base+d)).put (some d) (.us (s.base+d) sz 0 rows.length)).new (some d) (some (.uarr sz (yC (s.base+d) rows))))):=by
 simp[uY,wF,xb]
@[simp] theorem agb {sz by_ d l sz1 off len sz':Nat} {m:Mode} {rows1 rows:List (List AV)} {s:St} {K:St→Prop} (h:lk s.sto l=some (.uarr sz rows1)) :
  uY sz by_ s (some d) K [.us l sz1 off len,.list sz' m rows]=((rows=[]∨sz'=sz)∧0<sz∧(len+rows.length)*by_≤140737488355328∧len+rows.length≤9223372036854775807∧sz1=sz∧off=0∧len=rows1.length ∧
   K ({(s.dg l) with sto:=pt (s.dg l).sto l (.uarr sz (yC l (rows1++rows)))}.put (some d) (.us l sz 0 (len+rows.length)))):=by
 simp[uY,wF,xb,h]
@[simp] theorem aky {s:St} {d:Nat} {e:zf}:s.new (some d) (some e)=⟨s.env,pt s.sto (s.base+d) e,s.out,s.base⟩:=rfl
attribute [simp] jC tup
def Sb (ras:List zq) (b:Nat) (K:AV→St→Prop):Exit→St→Prop:=fun e s'=>(e=.normal∨e=.ret)∧∃ xs e0 o0,yQ (jC s') ras=some xs∧s'.out=e0::o0∧K (tup xs) {env:=e0,sto:=s'.sto,out:=o0,base:=b}
@[simp] theorem akH {ras:List zq} {b:Nat} {K:AV→St→Prop} {env e0:List (Nat × AV)} {sto:List (Nat × zf)} {o0:List (List (Nat × AV))} {B:Nat} :
  Sb ras b K .ret ⟨env,sto,e0::o0,B⟩=∃ xs,yQ (jC ⟨env,sto,e0::o0,B⟩) ras=some xs∧K (tup xs) ⟨e0,sto,o0,b⟩:=by
 simp only[Sb,eq_iff_iff]
 constructor
 ·rintro ⟨_,xs,e1,o1,h1,h2,h3⟩
  cases h2
  exact ⟨xs,h1,h3⟩
 ·rintro ⟨xs,h1,h2⟩
  exact ⟨.inr trivial,xs,_,_,h1,rfl,h2⟩
@[simp] theorem ahZ {ras:List zq} {b:Nat} {K:AV→St→Prop} {env e0:List (Nat × AV)} {sto:List (Nat × zf)} {o0:List (List (Nat × AV))} {B:Nat} :
  Sb ras b K .normal ⟨env,sto,e0::o0,B⟩=∃ xs,yQ (jC ⟨env,sto,e0::o0,B⟩) ras=some xs∧K (tup xs) ⟨e0,sto,o0,b⟩:=by
 simp only[Sb,eq_iff_iff]
 constructor
 ·rintro ⟨_,xs,e1,o1,h1,h2,h3⟩
  cases h2
  exact ⟨xs,h1,h3⟩
 ·rintro ⟨xs,h1,h2⟩
  exact ⟨.inl trivial,xs,_,_,h1,rfl,h2⟩
theorem nu {P:Program} {f:FuncId} {ac:zd} {ras:List zq} {N:Nat} {args:List AV} {s:St} {K:AV→St→Prop} (B:Nat) (ht:zj P f=some (bare ac,ras,N)) (hn:args.length≤N)
  (h:awp P ac ⟨qo 0 args,s.sto,s.env::s.out,B⟩ (Sb ras s.base K)):yH P f args s K:=ahy B ht hn h
@[simp] theorem agD {sz by_ d sz1 sz':Nat} {m:Mode} {rows1 rows:List (List AV)} {s:St} {K:St→Prop} :
  yY sz by_ s (some d) K [.list sz1 .full rows1,.list sz' m rows]=((rows=[]∨sz'=sz)∧0<sz∧(rows1.length+rows.length)*by_≤140737488355328∧rows1.length+rows.length≤9223372036854775807 ∧
   (rows1=[]∨sz1=sz)∧lk s.sto (s.base+d)=none∧K ((s.dg (s.base+d)).put (some d) (.list sz (.own (s.base+d)) (rows1++rows)))):=by
 simp[yY,xb]
@[simp] theorem ahU {sz by_ d l sz1 sz':Nat} {m:Mode} {rows1 rows:List (List AV)} {s:St} {K:St→Prop} :
  yY sz by_ s (some d) K [.list sz1 (.own l) rows1,.list sz' m rows]=((rows=[]∨sz'=sz)∧0<sz∧(rows1.length+rows.length)*by_≤140737488355328∧rows1.length+rows.length≤9223372036854775807 ∧
   sz1=sz∧lk s.sto l=none∧K ((s.dg l).put (some d) (.list sz (.own l) (rows1++rows)))):=by
 simp[yY,xb]
@[simp] theorem alh {l k sz:Nat} {rows:List (List AV)}:dg l (.list sz (.own k) rows)=if k=l then .list sz .plain rows else .list sz (.own k) rows:=rfl
@[simp] theorem alX {l:Nat}:dg l∘iv=iv:=rfl
section
variable {P:Program} {t:TypeId} {ox oy:Operand} {k k':IntKind} {a b:Int} {K:AV→Option zf→Prop}
theorem tR (h:b≠0):ye P .quo t ox oy [.val (.int k a),.val (.int k b)] K=K (.val (.int k (k.wrap (a.tdiv b)))) none:=by
 simp[ye,toV,zr,eqGuard,binOp,Op.intDiv,h,y5,ofV,xm,bind,Sem.bind,pure]
theorem qk (h:b≠0):ye P .rem t ox oy [.val (.int k a),.val (.int k b)] K=K (.val (.int k (a.tmod b))) none:=by
 simp[ye,toV,zr,eqGuard,binOp,Op.intDiv,h,y5,ofV,xm,bind,Sem.bind,pure]
def sX (op:BinOp) (k:IntKind) (a b:Int):Int :=
 match op with
 | .and=>k.wrap (BitVec.ofInt k.bits a &&& BitVec.ofInt k.bits b).toNat
 | .or=>k.wrap (BitVec.ofInt k.bits a ||| BitVec.ofInt k.bits b).toNat
 | .xor=>k.wrap (BitVec.ofInt k.bits a ^^^ BitVec.ofInt k.bits b).toNat
 | _=>k.wrap (BitVec.ofInt k.bits a &&& ~~~BitVec.ofInt k.bits b).toNat
theorem aaL:ye P .and t ox oy [.val (.int k a),.val (.int k b)] K=K (.val (.int k (sX .and k a b))) none:=by
 simp[ye,toV,zr,eqGuard,binOp,Op.intBits,sX,y5,ofV,xm,bind,Sem.bind,pure]
theorem ad9:ye P .or t ox oy [.val (.int k a),.val (.int k b)] K=K (.val (.int k (sX .or k a b))) none:=by
 simp[ye,toV,zr,eqGuard,binOp,Op.intBits,sX,y5,ofV,xm,bind,Sem.bind,pure]
theorem aaU:ye P .xor t ox oy [.val (.int k a),.val (.int k b)] K=K (.val (.int k (sX .xor k a b))) none:=by
 simp[ye,toV,zr,eqGuard,binOp,Op.intBits,sX,y5,ofV,xm,bind,Sem.bind,pure]
theorem JN:ye P .andNot t ox oy [.val (.int k a),.val (.int k b)] K=K (.val (.int k (sX .andNot k a b))) none:=by
 simp[ye,toV,zr,eqGuard,binOp,Op.intBits,sX,y5,ofV,xm,bind,Sem.bind,pure]
theorem xY (h:¬ b<0):ye P .shl t ox oy [.val (.int k a),.val (.int k' b)] K=K (.val (.int k (k.wrap (a*2^(min b.toNat k.bits))))) none:=by
 simp[ye,toV,zr,eqGuard,binOp,Op.shift,h,y5,ofV,xm,bind,Sem.bind,pure]
theorem wG (h:¬ b<0):ye P .shr t ox oy [.val (.int k a),.val (.int k' b)] K=K (.val (.int k (a.fdiv (2^(min b.toNat k.bits))))) none:=by
 simp[ye,toV,zr,eqGuard,binOp,Op.shift,h,y5,ofV,xm,bind,Sem.bind,pure]
theorem Fo {x y:ByteArray}:(x.toList == y.toList)=decide (x=y):=by
 have:x.toList=y.toList↔x=y:=by
  constructor
  ·intro h
   have h1:x.data.toList=y.data.toList:=by simpa [ByteArray.toList_eq] using h
   cases x; cases y
   congr 1
   exact Array.ext' h1
  ·rintro rfl; rfl
 by_cases h:x=y
 ·subst h; simp
 ·have:¬ x.toList=y.toList:=fun e=>h (this.1 e)
  simp[h,this]
theorem G2 {j o:Nat} (h:gd P t=true):ye P .neq t ox oy [.ptr j o,.val (.pointer none)] K=K (bv true) none:=by
 simp[ye,toV,Xb,Ub,h,xJ]
theorem aea {cs:List AV} (h:gd P t=true):ye P .eql t ox oy [.ro cs,.val (.pointer none)] K=K (bv false) none:=by
 simp[ye,toV,Xb,Ub,h,xJ]
theorem aeb {cs:List AV} (h:gd P t=true):ye P .neq t ox oy [.ro cs,.val (.pointer none)] K=K (bv true) none:=by
 simp[ye,toV,Xb,Ub,h,xJ]
theorem Co {x y:ByteArray}:ye P .eql t ox oy [.val (.string x),.val (.string y)] K=K (bv (decide (x=y))) none:=by
 simp only[ye,toV,eqGuard,binOp,Op.stringOp,y5,ofV,xm,bind,pure,Fo]
 rfl
theorem Cp {x y:ByteArray}:ye P .neq t ox oy [.val (.string x),.val (.string y)] K=K (bv (!decide (x=y))) none:=by
 simp only[ye,toV,eqGuard,binOp,Op.stringOp,y5,ofV,xm,bind,pure,Fo]
 rfl
theorem Cn {x y:ByteArray} (h:((x.size+y.size:Nat):Int)≤9223372036854775807):ye P .add t ox oy [.val (.string x),.val (.string y)] K=K (.val (.string (x++y))) none:=by
 have h2:¬ ((x.size+y.size:Nat):Int) > IntKind.i64.max:=by
  have:IntKind.i64.max=9223372036854775807:=rfl
  omega
 simp only[ye,toV,eqGuard,binOp,Op.stringOp,y5,ofV,xm,bind,pure,if_neg h2]
 rfl
end
section
variable {P:Program} {s:St} {KS:St→Prop} {os:List zi} {d:Nat} {k k':IntKind}
theorem Cb {ta tb:TypeId} {u:TypeDesc} {n:Int} (ha:P.underlying ta=some u) (hb:P.underlying tb=some (.int k')):jQ P ta tb (.val (.int k n))=some (.val (.int k' (k'.wrap n))):=by
 simp only[jQ,convert,zO,yD,ha,hb,Option.bind_some]
 rfl
theorem af2 {n:Int}:unA P .neg (.val (.int k n))=some (.val (.int k (k.wrap (0-n)))):=rfl
theorem af3 {n:Int}:unA P .xor (.val (.int k n))=some (.val (.int k (sX .xor k (if k.signed then -1 else k.max) n))):=rfl
def Yu (x:ByteArray) (k:Nat):Nat:=(x.data[k]?.getD 0).toNat
def idxA (P:Program) (t:TypeId) (x:AV) (y:AV):Option AV :=
 match toV x,y with
 | some a,.val i=>(zr P (Instr.index t a i)).map ofV
 | _,_=>none
theorem abM {t:TypeId} {x y:Opd}:zl P (⟨some d,.idxV t,[x,y],none⟩::os) s KS=mI (idxA P t (ev s x) (ev s y)) P os s d KS:=by
 show zK P (s.base+d) (.idxV t) [ev s x,ev s y] (lk s.sto) (xK P os s (some d) KS)=_
 cases hy:ev s y<;>cases hx:toV (ev s x)<;>simp only[zK,idxA,hx,mI]
 rename_i v a
 cases zr P (Instr.index t a v)<;>rfl
theorem TI {t:TypeId} (ht:P.underlying t=some .string) {xs:ByteArray} {ik:IntKind} {i:Int} (h0:0≤i) (h1:i<xs.size):idxA P t (.val (.string xs)) (.val (.int ik i))=some (.val (.int .u8 (Yu xs i.toNat))):=by
 have h2:i.toNat<xs.size:=by omega
 simp only[idxA,toV,Instr.index,asIntOf,zO,yD,ht,zQ,Option.bind_some,if_pos h0]
 rw[getElem?_pos xs i.toNat h2]
 have:Yu xs i.toNat=(xs[i.toNat]'h2).toNat:=by
  unfold Yu
  rw[Array.getElem?_eq_getElem (show i.toNat<xs.data.size from h2)]
  rfl
 rw[this]
 rfl
def QE (lo hi mx:Bool) (x:AV) (ys:List AV) (k:AV→Option zf→Prop):Prop :=
 match x with
 | .val (.string s)=>vL s.size lo hi mx ys fun l h _=>mx=false∧k (.val (.string (s.extract l h))) none
 | _=>False
theorem ER {t:TypeId} {lo hi mx:Bool} {x:Opd} {xs:List Opd}:zl P (⟨some d,.sliceV t lo hi mx,x::xs,none⟩::os) s KS=QE lo hi mx (ev s x) (xs.map (ev s)) (xK P os s (some d) KS):=by
 show zK P (s.base+d) (.sliceV t lo hi mx) (ev s x::xs.map (ev s)) (lk s.sto) (xK P os s (some d) KS)=_
 simp only[zK,QE]
 cases ev s x<;>try rfl
 rename_i v
 cases v<;>rfl
theorem JO {lo hi mx:Bool} {x:ByteArray} {ys:List AV} {k:AV→Option zf→Prop}:QE lo hi mx (.val (.string x)) ys k=vL x.size lo hi mx ys fun l h _=>mx=false∧k (.val (.string (x.extract l h))) none:=rfl
theorem ux {xs:List Opd} {x:Opd} {d:Option Nat} {n:String}:zl P (⟨d,.callm n,x::xs,none⟩::os) s KS=(match ev s x with | .iface t r=>(match ue P t n with | some f=>yy P f=true∧wq P f (lk s.sto) (r::xs.map (ev s)) (xK P os s d KS) | none=>False) | _=>False):=by
 show zK P (s.base+d.getD 0) (.callm n) (ev s x::xs.map (ev s)) (lk s.sto) (xK P os s d KS)=_
 simp only[zK]
 cases ev s x<;>try rfl
theorem Bx {xs:List Opd} {x:Opd} {d:Option Nat}:zl P (⟨d,.callv,x::xs,none⟩::os) s KS=(match ev s x with | .fn (.func f) caps=>yy P f=true∧wq P f (lk s.sto) (xs.map (ev s)++caps) (xK P os s d KS) | .fn (.via _ _ f _) rs=>yy P f=true∧wq P f (lk s.sto) (rs++xs.map (ev s)) (xK P os s d KS) | _=>False):=by
 show zK P (s.base+d.getD 0) .callv (ev s x::xs.map (ev s)) (lk s.sto) (xK P os s d KS)=_
 simp only[zK]
 cases ev s x<;>try rfl
 rename_i f caps
 cases f<;>rfl
theorem agm {n:Nat} {k:Nat→Nat→Bool→Prop}:vL n false false false [] k=k 0 n false:=rfl
theorem agl {n:Nat} {ik:IntKind} {l:Int} {k:Nat→Nat→Bool→Prop}:vL n true false false [.val (.int ik l)] k=(0≤l∧l≤n∧k l.toNat n false):=rfl
theorem agk {n:Nat} {ik:IntKind} {h:Int} {k:Nat→Nat→Bool→Prop}:vL n false true false [.val (.int ik h)] k=(0≤h∧h≤n∧k 0 h.toNat false):=rfl
theorem adM {n:Nat} {ik jk:IntKind} {l h:Int} {k:Nat→Nat→Bool→Prop}:vL n true true false [.val (.int ik l),.val (.int jk h)] k=(0≤l∧l≤h∧h≤n∧k l.toNat h.toNat false):=rfl
theorem adL {n:Nat} {ik jk:IntKind} {h m:Int} {k:Nat→Nat→Bool→Prop}:vL n false true true [.val (.int ik h),.val (.int jk m)] k=(0≤h∧h=m∧m≤n∧k 0 h.toNat true):=rfl
theorem aao {n:Nat} {ik jk kk:IntKind} {l h m:Int} {k:Nat→Nat→Bool→Prop}:vL n true true true [.val (.int ik l),.val (.int jk h),.val (.int kk m)] k=(0≤l∧l≤h∧h=m∧m≤n∧k l.toNat h.toNat true):=rfl
theorem JP {sz sz':Nat} {lo hi mx:Bool} {m:Mode} {rows:List (List AV)} {xs:List AV} {k:AV→Option zf→Prop} :
  nQ sz lo hi mx (.list sz' m rows::xs) k=((rows=[]∨sz'=sz)∧vL rows.length lo hi mx xs fun l h f=>k (.list sz' (if f=true then .full else .plain) ((rows.take h).drop l)) none):=rfl
theorem Cr {j sz sz' off len:Nat} {lo hi mx:Bool} {xs:List AV} {k:AV→Option zf→Prop} :
  nQ sz lo hi mx (.sl j sz' off len::xs) k=(sz'=sz∧vL len lo hi mx xs fun l h _=>k (.sl j sz (off+l) (h-l)) none):=rfl
theorem Cs {j sz sz' off len:Nat} {lo hi mx:Bool} {xs:List AV} {k:AV→Option zf→Prop} :
  nQ sz lo hi mx (.us j sz' off len::xs) k=(sz'=sz∧vL len lo hi mx xs fun l h _=>k (.us j sz (off+l) (h-l)) none):=rfl
end
theorem we {α:Type} {l:List (Nat × α)} {n:Nat} {x:α}:lk (pt l n x) n=some x:=by rw[ua,if_pos rfl]
theorem tt {α:Type} {l:List (Nat × α)} {n:Nat} {x y:α}:pt (pt l n x) n y=pt l n y:=by
 induction l with
 | nil=>simp[pt]
 | cons p l ih =>
  obtain ⟨q,z⟩:=p
  by_cases h:q=n
  ·subst h; simp[pt]
  ·simp[pt,h,ih]
section
variable {k:Nat} {e:zf}
theorem CM:frz k e .undef=.undef:=rfl
theorem aen {v:Value}:frz k e (.val v)=.val v:=rfl
theorem ael {c:List AV}:frz k e (.agg c)=.agg c:=rfl
theorem agU {c:List AV}:frz k e (.ro c)=.ro c:=rfl
theorem CJ {t:TypeId} {x:AV}:frz k e (.iface t x)=.iface t x:=rfl
theorem agS {f:Fn} {c:List AV}:frz k e (.fn f c)=.fn f c:=rfl
theorem CL {c:List AV}:frz k e (.tuple c)=.tuple c:=rfl
theorem TF {sz:Nat} {m:Mode} {r:List (List AV)} (h:stm m=m):frz k e (.list sz m r)=.list sz m r:=by
 cases m with
 | plain=>rfl
 | full=>rfl
 | own l=>cases h
theorem CK {sz:Nat} {r:List (List AV)}:frz k e (.list sz .plain r)=.list sz .plain r:=rfl
theorem aa3 {sz:Nat} {r:List (List AV)}:frz k e (.list sz .full r)=.list sz .full r:=rfl
theorem aem {j off:Nat}:frz k e (.ptr j off)=if j=k then (match e with
   | .var cells=>if (cells.drop off).all rf=true then .ro ((cells.drop off).map strip) else .undef
   | _=>.undef) else .ptr j off:=rfl
theorem aa2 {j sz i off:Nat}:frz k e (.eptr j sz i off)=if j=k then .undef else .eptr j sz i off:=rfl
theorem agW {j sz i off:Nat}:frz k e (.up j sz i off)=if j=k then .undef else .up j sz i off:=rfl
theorem agV {j sz off len:Nat}:frz k e (.sl j sz off len)=if j=k then (match e with
   | .arr sz' rows=>if sz'=sz∧off+len≤rows.length then .list sz .plain ((rows.drop off).take len) else .undef
   | _=>.undef) else .sl j sz off len:=rfl
theorem agX {j sz off len:Nat}:frz k e (.us j sz off len)=if j=k then (match e with
   | .uarr sz' rows=>if sz'=sz∧off+len≤rows.length∧wh ((rows.drop off).take len)=true then .list sz .plain (zT ((rows.drop off).take len)) else .undef
   | _=>.undef) else .us j sz off len:=rfl
theorem LF {x:Nat} {ks:List Nat} {s:St} {K:St→Prop}:qL (x::ks) s K=qK (s.base+x) s (fun s'=>qL ks s' K):=rfl
end
attribute [simp] we tt
attribute [simp] CM aen ael agU CJ agS CL CK aa3 aem aa2 agW agV agX LF
attribute [simp high] Tb FT kT NO
attribute [simp] aaL ad9 aaU JN Co Cp Cb af2 af3 abM TI ER JO Bx ux agm agl agk adM adL aao JP Cr Cs
section
variable {P:Program} {t:Nat} {ox oy:Operand} {a b:List AV} {K:AV→Option zf→Prop}
theorem Lq {ks:List Kd} {xs ys:List Value} (hk:kds P Op.maxDepth t=some ks) (hg:P.eqGuardType P.depth t=false) (hA:agT P t=true)
  (ha:qz a=some xs) (hb:qz b=some ys) (fx:sf ks xs=true) (fy:sf ks ys=true):ye P .eql t ox oy [.agg a,.agg b] K=K (bv (eqL xs ys)) none:=by
 have e:=pM Op.maxDepth t _ xs ys hk fx fy
 simp only[valOf,hA,if_true] at e
 have e2:zr P (Op.equal t (.agg xs.toArray) (.agg ys.toArray))=some (eqL xs ys):=e
 have e1:binOp .eql t (.agg xs.toArray) (.agg ys.toArray)=(do pure (.bool (← Op.equal t (.agg xs.toArray) (.agg ys.toArray)))):=rfl
 simp only[ye,toV,ha,hb,Option.map_some,zO,Rg hg,e1,e2,Option.bind_some,zQ,y5,ofV,xm]
end
def St.impW (s t:St):Prop:=∀ (F:yd) (a:Act) (w:World) (I:Nat→Nat→Prop) (β:zY) (lam:yg),Inv F s.look (lk s.sto) I β lam a w→Inv F t.look (lk t.sto) I β lam a w
theorem St.impW.imp {s t:St} (h:St.impW s t):St.imp s t:=fun F a w ⟨I,β,lam,hI⟩=>⟨I,β,lam,h F a w I β lam hI⟩
theorem St.impW.refl {s:St}:St.impW s s:=fun _ _ _ _ _ _ h=>h
theorem St.impW.trans {s t u:St} (h:St.impW s t) (k:St.impW t u):St.impW s u:=fun F a w I β lam g=>k F a w I β lam (h F a w I β lam g)
theorem yH.pre {P:Program} {f:FuncId} {xs:List AV} {s t:St} {K:AV→St→Prop} (h:St.impW s t) (hc:yH P f xs t K):yH P f xs s K:=fun F a w I β lam hI=>hc F a w I β lam (h F a w I β lam hI)
theorem ah0 {I I':Nat→Nat→Prop} {w:World} {β β':zY} {lam lam':yg} {v:Value} (h:R I w β lam (.tuple []) v):R I' w β' lam' (.tuple []) v:=by
 cases h with
 | base h=>cases h with | tuple _ vs hs _=>exact .base (.tuple _ vs hs fun i c hc=>by simp at hc)
 | tuple _ vs hs _ _=>exact .base (.tuple _ vs hs fun i c hc=>by simp at hc)
theorem yH.post {P:Program} {f:FuncId} {xs:List AV} {s:St} {K K':AV→St→Prop} (hc:yH P f xs s K) (h:∀ r s',K r s'→(∃ t,St.impW s' t∧K' r t)∨(r=.tuple []∧∃ t,St.imp s' t∧K' r t)):yH P f xs s K' :=
 fun F a w I β lam hI vs hn hv=>Calls.mono (hc F a w I β lam hI vs hn hv) fun e w' ⟨v,e1,r,s',I',β',lam',hK,hI',hR⟩=>by
  refine ⟨v,e1,r,?_⟩
  rcases h r s' hK with ⟨t,ht,hk⟩ | ⟨rfl,t,ht,hk⟩
  ·exact ⟨t,I',β',lam',hk,ht _ _ _ _ _ _ hI',hR⟩
  ·obtain ⟨I2,β2,lam2,h2⟩:=ht _ _ _ ⟨I',β',lam',hI'⟩
   refine ⟨t,I2,β2,lam2,hk,h2,?_⟩
   exact ah0 hR
def x4 (M:Nat):AV→Bool
 | .ptr k _=>decide (k<M)
 | .eptr k _ _ _=>decide (k<M)
 | .sl k _ _ _=>decide (k<M)
 | .us k _ _ _=>decide (k<M)
 | .up k _ _ _=>decide (k<M)
 | .mp k=>decide (k<M)
 | .list _ (.own l) _=>decide (l<M)
 | .fn _ _=>false
 | .tuple _=>false
 | .lit _ _=>false
 | .raw _=>false
 | _=>true
def low (M:Nat):AV→Bool
 | .fn _ caps=>caps.all (x4 M)
 | .tuple cells=>cells.all (x4 M)
 | x=>x4 M x
def mH (M:Nat):zf→Bool
 | .var cells=>cells.all (low M)
 | .uarr _ rows=>rows.all fun r=>r.all (low M)
 | _=>true
def qp (M:Nat) (f:List (Nat × AV)):Prop:=∀ p∈f,low M p.2=true
def yU (M:Nat) (l:List (Nat × zf)):Prop:=∀ p∈l,p.1<M∧mH M p.2=true
def pI (M:Nat) (l:List (List (Nat × AV))):Prop:=∀ f∈l,qp M f
theorem tc {α:Type} {f:α→α} {l:List α} (h:∀ x∈l,f x=x):l.map f=l:=by
 rw[List.map_congr_left (g:=id) h]; simp
section
variable {M k:Nat} (hk:M≤k)
include hk
theorem Ng {x:AV} (h:x4 M x=true):mP k x=false:=by
 cases x with
 | list sz m rows=>cases m<;>simp[x4,mP,jJ] at h ⊢; omega
 | _=>simp[x4,mP,jJ] at h ⊢<;>try omega
theorem C1 {x:AV} (h:x4 M x=true):jJ k x=false:=by
 have:=Ng hk h
 cases x with
 | list sz m rows=>rfl
 | _=>exact this
theorem C0 {x:AV} (h:x4 M x=true):tZ k x=false:=by
 cases x with
 | list sz m rows=>rfl
 | _=>simp[x4,tZ] at h ⊢<;>try omega
theorem U4 {l:List AV} (h:l.all (x4 M)=true):l.any (jJ k)=false :=
 List.any_eq_false.2 fun x hx=>by rw[C1 hk (List.all_eq_true.1 h x hx)]; simp
theorem U3 {l:List AV} (h:l.all (x4 M)=true):l.any (tZ k)=false :=
 List.any_eq_false.2 fun x hx=>by rw[C0 hk (List.all_eq_true.1 h x hx)]; simp
theorem C5 {x:AV} (h:low M x=true):dg k x=x:=by
 cases x with
 | fn f caps=>simp only[dg,U4 hk h]; rfl
 | tuple caps=>simp only[dg,U4 hk h]; rfl
 | lit=>cases h
 | raw=>cases h
 | _=>simp only[low] at h; exact QC (Ng hk h)
theorem L7 {x:AV} (h:low M x=true):zP k x=false:=by
 cases x with
 | fn f caps=>exact U3 hk h
 | tuple caps=>exact U3 hk h
 | lit=>cases h
 | raw=>cases h
 | list=>rfl
 | _=>simp[low,x4,zP] at h ⊢<;>try omega
theorem Fs {e:zf} {x:AV} (h:low M x=true):frz k e x=x:=by
 cases x with
 | lit=>cases h
 | raw=>cases h
 | list sz m rows =>
  cases m with
  | own l =>
   have h:x4 M (.list sz (.own l) rows)=true:=h
   simp only[x4,decide_eq_true_eq] at h
   simp only[frz]; rw[if_neg (by omega)]
  | _=>rfl
 | ptr j off =>
  have h:x4 M (.ptr j off)=true:=h
  simp only[x4,decide_eq_true_eq] at h
  simp only[frz]; rw[if_neg (by omega)]
 | eptr j sz i off =>
  have h:x4 M (.eptr j sz i off)=true:=h
  simp only[x4,decide_eq_true_eq] at h
  simp only[frz]; rw[if_neg (by omega)]
 | sl j sz off len =>
  have h:x4 M (.sl j sz off len)=true:=h
  simp only[x4,decide_eq_true_eq] at h
  simp only[frz]; rw[if_neg (by omega)]
 | us j sz off len =>
  have h:x4 M (.us j sz off len)=true:=h
  simp only[x4,decide_eq_true_eq] at h
  simp only[frz]; rw[if_neg (by omega)]
 | up j sz i off =>
  have h:x4 M (.up j sz i off)=true:=h
  simp only[x4,decide_eq_true_eq] at h
  simp only[frz]; rw[if_neg (by omega)]
 | mp j =>
  have h:x4 M (.mp j)=true:=h
  simp only[x4,decide_eq_true_eq] at h
  simp only[frz]; rw[if_neg (by omega)]
 | _=>rfl
theorem Fp {e:zf} (h:mH M e=true):dgE k e=e:=by
 have all:∀ {l:List AV},l.all (low M)=true→l.map (dg k)=l:=fun {l} h=>by
  exact tc fun x hx=>C5 hk (List.all_eq_true.1 h x hx)
 cases e with
 | var cells=>simp only[dgE,all h]
 | uarr sz rows =>
  simp only[dgE,yC]
  rw[tc fun r hr=>all (List.all_eq_true.1 h r hr)]
 | _=>rfl
theorem abg {e0 e:zf} (h:mH M e=true):rR k e0 e=e:=by
 have all:∀ {l:List AV},l.all (low M)=true→l.map (frz k e0)=l:=fun {l} h=>by
  exact tc fun x hx=>Fs hk (List.all_eq_true.1 h x hx)
 cases e with
 | var cells=>simp only[rR,all h]
 | uarr sz rows =>
  simp only[rR]
  rw[tc fun r hr=>all (List.all_eq_true.1 h r hr)]
 | _=>rfl
theorem QS {f:List (Nat × AV)} (h:qp M f):(f.map fun p=>(p.1,dg k p.2))=f:=by
 exact tc fun p hp=>by rw[C5 hk (h p hp)]
theorem L5 {e:zf} {f:List (Nat × AV)} (h:qp M f):(f.map fun p=>(p.1,frz k e p.2))=f:=by
 exact tc fun p hp=>by rw[Fs hk (h p hp)]
theorem aoz {f:List (Nat × zf)} (h:yU M f):(f.map fun p=>(p.1,dgE k p.2))=f:=by
 exact tc fun p hp=>by rw[Fp hk (h p hp).2]
theorem aom {e:zf} {f:List (Nat × zf)} (h:yU M f):(f.map fun p=>(p.1,rR k e p.2))=f:=by
 exact tc fun p hp=>by rw[abg hk (h p hp).2]
theorem Rw {f:List (Nat × AV)} (h:qp M f):kG k f=true:=by
 induction f with
 | nil=>rfl
 | cons p f ih =>
  obtain ⟨m,x⟩:=p
  have h1:=h (m,x) (by simp)
  simp only[kG,L7 hk h1,ih fun p hp=>h p (by simp[hp])]; rfl
theorem Ry {l:List AV} (h:l.all (low M)=true):wy k l=false:=by
 induction l with
 | nil=>rfl
 | cons x l ih =>
  simp only[List.all_cons,Bool.and_eq_true] at h
  simp only[wy,L7 hk h.1,ih h.2]; rfl
theorem C2 {e:zf} (h:mH M e=true):jE k e=false:=by
 cases e with
 | var cells=>exact Ry hk h
 | uarr sz rows =>
  have h:(rows.all fun r=>r.all (low M))=true:=h
  show uH k rows=false
  induction rows with
  | nil=>rfl
  | cons r rows ih =>
   have h':=h
   simp only[List.all_cons,Bool.and_eq_true] at h'
   simp only[uH,Ry hk h'.1,ih h'.2 h'.2]; rfl
 | _=>rfl
theorem Rx {f:List (Nat × zf)} (h:yU M f):tV k f=true:=by
 induction f with
 | nil=>rfl
 | cons p f ih =>
  obtain ⟨m,x⟩:=p
  have h1:=(h (m,x) (by simp)).2
  simp only[tV,C2 hk h1,ih fun p hp=>h p (by simp[hp])]; rfl
theorem EF {f:List (List (Nat × AV))} (h:pI M f):kH k f=true:=by
 induction f with
 | nil=>rfl
 | cons p f ih=>simp only[kH,Rw hk (h p (by simp)),ih fun p hp=>h p (by simp[hp])]; rfl
theorem Fq {f:List (List (Nat × AV))} (h:pI M f):(f.map fun f=>f.map fun p=>(p.1,dg k p.2))=f:=by
 exact tc fun p hp=>QS hk (h p hp)
theorem abi {e:zf} {f:List (List (Nat × AV))} (h:pI M f):(f.map fun f=>f.map fun p=>(p.1,frz k e p.2))=f:=by
 exact tc fun p hp=>L5 hk (h p hp)
end
theorem cg {M:Nat} {t:Nat} {x:AV} {f:List (Nat × AV)}:qp M ((t,x)::f)↔low M x=true∧qp M f:=by simp[qp]
theorem Zm {M:Nat}:qp M []:=fun _ h=>by cases h
theorem jw {M:Nat}:yU M []:=fun _ h=>by cases h
theorem abj {M:Nat}:pI M []:=fun _ h=>by cases h
theorem tA {M:Nat} {t:Nat} {x:zf} {f:List (Nat × zf)}:yU M ((t,x)::f)↔t<M∧mH M x=true∧yU M f:=by simp[yU,and_assoc]
theorem Ni {M:Nat} {x:List (Nat × AV)} {f:List (List (Nat × AV))}:pI M (x::f)↔qp M x∧pI M f:=by simp[pI]
theorem Nf {M N:Nat} (h:M≤N) {x:AV} (hx:x4 M x=true):x4 N x=true:=by
 cases x with
 | list sz m rows=>cases m<;>simp[x4] at hx ⊢; omega
 | _=>simp[x4] at hx ⊢<;>try omega
theorem low_mono {M N:Nat} (h:M≤N) {x:AV} (hx:low M x=true):low N x=true:=by
 have all:∀ {l:List AV},l.all (x4 M)=true→l.all (x4 N)=true:=fun {l} hl=>List.all_eq_true.2 fun y hy=>Nf h (List.all_eq_true.1 hl y hy)
 cases x with
 | fn f caps=>exact all hx
 | tuple caps=>exact all hx
 | lit=>cases hx
 | raw=>cases hx
 | _=>simp only[low] at hx ⊢; exact Nf h hx
theorem C3 {M N:Nat} (h:M≤N) {f:List (Nat × AV)} (hf:qp M f):qp N f:=fun p hp=>low_mono h (hf p hp)
theorem Nj {M N:Nat} (h:M≤N) {f:List (List (Nat × AV))} (hf:pI M f):pI N f:=fun p hp=>C3 h (hf p hp)
theorem cj {M N:Nat} (h:M≤N) {f:List (Nat × zf)} (hf:yU M f):yU N f:=fun p hp=>by
 obtain ⟨h1,h2⟩:=hf p hp
 refine ⟨by omega,?_⟩
 cases he:p.2 with
 | var cells =>
  rw[he] at h2
  exact List.all_eq_true.2 fun y hy=>low_mono h (List.all_eq_true.1 h2 y hy)
 | uarr sz rows =>
  rw[he] at h2
  exact List.all_eq_true.2 fun r hr=>List.all_eq_true.2 fun y hy=>low_mono h (List.all_eq_true.1 (List.all_eq_true.1 h2 r hr) y hy)
 | _=>rfl
section
variable {I:Nat→Nat→Prop} {w:World} {β:zY} {lam:yg}
theorem R.own_plain {sz:Nat} {m:Mode} {rows:List (List AV)} {v:Value} (h:R I w β lam (.list sz m rows) v):R I w β lam (.list sz .plain rows) v:=by
 cases h with
 | base h =>
  cases h with
  | listNil sz m a cap hm ho=>exact .base (.listNil _ _ _ _ (fun h=>by cases h) (fun _ h=>by cases h))
  | list sz m rows b o cap g hcap hm ho hrow hcell hc=>exact .base (.list _ _ rows b o cap g hcap (fun h=>by cases h) (fun _ h=>by cases h) hrow hcell hc)
 | own sz l' rows a cap h hl'=>exact .base h
theorem R.nil_plain {sz sz':Nat} {m:Mode} {v:Value} (h:R I w β lam (.list sz m []) v):R I w β lam (.list sz' .plain []) v:=by
 cases h with
 | base h=>cases h<;>exact .base (.listNil _ _ _ _ (fun h=>by cases h) (fun _ h=>by cases h))
 | own sz l' rows a cap h hl'=>exact .base (.listNil _ _ _ _ (fun h=>by cases h) (fun _ h=>by cases h))
end
def ZX (x y:AV):Prop:=x=y∨(∃ sz m rows,x=.list sz m rows∧y=.list sz .plain rows)∨∃ sz sz' m,x=.list sz m []∧y=.list sz' .plain []
theorem ZX.refl {x:AV}:ZX x x:=.inl rfl
theorem ZX.list {sz:Nat} {m:Am.Mode} {rows:List (List AV)}:ZX (.list sz m rows) (.list sz .plain rows):=.inr (.inl ⟨_,_,_,rfl,rfl⟩)
theorem ZX.nil {sz sz':Nat} {m:Am.Mode}:ZX (.list sz m []) (.list sz' .plain []):=.inr (.inr ⟨_,_,_,rfl,rfl⟩)
theorem ZX.R {x y:AV} (h:ZX x y) {I:Nat→Nat→Prop} {w:World} {β:zY} {lam:yg} {v:Value} (hx:R I w β lam x v):R I w β lam y v:=by
 rcases h with rfl | ⟨sz,m,rows,rfl,rfl⟩ | ⟨sz,sz',m,rfl,rfl⟩
 ·exact hx
 ·exact hx.own_plain
 ·exact hx.nil_plain
end Go.Am
