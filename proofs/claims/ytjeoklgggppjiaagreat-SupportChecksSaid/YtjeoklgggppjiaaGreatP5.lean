/- What the proof rests on, part 5: Am22 Am23 Am24 Am25 Am26 Am27 Am28 Am39 Am40. -/
import Derived.Test.YtjeoklgggppjiaaGreatP4
import Derived.Scope
import Derived.ScopeJumps
import Derived.Deep.LoopGhost
import Derived.OpenShut
import Derived.SizedLaws
import Derived.Carry
import Derived.ProofKit
set_option maxRecDepth 100000
set_option maxHeartbeats 4000000
namespace Go.Am
open Go.RowKit
section
variable {P:Program} {F:z0}
def Ya (c:Code):Exit→Bool
 | .normal=>true
 | .exit _=>true
 | .ret=>true
 | .goto _=>tl c
 | _=>false
theorem N3 {p:Nat→Prop}:∀ n,p n→∃ m,p m∧∀ k,p k→m≤k:=by
 intro n
 induction n using Nat.strongRecOn with
 | ind n ih =>
  intro hn
  by_cases h:∃ m,m<n∧p m
  ·obtain ⟨m,hm,hp⟩:=h; exact ih m hm hp
  ·exact ⟨n,hn,fun k hk=>Nat.le_of_not_lt fun hlt=>h ⟨k,hlt,hk⟩⟩
open Classical in
noncomputable def T6 (J:Nat→Act→World→Prop) (a:Act) (w:World):Nat:=if h:∃ n,J n a w then Classical.choose (N3 (p:=fun n=>J n a w) h.choose h.choose_spec) else 0
theorem XX {J:Nat→Act→World→Prop} {a:Act} {w:World} (h:∃ n,J n a w):J (T6 J a w) a w∧∀ k,J k a w→T6 J a w≤k:=by
 unfold T6
 rw[dif_pos h]
 exact Classical.choose_spec (N3 (p:=fun n=>J n a w) h.choose h.choose_spec)
theorem XI {ac:zc} {draw:Bool} {l:List zi} (h:zc.region draw [] l [] []=bare ac):∃ FK D DK l',ac=.region draw FK l' D DK∧l=l'.map (yi draw):=by
 cases ac<;>simp only[bare,reduceCtorEq,zc.region.injEq] at h
 obtain ⟨rfl,_,rfl,_,_⟩:=h
 exact ⟨_,_,_,_,rfl,rfl⟩
def gc (P:Program) (F:z0) (c:Code):Prop:=∀ (ac:zc),ye P F.N c=some (bare ac)→∀ {s:St} {a:Act} {w:World} {K:Exit→St→Prop} {Q:Exit→Act→World→Prop},Holds F s a w→awp P ac s K →
  (∀ e s' a' w',Ya c e=true→K e s'→Holds F s' a' w'→Q e a' w')→c.wp P Q a w
theorem LK:∀ (c:Code),gc P F c∧∀ l r,c=.seq (.label l) r→gc P F (.seq .skip r)∧gc P F r:=by
 intro c
 induction c with
 | skip =>
  refine ⟨?_,fun l r e=>by cases e⟩
  intro ac htr s a w K Q hH h hk
  simp only[ye,Option.some.injEq] at htr
  cases ac<;>simp only[bare,reduceCtorEq] at htr
  exact wp_skip (hk _ _ _ _ rfl h hH)
 | region id ops draw =>
  refine ⟨?_,fun l r e=>by cases e⟩
  intro ac htr s a w K Q hH h hk
  simp only[ye] at htr
  split at htr
  ·rename_i l hl
   split at htr
   ·rename_i hd
    simp only[Option.some.injEq] at htr
    obtain ⟨FK,D,DK,l',rfl,rfl⟩:=XI htr
    simp only[awp] at h
    obtain ⟨s0,h,hH⟩:=Ze FK hH h
    have hk':∀ s' a' w',(Y3 (s'.drop D) DK fun s''=>K .normal s'')→Holds F s' a' w'→Q .normal a' w':=by
     intro s' a' w' hK hH'
     obtain ⟨s'',h1,h2⟩:=XW (bQ hH') hK
     exact hk _ _ _ _ rfl h1 h2
    cases draw with
    | false=>exact wp_region_list (Fu ops ops.toList _ hl hH h hk')
    | true=>exact Nw hl (by simp only[Bool.true_eq_false,false_or] at hd; exact hd.1) hH h hk'
   ·rename_i hnd
    split at htr
    ·rename_i hm
     simp only[Option.some.injEq] at htr
     obtain ⟨FK,D,DK,l',rfl,he⟩:=XI htr
     simp only[awp] at h
     obtain ⟨s0,h,hH⟩:=Ze FK hH h
     have hk':∀ s' a' w',(Y3 (s'.drop D) DK fun s''=>K .normal s'')→Holds F s' a' w'→Q .normal a' w':=by
      intro s' a' w' hK hH'
      obtain ⟨s'',h1,h2⟩:=XW (bQ hH') hK
      exact hk _ _ _ _ rfl h1 h2
     cases draw with
     | false=>exact absurd (.inl rfl) hnd
     | true=>exact Me (ac7 hl) (fun i f ds e=>(acW hl e).trans Ag.symm) hm he hH h hk'
    ·cases htr
  ·cases htr
 | seq x y ihx ihy =>
  refine ⟨?_,?_⟩
  ·intro ac htr s a w K Q hH h hk
   simp only[ye] at htr
   split at htr
   ·rename_i bx by_ hx hy
    simp only[Option.some.injEq] at htr
    cases ac<;>simp only[bare,reduceCtorEq,zc.seq.injEq] at htr
    rename_i ax ay
    obtain ⟨rfl,rfl⟩:=htr
    simp only[awp] at h
    refine wp_seq (ihx.1 ax hx hH h fun e s' a' w' hne hK hH'=>?_)
    cases e with
    | normal=>exact ihy.1 ay hy hH' hK fun e s' a' w' hne=>hk e s' a' w' (by cases e<;>simp_all [Ya,tl])
    | exit id=>exact hk _ _ _ _ rfl hK hH'
    | ret=>exact hk _ _ _ _ rfl hK hH'
    | goto l=>exact hk _ _ _ _ (by simp only[Ya,tl,Bool.or_eq_true] at hne ⊢; exact .inl hne) hK hH'
    | panic ch=>cases hne
    | outgrown=>cases hne
   ·cases htr
  ·intro l r e
   cases e
   refine ⟨?_,ihy.1⟩
   intro ac htr s a w K Q hH h hk
   simp only[ye] at htr
   split at htr
   ·rename_i bx by_ hx hy
    simp only[Option.some.injEq] at hx
    subst hx
    simp only[Option.some.injEq] at htr
    cases ac<;>simp only[bare,reduceCtorEq,zc.seq.injEq] at htr
    rename_i ax ay
    obtain ⟨hx,rfl⟩:=htr
    cases ax<;>simp only[bare,reduceCtorEq] at hx
    simp only[awp,MJ] at h
    exact wp_seq (wp_skip (ihy.1 ay hy hH h fun e s' a' w' hne=>hk e s' a' w' (by cases e<;>simp_all [Ya,tl])))
   ·cases htr
 | cond c x y ihx ihy =>
  refine ⟨?_,fun l r e=>by cases e⟩
  intro ac htr s a w K Q hH h hk
  simp only[ye] at htr
  split at htr
  ·rename_i bx by_ hx hy
   simp only[Option.some.injEq] at htr
   cases ac<;>simp only[bare,reduceCtorEq,zc.cond.injEq] at htr
   rename_i c' ax ay
   obtain ⟨rfl,rfl,rfl⟩:=htr
   simp only[awp] at h
   split at h
   ·rename_i b hb
    have hc:a.eval c=.bool b:=by
     obtain ⟨I,β,lam,hI⟩:=hH
     have:=hI.opd c
     rw[hb] at this
     exact this.val_eq
    exact wp_cond_split hc (fun e=>ihx.1 ax hx hH (h.1 e) fun e s' a' w' hne=>hk e s' a' w' (by cases e<;>simp_all [Ya,tl])) (fun e=>ihy.1 ay hy hH (h.2 e) fun e s' a' w' hne=>hk e s' a' w' (by cases e<;>simp_all [Ya,tl]))
   ·exact h.elim
  ·cases htr
 | block id c ih =>
  refine ⟨?_,fun l r e=>by cases e⟩
  intro ac htr s a w K Q hH h hk
  simp only[ye,Option.map_eq_some_iff] at htr
  obtain ⟨bc,hc,htr⟩:=htr
  cases ac<;>simp only[bare,reduceCtorEq,zc.block.injEq] at htr
  rename_i id' ac'
  obtain ⟨rfl,rfl⟩:=htr
  simp only[awp] at h
  refine wp_block (ih.1 ac' hc hH h fun e s' a' w' hne hK hH'=>?_)
  cases e with
  | normal=>exact hk _ _ _ _ rfl hK hH'
  | exit i =>
   simp only[Tt] at hK
   simp only[Exit.inBlock]
   split
   ·rename_i e; rw[if_pos e] at hK; exact hk _ _ _ _ rfl hK hH'
   ·rename_i e; rw[if_neg e] at hK; exact hk _ _ _ _ rfl hK hH'
  | ret=>exact hk _ _ _ _ rfl hK hH'
  | goto l=>exact hk _ _ _ _ hne hK hH'
  | panic ch=>cases hne
  | outgrown=>cases hne
 | loop c ih =>
  refine ⟨?_,fun l r e=>by cases e⟩
  intro ac htr s a w K Q hH h hk
  simp only[ye,Option.map_eq_some_iff] at htr
  obtain ⟨bc,hc,htr⟩:=htr
  cases ac<;>simp only[bare,reduceCtorEq,zc.loop.injEq] at htr
  rename_i ac'
  subst htr
  simp only[awp] at h
  obtain ⟨J,n,s0,hi,h0,h⟩:=h
  refine wp_loop_ghost (fun n a w=>∃ s,Holds F s a w∧J n s) n ⟨s0,hi F a w hH,h0⟩ fun n a w ⟨s,hH,hJ⟩=>?_
  refine ih.1 ac' hc hH (h n s hJ) fun e s' a' w' hne hK hH'=>?_
  cases e with
  | normal =>
   obtain ⟨m,s2,hm,hi2,hJ'⟩:=hK
   exact ⟨m,hm,s2,hi2 F a' w' hH',hJ'⟩
  | exit id=>exact hk _ _ _ _ rfl hK hH'
  | ret=>exact hk _ _ _ _ rfl hK hH'
  | goto l=>exact hk _ _ _ _ hne hK hH'
  | panic ch=>cases hne
  | outgrown=>cases hne
 | rangeFunc f ps x y =>
  refine ⟨?_,fun l r e=>by cases e⟩
  intro ac htr; simp[ye] at htr
 | exit id =>
  refine ⟨?_,fun l r e=>by cases e⟩
  intro ac htr s a w K Q hH h hk
  simp only[ye,Option.some.injEq] at htr
  cases ac<;>simp only[bare,reduceCtorEq,zc.exit.injEq] at htr
  subst htr
  exact wp_exit (hk _ _ _ _ rfl h hH)
 | scope c ih =>
  refine ⟨?_,fun l r e=>by cases e⟩
  have straight:∀ ac,tl c=false→ye P F.N c=some (bare ac)→∀ {s:St} {a:Act} {w:World} {K:Exit→St→Prop} {Q:Exit→Act→World→Prop},Holds F s a w→awp P ac s K →
    (∀ e s' a' w',Ya (.scope c) e=true→K e s'→Holds F s' a' w'→Q e a' w')→(Code.scope c).wp P Q a w:=by
   intro ac hg htr s a w K Q hH h hk
   refine wp_scope_straight (ih.1 ac htr hH h fun e s' a' w' hne hK hH'=>?_)
   cases e with
   | normal=>exact hk _ _ _ _ rfl hK hH'
   | exit i=>exact hk _ _ _ _ rfl hK hH'
   | ret=>exact hk _ _ _ _ rfl hK hH'
   | goto l=>simp only[Ya,hg] at hne; cases hne
   | panic ch=>cases hne
   | outgrown=>cases hne
  have other:(∀ l r,c≠.seq (.label l) r)→gc P F (.scope c):=by
   intro hne ac htr
   rw[ye.eq_def] at htr
   split at htr<;>first | (rename_i heq; cases heq; done) | skip
   all_goals first
    | (cases htr; done)
    | (rename_i l r heq; cases heq; exact absurd rfl (hne _ _))
    | (
      rename_i c' _ heq
      cases heq
      split at htr
      ·cases htr
      ·rename_i hg
       exact straight ac (by simpa using hg) htr)
  cases c with
  | seq x r =>
   cases x with
   | label l =>
    intro ac htr s a w K Q hH h hk
    simp only[ye] at htr
    split at htr
    ·rename_i hg
     simp only[Option.map_eq_some_iff] at htr
     obtain ⟨br,hr,htr⟩:=htr
     cases ac<;>simp only[bare,reduceCtorEq,zc.again.injEq] at htr
     rename_i l' ar
     obtain ⟨rfl,rfl⟩:=htr
     simp only[awp] at h
     obtain ⟨J,n,s0,hi,h0,h⟩:=h
     have ihr:=ih.2 _ _ rfl
     have step:∀ n s a w,Holds F s a w→J n s→∀ {c:Code} {ac:zc},gc P F c→ye P F.N c=some (bare ac)→(∀ K,awp P ar s K→awp P ac s K) →
       c.wp P (Exit.jump l (fun a' w'=>∃ m,m<n∧∃ s',Holds F s' a' w'∧J m s') Q) a w:=by
      intro n s a w hH hJ c ac hS htr hto
      refine hS ac htr hH (hto _ (h n s hJ)) fun e s' a' w' hne hK hH'=>?_
      cases e with
      | normal=>exact hk _ _ _ _ rfl hK hH'
      | exit i=>exact hk _ _ _ _ rfl hK hH'
      | ret=>exact hk _ _ _ _ rfl hK hH'
      | goto i =>
       obtain ⟨rfl,m,s2,hm,hi2,hJ'⟩:=hK
       exact ⟨rfl,m,hm,s2,hi2 F a' w' hH',hJ'⟩
      | panic ch=>cases hne
      | outgrown=>cases hne
     let J':Nat→Act→World→Prop:=fun m a w=>∃ s,Holds F s a w∧J m s
     refine wp_scope_jumps (rest:=.seq .skip r) l (fun a w=>∃ m,J' m a w) (T6 J') (by simp[findLabel]) ?_ ?_
     ·have:=step n s0 a w (hi F a w hH) h0 (c:=.seq (.label l) r) (ac:=.seq .skip ar) ih.1 (by simp only[ye,hr]; rfl) (fun K h=>by simpa only[awp,MJ] using h)
      refine wp_mono this ?_
      intro e a' w' hq
      cases e with
      | goto i=>obtain ⟨e1,m,_,s',h1,h2⟩:=hq; exact ⟨e1,m,s',h1,h2⟩
      | _=>exact hq
     ·intro a w hJ
      obtain ⟨⟨s1,h1,h2⟩,hmin⟩:=XX hJ
      have:=step _ s1 a w h1 h2 (c:=.seq .skip r) (ac:=.seq .skip ar) ihr.1 (by simp only[ye,hr]; rfl) (fun K h=>by simpa only[awp,MJ] using h)
      refine wp_mono this ?_
      intro e a' w' hq
      cases e with
      | goto i =>
       obtain ⟨e1,m,hm,s',h3,h4⟩:=hq
       refine ⟨e1,⟨m,s',h3,h4⟩,?_⟩
       have:=(XX (J:=J') ⟨m,s',h3,h4⟩).2 m ⟨s',h3,h4⟩
       omega
      | _=>exact hq
    ·rename_i hg
     have htr':ye P F.N (.seq (.label l) r)=some (bare ac):=by
      simp only[Option.map_eq_some_iff] at htr
      obtain ⟨br,hr,htr⟩:=htr
      simp only[ye,hr,htr]
     exact straight ac (by simpa [tl] using hg) htr' hH h hk
   | _=>exact other (by intros; simp)
  | _=>exact other (by intros; simp)
 | label l =>
  refine ⟨?_,fun l r e=>by cases e⟩
  intro ac htr s a w K Q hH h hk
  simp only[ye,Option.some.injEq] at htr
  cases ac<;>simp only[bare,reduceCtorEq] at htr
  exact wp_label (hk _ _ _ _ rfl h hH)
 | goto l =>
  refine ⟨?_,fun l r e=>by cases e⟩
  intro ac htr s a w K Q hH h hk
  simp only[ye,Option.some.injEq] at htr
  cases ac<;>simp only[bare,reduceCtorEq,zc.goto.injEq] at htr
  subst htr
  exact wp_goto (hk _ _ _ _ rfl h hH)
 | ret =>
  refine ⟨?_,fun l r e=>by cases e⟩
  intro ac htr s a w K Q hH h hk
  simp only[ye,Option.some.injEq] at htr
  cases ac<;>simp only[bare,reduceCtorEq] at htr
  exact wp_ret (hk _ _ _ _ rfl h hH)
 | refuse why =>
  refine ⟨?_,fun l r e=>by cases e⟩
  intro ac htr; simp[ye] at htr
theorem jS (c:Code):gc P F c:=(LK c).1
inductive zu where
 | t (n:Nat)
 | cell (n:Nat) (k:Option Nat)
def uC (P:Program):ResultVar→Option zu
 | .tmp t=>some (.t t)
 | .cell a t=>(ldT P t).map (.cell a)
def UZ (s:St):zu→Option AV
 | .t n=>wP (lk s.sto) (s.get n)
 | .cell n k=>match s.get n with
  | .ptr j off=>match lk s.sto j with
   | some (.var cells)=>match zD cells off k with
    | some x=>wP (lk s.sto) x
    | none=>none
   | _=>none
  | _=>none
def sI (l:List zu) (s:St):Option AV :=
 match yv (UZ s) l with
 | some [x]=>some x
 | some xs=>some (.tuple xs)
 | none=>none
def ve:Nat→List AV→List (Nat × AV)
 | _,[]=>[]
 | i,x::xs=>(i,x)::ve (i+1) xs
theorem bS:∀ (xs:List AV) (i t:Nat) (x:AV),lk (ve i xs) t=some x→∃ j,t=i+j∧xs[j]?=some x:=by
 intro xs
 induction xs with
 | nil=>intro i t x h; simp[ve,lk] at h
 | cons y xs ih =>
  intro i t x h
  simp only[ve,lk] at h
  split at h
  ·rename_i e
   exact ⟨0,by omega,by simpa using h⟩
  ·obtain ⟨j,h1,h2⟩:=ih _ _ _ h
   exact ⟨j+1,by omega,by simpa using h2⟩
def jc (tmps:Array Value):ResultVar→Sem Value
 | .tmp t=>pure (tmps.getD t undef)
 | .cell p t=>do loadVar t (← asAddr (tmps.getD p undef))
def lI (s:St):zu→Option AV
 | .t n=>some (strip (s.get n))
 | .cell n k=>match s.get n with
  | .ptr j off=>match lk s.sto j with
   | some (.var cells)=>(zD cells off k).map strip
   | _=>none
  | _=>none
def tup:List AV→AV
 | [x]=>x
 | xs=>.tuple xs
theorem MD {l:List zu} {s:St} {r:AV} (h:sI l s=some r):∃ xs,yv (UZ s) l=some xs∧r=tup xs:=by
 unfold sI at h
 split at h
 ·rename_i x hx
  simp only[Option.some.injEq] at h
  exact ⟨[x],hx,h.symm⟩
 ·rename_i xs hne hx
  simp only[Option.some.injEq] at h
  refine ⟨xs,hx,?_⟩
  match xs,hne with
  | [],_=>exact h.symm
  | [x],hne=>exact absurd rfl (hne x)
  | _::_::_,_=>exact h.symm
 ·cases h
theorem adI {s:St} {a:Act} {w:World} {I:Nat→Nat→Prop} {β:zV} {lam:z6} (hI:Inv F s.look (lk s.sto) I β lam a w) {rv:ResultVar} {ra:zu} {x:AV} (htr:uC P rv=some ra) (hx:lI s ra=some x) :
  ∃ v,(jc a.tmps rv).run P w=.ok v w∧R I w β lam x v∧∃ y,x=strip y:=by
 have hget:∀ n,R I w β lam (s.get n) (a.tmps.getD n undef):=fun n=>hI.opd (.tmp n)
 cases rv with
 | tmp t =>
  simp only[uC,Option.some.injEq] at htr
  subst htr
  simp only[lI,Option.some.injEq] at hx
  subst hx
  exact ⟨_,rfl,(hget t).strip,_,rfl⟩
 | cell p t =>
  simp only[uC,Option.map_eq_some_iff] at htr
  obtain ⟨k,hk,rfl⟩:=htr
  simp only[lI] at hx
  split at hx
  ·rename_i j off hp
   split at hx
   ·rename_i cells hs
    simp only[Option.map_eq_some_iff] at hx
    obtain ⟨y,hy,rfl⟩:=hx
    have hR:=hget p
    rw[hp] at hR
    obtain ⟨b,hb,hv⟩:=hR.ptr_inv
    have hE:=hI.hread _ _ _ hs hb
    obtain ⟨v,hr,hRv⟩:=UL (o:=0) hk hy (fun j c hj=>by
     obtain ⟨v,h1,_,h3,h4⟩:=hE j c hj
     exact ⟨v,by rw[Nat.zero_add]; exact h1,h3,h4⟩)
    rw[Nat.zero_add] at hr
    refine ⟨v,?_,hRv.strip,_,rfl⟩
    simp only[Instr.loadAt,Instr.sureAddr,Sem.run_bind,Sem.run_pure,Result.andThen_ok] at hr
    simp only[jc,hv,asAddr,Sem.run_bind,Sem.run_pure,Result.andThen_ok]
    exact hr
   ·cases hx
  ·cases hx
theorem JX {s:St} {a:Act} {w:World} {I:Nat→Nat→Prop} {β:zV} {lam:z6} (hI:Inv F s.look (lk s.sto) I β lam a w) {rv:ResultVar} {ra:zu} {x:AV} (htr:uC P rv=some ra) (hx:UZ s ra=some x) :
  ∃ v,(jc a.tmps rv).run P w=.ok v w∧R0 (Seen I β lam) w x v:=by
 have hget:∀ n,R I w β lam (s.get n) (a.tmps.getD n undef):=fun n=>hI.opd (.tmp n)
 cases rv with
 | tmp t =>
  simp only[uC,Option.some.injEq] at htr
  subst htr
  exact ⟨_,rfl,(gn hI.hread hI.usto hx (hget t)).1⟩
 | cell p t =>
  simp only[uC,Option.map_eq_some_iff] at htr
  obtain ⟨k,hk,rfl⟩:=htr
  simp only[UZ] at hx
  split at hx
  ·rename_i j off hp
   split at hx
   ·rename_i cells hs
    split at hx
    ·rename_i y hy
     have hR:=hget p
     rw[hp] at hR
     obtain ⟨b,hb,hv⟩:=hR.ptr_inv
     have hE:=hI.hread _ _ _ hs hb
     obtain ⟨v,hr,hRv⟩:=UL (o:=0) hk hy (fun j c hj=>by
      obtain ⟨v,h1,_,h3,h4⟩:=hE j c hj
      exact ⟨v,by rw[Nat.zero_add]; exact h1,h3,h4⟩)
     rw[Nat.zero_add] at hr
     refine ⟨v,?_,(gn hI.hread hI.usto hx hRv).1⟩
     simp only[Instr.loadAt,Instr.sureAddr,Sem.run_bind,Sem.run_pure,Result.andThen_ok] at hr
     simp only[jc,hv,asAddr,Sem.run_bind,Sem.run_pure,Result.andThen_ok]
     exact hr
    ·cases hx
   ·cases hx
  ·cases hx
theorem Kg {rd:zu→Option AV} {Rel:AV→Value→Prop} {tmps:Array Value} {w:World} (hrd:∀ rv ra x,uC P rv=some ra→rd ra=some x→∃ v,(jc tmps rv).run P w=.ok v w∧Rel x v) :
  ∀ (rvs:List ResultVar) (ras:List zu) (xs:List AV),
  yv (uC P) rvs=some ras→yv rd ras=some xs →
  ∃ vs:List Value,(rvs.mapM (jc tmps)).run P w=.ok vs w ∧
   vs.length=xs.length∧∀ (i:Nat) (x:AV),xs[i]?=some x→∃ v,vs[i]?=some v∧Rel x v:=by
 intro rvs
 induction rvs with
 | nil =>
  intro ras xs h1 h2
  simp only[yv,Option.some.injEq] at h1
  subst h1
  simp only[yv,Option.some.injEq] at h2
  subst h2
  exact ⟨[],rfl,rfl,fun i x h=>by simp at h⟩
 | cons rv rvs ih =>
  intro ras xs h1 h2
  simp only[yv] at h1
  split at h1
  ·rename_i ra hra
   simp only[Option.map_eq_some_iff] at h1
   obtain ⟨ras',h1,rfl⟩:=h1
   simp only[yv] at h2
   split at h2
   ·rename_i x hx
    simp only[Option.map_eq_some_iff] at h2
    obtain ⟨xs',h2,rfl⟩:=h2
    obtain ⟨v,hv,hR⟩:=hrd rv ra x hra hx
    obtain ⟨vs,g1,g2,g3⟩:=ih ras' xs' h1 h2
    refine ⟨v::vs,?_,by simp[g2],fun i x' hi=>?_⟩
    ·rw[List.mapM_cons,Sem.run_bind,hv]
     simp only[Result.andThen_ok,Sem.run_bind,g1,Sem.run_pure]
    ·cases i with
     | zero=>simp at hi; subst hi; exact ⟨v,rfl,hR⟩
     | succ i=>simp at hi; simpa using g3 i x' hi
   ·cases h2
  ·cases h1
theorem kj {fn:Func} {rd:zu→Option AV} {Rel:AV→Value→Prop} {tmps:Array Value} {w:World} (hrd:∀ rv ra x,uC P rv=some ra→rd ra=some x→∃ v,(jc tmps rv).run P w=.ok v w∧Rel x v)
  (htup:∀ (xs:List AV) (vs:Array Value),yv rd (Option.getD (yv (uC P) fn.results.toList) [])=some xs→vs.size=xs.length→(∀ i x,xs[i]?=some x→Rel x (vs.getD i undef))→Rel (.tuple xs) (.tuple vs))
  {ras:List zu} {xs:List AV} (h1:yv (uC P) fn.results.toList=some ras) (h2:yv rd ras=some xs):∃ v,(results fn tmps).run P w=.ok v w∧Rel (tup xs) v:=by
 obtain ⟨vl,g1,g2,g3⟩:=Kg hrd fn.results.toList ras xs h1 h2
 rw[h1] at htup
 simp only[Option.getD_some] at htup
 refine ⟨if h:vl.toArray.size=1 then vl.toArray[0] else .tuple vl.toArray,?_,?_⟩
 ·have e:results fn tmps=(fn.results.mapM (jc tmps) >>= fun vs=>pure (if h:vs.size=1 then vs[0] else .tuple vs)):=by
   unfold results
   congr 1
   first | done | (congr 1; funext x; cases x<;>rfl)
  rw[e,Array.mapM_eq_mapM_toList,Sem.run_bind,Sem.run_map,g1]
  rfl
 ·have gt:∀ i x,xs[i]?=some x→Rel x (vl.toArray.getD i undef):=fun i x hi=>by
   obtain ⟨v,hv,hRv⟩:=g3 i x hi
   have:vl.toArray.getD i undef=v:=by simp[hv]
   rw[this]
   exact hRv
  match xs,g2,g3,h2,gt with
  | [x],g2,g3,h2,gt =>
   obtain ⟨v,hv,hRv⟩:=g3 0 x rfl
   have hvl:vl=[v]:=by
    match vl,g2,hv with
    | [v'],_,hv=>simp at hv; rw[hv]
   subst hvl
   simp only[List.size_toArray,List.length_cons,List.length_nil,dite_true]
   exact hRv
  | [],g2,g3,h2,gt =>
   have hvl:vl=[]:=by simpa using g2
   subst hvl
   exact htup [] #[] h2 rfl (fun i c h=>by simp at h)
  | x::y::xs,g2,g3,h2,gt =>
   have hne:¬ vl.toArray.size=1:=by simp at g2 ⊢; omega
   rw[dif_neg hne]
   exact htup _ _ h2 (by simpa using g2) gt
theorem AR {α γ:Type} {f:α→Option γ}:∀ {l:List α} {l':List γ},yv f l=some l'→∀ y∈l',∃ x∈l,f x=some y:=by
 intro l
 induction l with
 | nil=>intro l' h; simp only[yv,Option.some.injEq] at h; subst h; simp
 | cons x l ih =>
  intro l' h
  simp only[yv] at h
  split at h
  ·rename_i y hy
   simp only[Option.map_eq_some_iff] at h
   obtain ⟨l2,h2,rfl⟩:=h
   intro z hz
   rcases List.mem_cons.1 hz with rfl | hz
   ·exact ⟨x,by simp,hy⟩
   ·obtain ⟨x',h3,h4⟩:=ih h2 z hz
    exact ⟨x',by simp[h3],h4⟩
  ·cases h
theorem Pr {x:AV} {sz l:Nat} {rows:List (List AV)}:strip x≠.list sz (.own l) rows:=by
 cases x<;>simp only[strip,ne_eq,reduceCtorEq,not_false_eq_true]
 rename_i sz' m rows'
 cases m<;>simp
theorem Fj {s:St} {ra:zu} {x:AV} (h:lI s ra=some x):∃ y,x=strip y:=by
 cases ra with
 | t n =>
  simp only[lI,Option.some.injEq] at h
  exact ⟨_,h.symm⟩
 | cell n k =>
  simp only[lI] at h
  split at h
  ·split at h
   ·simp only[Option.map_eq_some_iff] at h
    obtain ⟨y,_,rfl⟩:=h
    exact ⟨_,rfl⟩
   ·cases h
  ·cases h
theorem BT {f:FuncId} {fn:Func} {code:Code} {ac:zc} {ras:List zu} {args:List AV} {s:St} {K:AV→St→Prop} (B:Nat) (hf:P.funcs[f]?=some fn) (hb:fn.body=some code)
  (htr:ye P fn.ntmps code=some (bare ac)) (hres:yv (uC P) fn.results.toList=some ras) (hn:args.length≤fn.ntmps)
  (h:awp P ac {env:=ve 0 args,sto:=s.sto,out:=s.env::s.out,base:=B} fun e s'=>(e=.normal∨e=.ret)∧∃ xs e0 o0,yv (lI s') ras=some xs∧s'.out=e0::o0∧K (tup xs) {env:=e0,sto:=s'.sto,out:=o0,base:=s.base}):z5 P f args s K:=by
 intro F a w I β lam hI vs hs hR
 refine calls_of_wp hf hb ?_
 have hH:Holds {w0:=F.w0,I0:=F.I0,N:=fn.ntmps,outs:=a.tmps::F.outs} {env:=ve 0 args,sto:=s.sto,out:=s.env::s.out,base:=B} {tmps:=vs++Array.replicate (fn.ntmps-vs.size) undef,defers:=[]} w:=by
  refine ⟨I,β,lam,?_⟩
  refine {hI with defers:=rfl,size:=by simp; omega,env:=fun t x ht=>?_}
  obtain ⟨d,t⟩:=t
  cases d with
  | zero =>
   obtain ⟨j,rfl,hj⟩:=bS _ _ _ _ ht
   have hlt:j<vs.size:=by
    have:=(List.getElem?_eq_some_iff.1 hj).1
    omega
   refine ⟨vs.getD j undef,?_,hR j x hj⟩
   simp only[z0.val]
   rw[Nat.zero_add,Array.getElem?_append_left hlt]
   simp[hlt]
  | succ d =>
   cases d with
   | zero =>
    obtain ⟨v,h1,h2⟩:=hI.env (0,t) x ht
    exact ⟨v,h1,h2⟩
   | succ d =>
    obtain ⟨v,h1,h2⟩:=hI.env (d+1,t) x ht
    exact ⟨v,h1,h2⟩
 refine jS (F:={w0:=F.w0,I0:=F.I0,N:=fn.ntmps,outs:=a.tmps::F.outs}) code ac htr hH h fun e s' a' w' _ hK hH'=>?_
 obtain ⟨he,xs,e0,o0,hxs,hout,hK⟩:=hK
 obtain ⟨I',β',lam',hI'⟩:=hH'
 obtain ⟨v,hrun,hRv⟩:=kj (fn:=fn) (rd:=lI s') (Rel:=R I' w' β' lam') (fun rv ra x h1 h2=>by
   obtain ⟨v,g1,g2,_⟩:=adI hI' h1 h2
   exact ⟨v,g1,g2⟩) (fun xs vs h1 h2 h3=>by
   refine .tuple xs vs h2 (fun sz l rows hm=>?_) h3
   obtain ⟨ra,_,hra⟩:=AR h1 _ hm
   obtain ⟨y,hy⟩:=Fj hra
   exact Pr hy.symm) hres hxs
 have hpop:Inv F (St.look {env:=e0,sto:=s'.sto,out:=o0,base:=s.base}) (lk s'.sto) I' β' lam' a w':=by
  refine {hI' with defers:=hI.defers,size:=hI.size,env:=fun t x ht=>?_}
  have key:s'.look (t.1+1,t.2)=some x:=by
   obtain ⟨d,t⟩:=t
   simp only[St.look,hout] at ht ⊢
   cases d with
   | zero=>exact ht
   | succ d=>exact ht
  obtain ⟨v,h1,h2⟩:=hI'.env _ x key
  refine ⟨v,?_,h2⟩
  obtain ⟨d,t⟩:=t
  cases d with
  | zero=>exact h1
  | succ d=>exact h1
 have hpost:a'.defers=[]∧∃ v,(results fn a'.tmps).run P w'=.ok v w'∧∃ u,Ending.returned v=.returned u∧∃ r s' I' β' lam',K r s'∧Inv F s'.look (lk s'.sto) I' β' lam' a w'∧R I' w' β' lam' r u :=
  ⟨hI'.defers,v,hrun,v,rfl,tup xs,_,I',β',lam',hK,hpop,hRv⟩
 rcases he with rfl | rfl
 ·exact hpost
 ·exact hpost
def AV.imp (x y:AV):Prop:=∀ (I:Nat→Nat→Prop) (w:World) (v:Value),R0 I w x v→R0 I w y v
theorem AV.imp.refl {x:AV}:AV.imp x x:=fun _ _ _ h=>h
theorem abj {f:FuncId} {fn:Func} {code:Code} {ac:zc} {ras:List zu} {args:List AV} {r:AV} {K:Exit→St→Prop} (hK0:∀ e s,K e s→(e=.normal∨e=.ret)∧∃ r0,sI ras s=some r0∧AV.imp r0 r) (hf:P.funcs[f]?=some fn) (hb:fn.body=some code)
  (htr:ye P fn.ntmps code=some (bare ac)) (hres:yv (uC P) fn.results.toList=some ras) (hn:args.length≤fn.ntmps)
  (h:awp P ac {env:=ve 0 args,sto:=[]} K):zd P f args r:=by
 intro I vs w hI hs hR
 refine calls_of_wp hf hb ?_
 have hH:Holds {w0:=w,I0:=I,N:=fn.ntmps} {env:=ve 0 args,sto:=[]} {tmps:=vs++Array.replicate (fn.ntmps-vs.size) undef,defers:=[]} w:=by
  refine ⟨I,fun _=>none,fun _=>none,?_⟩
  refine
   {defers:=rfl
    size:=by simp; omega
    below:=Below.refl _ _
    env:=fun t x ht=>?_
    sto:=fun k en hk=>by simp[lk] at hk
    usto:=fun l sz rows hk=>by simp[lk] at hk
    bdom:=fun k b hk=>by cases hk
    binj:=fun k k' b hk=>by cases hk
    bnew:=fun k b hk=>by cases hk
    Isub:=hI
    I0sub:=fun _ _ h=>h
    Inew:=fun _ _ h=>.inl h
    spare:=fun l a len cap sz hl=>by cases hl
    ldis:=fun l l' b o o' len len' cap cap' sz sz' _ h1=>by cases h1}
  obtain ⟨d,t⟩:=t
  cases d with
  | succ d=>simp[St.look] at ht
  | zero=>?_
  obtain ⟨j,rfl,hj⟩:=bS _ _ _ _ ht
  have hlt:j<vs.size:=by
   have:=(List.getElem?_eq_some_iff.1 hj).1
   omega
  refine ⟨vs.getD j undef,?_,.base (hR j x hj)⟩
  simp only[z0.val]
  rw[Nat.zero_add,Array.getElem?_append_left hlt]
  simp[hlt]
 refine jS (F:={w0:=w,I0:=I,N:=fn.ntmps}) code ac htr hH h fun e s a' w' _ hK hH'=>?_
 obtain ⟨he,r0,hr,himp⟩:=hK0 _ _ hK
 obtain ⟨I',β,lam,hI'⟩:=hH'
 obtain ⟨xs,hxs,rfl⟩:=MD hr
 have hJ:∀ b o,Seen I' β lam b o→(I b o∨w.heap.size≤b)∧b<w'.heap.size:=by
  intro b o hb
  rcases hb with hb | ⟨k,hb⟩ | ⟨l,p,cap,sz,hl,h0⟩
  ·exact ⟨hI'.Inew b o hb,hI'.Isub b o hb⟩
  ·exact ⟨.inr (hI'.bnew k b hb).1,(hI'.bnew k b hb).2.1⟩
  ·obtain ⟨g1,g2,_⟩:=hI'.ublock hl h0
   exact ⟨.inr g1,g2⟩
 obtain ⟨v,hrun,hRv⟩:=kj (fn:=fn) (rd:=UZ s) (Rel:=R0 (fun b o=>(I b o∨w.heap.size≤b)∧b<w'.heap.size) w') (fun rv ra x h1 h2=>by
   obtain ⟨v,g1,g2⟩:=JX hI' h1 h2
   exact ⟨v,g1,g2.mono hJ (fun _ _ _ _ h=>h)⟩) (fun xs vs _ h2 h3=>.tuple xs vs h2 h3) hres hxs
 have hpost:a'.defers=[]∧∃ v,(results fn a'.tmps).run P w'=.ok v w'∧∃ u,Ending.returned v=.returned u∧Below w.heap.size w w'∧R0 (fun b o=>(I b o∨w.heap.size≤b)∧b<w'.heap.size) w' r u :=
  ⟨hI'.defers,v,hrun,v,rfl,hI'.below,himp _ _ _ hRv⟩
 rcases he with rfl | rfl
 ·exact hpost
 ·exact hpost
end
def zj (P:Program) (f:FuncId):Option (zc × List zu × Nat) :=
 match P.funcs[f]? with
 | some fn=>match fn.body with
  | some c=>match ye P fn.ntmps c,yv (uC P) fn.results.toList with
   | some a,some r=>some (a,r,fn.ntmps)
   | _,_=>none
  | none=>none
 | none=>none
theorem C0 {P:Program} {f:FuncId} {ac:zc} {ras:List zu} {N:Nat} {args:List AV} {r:AV} {K:Exit→St→Prop} (hK0:∀ e s,K e s→(e=.normal∨e=.ret)∧∃ r0,sI ras s=some r0∧AV.imp r0 r) (ht:zj P f=some (bare ac,ras,N)) (hn:args.length≤N)
  (h:awp P ac {env:=ve 0 args,sto:=[]} K):zd P f args r:=by
 unfold zj at ht
 split at ht
 ·rename_i fn hf
  split at ht
  ·rename_i c hb
   split at ht
   ·rename_i a r' ha hr
    simp only[Option.some.injEq,Prod.mk.injEq] at ht
    obtain ⟨rfl,rfl,rfl⟩:=ht
    exact abj hK0 hf hb ha hr hn h
   ·cases ht
  ·cases ht
 ·cases ht
theorem sound {P:Program} {f:FuncId} {ac:zc} {ras:List zu} {N:Nat} {args:List AV} {r:AV} (ht:zj P f=some (bare ac,ras,N)) (hn:args.length≤N)
  (h:awp P ac {env:=ve 0 args,sto:=[]} fun e s=>(e=.normal∨e=.ret)∧sI ras s=some r):zd P f args r :=
 C0 (fun _ _ h=>⟨h.1,r,h.2,AV.imp.refl⟩) ht hn h
theorem age {P:Program} {f:FuncId} {ac:zc} {ras:List zu} {N:Nat} {args:List AV} {s:St} {K:AV→St→Prop} (B:Nat) (ht:zj P f=some (bare ac,ras,N)) (hn:args.length≤N)
  (h:awp P ac {env:=ve 0 args,sto:=s.sto,out:=s.env::s.out,base:=B} fun e s'=>(e=.normal∨e=.ret)∧∃ xs e0 o0,yv (lI s') ras=some xs∧s'.out=e0::o0∧K (tup xs) {env:=e0,sto:=s'.sto,out:=o0,base:=s.base}):z5 P f args s K:=by
 unfold zj at ht
 split at ht
 ·rename_i fn hf
  split at ht
  ·rename_i c hb
   split at ht
   ·rename_i a r' ha hr
    simp only[Option.some.injEq,Prod.mk.injEq] at ht
    obtain ⟨rfl,rfl,rfl⟩:=ht
    exact BT B hf hb ha hr hn h
   ·cases ht
  ·cases ht
 ·cases ht
abbrev iv (n:Int):AV:=.val (.int .i64 n)
abbrev bv (b:Bool):AV:=.val (.bool b)
def NH (D DK:List Nat) (K:Exit→St→Prop):St→Prop:=fun s=>Y3 (s.drop D) DK fun s=>K .normal s
def afX (P:Program) (ops:List zi) (D DK:List Nat) (K:Exit→St→Prop):St→Prop:=fun s=>zl P ops s (NH D DK K)
def ry (P:Program) (b:zc) (K:Exit→St→Prop):Exit→St→Prop:=MJ (awp P b) K
def wR (id:Nat) (K:Exit→St→Prop):Exit→St→Prop:=Tt id K
def dE (P:Program) (os:List zi) (K:St→Prop):St→Prop:=fun s=>zl P os s K
def xt (P:Program) (os:List zi) (s:St) (d:Option Nat) (K:St→Prop):AV→Option ze→Prop:=fun x e=>zl P os ((s.put d x).new d e) K
def p0 (x:AV) (A B:Prop):Prop :=
 match x with
 | .val (.bool c)=>(c=true→A)∧(c=false→B)
 | _=>False
def qr (x:AV) (b:Bool) (A B:Prop):Prop :=
 match x with
 | .val (.bool c)=>(c=b→A)∧(c=!b→B)
 | .val _=>B
 | _=>False
theorem aio {s:St} {n:Nat}:ev s (.t n)=(lk s.env n).getD .undef:=congrArg (fun x=>x) rfl
theorem ain {s:St} {x:AV}:ev s (.c x)=x:=congrArg (fun x=>x) rfl
theorem afs {s:St} {n:Nat}:s.get n=(lk s.env n).getD .undef:=congrArg (fun x=>x) rfl
@[congr] theorem agw {x x':AV} {A B:Prop} (h:Unit→x=x'):p0 x A B=p0 x' A B:=by rw[h ()]
@[congr] theorem aft {x x':AV} {b:Bool} {A B:Prop} (h:Unit→x=x'):qr x b A B=qr x' b A B:=by rw[h ()]
section
variable {P:Program} {s:St} {K:Exit→St→Prop} {KS:St→Prop} {os:List zi}
theorem Gt {A B:Prop}:p0 (bv true) A B=A:=by simp[p0]
theorem LL {A B:Prop}:p0 (bv false) A B=B:=by simp[p0]
theorem Gs {c:Bool} {A B:Prop}:p0 (bv c) A B=((c=true→A)∧(c=false→B)):=propext Iff.rfl
theorem GQ {b:Bool} {A B:Prop}:qr (bv b) b A B=A:=by cases b<;>simp[qr]
theorem NW {A B:Prop}:qr (bv true) false A B=B:=by simp[qr]
theorem NX {A B:Prop}:qr (bv false) true A B=B:=by simp[qr]
theorem L1 {b:Bool} {A B:Prop}:qr (.val undef) b A B=B:=propext Iff.rfl
theorem BM:awp P .skip s K=K .normal s:=propext Iff.rfl
theorem Gj {d:Bool} {FK:List Nat} {D DK:List Nat} {ops:List zi}:awp P (.region d FK ops D DK) s K=re FK s (afX P ops D DK K):=propext Iff.rfl
theorem acl {a b:zc}:awp P (.seq a b) s K=awp P a s (ry P b K):=propext Iff.rfl
theorem BJ {c:Opd} {a b:zc}:awp P (.cond c a b) s K=p0 (ev s c) (awp P a s K) (awp P b s K):=propext Iff.rfl
theorem Em {id:Nat} {a:zc}:awp P (.block id a) s K=awp P a s (wR id K):=propext Iff.rfl
theorem BL {l:Nat}:awp P (.goto l) s K=K (.goto l) s:=propext Iff.rfl
theorem BK {id:Nat}:awp P (.exit id) s K=K (.exit id) s:=propext Iff.rfl
theorem ack:awp P .ret s K=K .ret s:=propext Iff.rfl
theorem adK {D DK:List Nat} {ops:List zi}:afX P ops D DK K s=zl P ops s (NH D DK K):=propext Iff.rfl
theorem Jd {D DK:List Nat}:NH D DK K s=(jf (lk s.sto) (DK.map (s.base+·)) ⟨del D s.env,del (DK.map (s.base+·)) s.sto,s.out,s.base⟩=true∧K .normal ⟨del D s.env,del (DK.map (s.base+·)) s.sto,s.out,s.base⟩):=propext Iff.rfl
theorem K8 {α:Type} (l:List (Nat × α)):del [] l=l:=by
 induction l with
 | nil=>rfl
 | cons p l ih=>simp[del,ih]
theorem Av {D:List Nat}:NH D [] K s=K .normal ⟨del D s.env,s.sto,s.out,s.base⟩:=by
 rw[Jd]
 simp[jf,K8]
theorem Kn {b:zc}:ry P b K .normal s=awp P b s K:=propext Iff.rfl
theorem CA {b:zc} {i:Nat}:ry P b K (.exit i) s=K (.exit i) s:=propext Iff.rfl
theorem aaT {b:zc}:ry P b K .ret s=K .ret s:=propext Iff.rfl
theorem Ph {i:Nat}:wR i K .normal s=K .normal s:=propext Iff.rfl
theorem LF {i j:Nat}:wR i K (.exit j) s=if j=i then K .normal s else K (.exit j) s:=propext Iff.rfl
theorem Gl {i:Nat}:wR i K .ret s=K .ret s:=propext Iff.rfl
theorem CB {b:zc} {i:Nat}:ry P b K (.goto i) s=K (.goto i) s:=propext Iff.rfl
theorem LG {i j:Nat}:wR i K (.goto j) s=K (.goto j) s:=propext Iff.rfl
theorem LW:re [] s KS=KS s:=propext Iff.rfl
theorem adv:zl P [] s KS=KS s:=propext Iff.rfl
theorem D1 {d:Option Nat} {op:AOp} {xs:List Opd} {g:Nat} {b:Bool}:zl P (⟨d,op,xs,some (g,b)⟩::os) s KS =
  qr (s.get g) b (zl P (⟨d,op,xs,none⟩::os) s KS) (zl P os (s.put d (.val undef)) KS):=propext Iff.rfl
variable {d:Nat}
theorem adu {x:Opd}:zl P (⟨some d,.mov,[x],none⟩::os) s KS=zl P os ⟨pt s.env d (ev s x),s.sto,s.out,s.base⟩ KS:=propext Iff.rfl
theorem aaf {c a b:Opd}:zl P (⟨some d,.pick,[c,a,b],none⟩::os) s KS=p0 (ev s c) (zl P os ⟨pt s.env d (ev s a),s.sto,s.out,s.base⟩ KS) (zl P os ⟨pt s.env d (ev s b),s.sto,s.out,s.base⟩ KS):=by
 show (match [ev s c,ev s a,ev s b] with | [.val (.bool t),a,b]=>(t=true→xt P os s (some d) KS a none)∧(t=false→xt P os s (some d) KS b none) | _=>False)=_
 unfold p0
 cases ev s c<;>try rfl
 rename_i v
 cases v<;>rfl
theorem DU {cells:List AV}:zl P (⟨some d,.alloc cells,[],none⟩::os) s KS=(lk s.sto (s.base+d)=none∧zl P os ⟨pt s.env d (.ptr (s.base+d) 0),pt s.sto (s.base+d) (.var cells),s.out,s.base⟩ KS):=propext Iff.rfl
def nz (x:Option AV) (P:Program) (os:List zi) (s:St) (d:Nat) (KS:St→Prop):Prop :=
 match x with
 | some v=>zl P os ⟨pt s.env d v,s.sto,s.out,s.base⟩ KS
 | none=>False
theorem D6 {v:AV}:nz (some v) P os s d KS=zl P os ⟨pt s.env d v,s.sto,s.out,s.base⟩ KS:=propext Iff.rfl
theorem adq {d:Option Nat} {o:BinOp} {t:TypeId} {ox oy:Operand} {x y:Opd}:zl P (⟨d,.bin o t ox oy,[x,y],none⟩::os) s KS=yd P o t ox oy [ev s x,ev s y] (xt P os s d KS):=propext Iff.rfl
theorem aab {d:Option Nat} {n:Option Nat} {x:Opd}:zl P (⟨d,.load n,[x],none⟩::os) s KS=lY (lk s.sto) n [ev s x] (xt P os s d KS):=propext Iff.rfl
theorem G6 {d:Option Nat} {n m:Nat} {x y:Opd}:zl P (⟨d,.iaddrA n m,[x,y],none⟩::os) s KS=nO n m [ev s x,ev s y] (xt P os s d KS):=propext Iff.rfl
theorem G7 {d:Option Nat} {n:Nat} {x y:Opd}:zl P (⟨d,.iaddrS n,[x,y],none⟩::os) s KS=nP n [ev s x,ev s y] (xt P os s d KS):=propext Iff.rfl
theorem D3 {d:Option Nat} {n:Nat} {a b c:Bool} {xs:List Opd}:zl P (⟨d,.slice n a b c,xs,none⟩::os) s KS=pO n a b c (xs.map (ev s)) (xt P os s d KS):=propext Iff.rfl
theorem afL {d:Option Nat} {n m:Nat} {z:List AV} {x y:Opd}:zl P (⟨d,.mk n m z,[x,y],none⟩::os) s KS=eMk n m z (s.base+d.getD 0) (lk s.sto) [ev s x,ev s y] (xt P os s d KS):=propext Iff.rfl
theorem ads {d:Option Nat} {b:Bool} {x:Opd}:zl P (⟨d,.len b,[x],none⟩::os) s KS=lh b [ev s x] (xt P os s d KS):=propext Iff.rfl
theorem A8 {d:Option Nat} {f:FuncId} {xs:List Opd}:zl P (⟨d,.call f,xs,none⟩::os) s KS=we P f (lk s.sto) (xs.map (ev s)) (xt P os s d KS):=propext Iff.rfl
theorem adt {d:Nat} {f:FuncId} {xs:List Opd}:zl P (⟨some d,.mkb f,xs,none⟩::os) s KS=zl P os ⟨pt s.env d (.fn (.via 0 #[] f false) ((xs.map (ev s)).map strip)),s.sto,s.out,s.base⟩ KS:=propext Iff.rfl
theorem aac {d:Nat} {f:FuncId} {xs:List Opd}:zl P (⟨some d,.mkfn f,xs,none⟩::os) s KS=zl P os ⟨pt s.env d (.fn (.func f) ((xs.map (ev s)).map strip)),s.sto,s.out,s.base⟩ KS:=propext Iff.rfl
theorem aad {d:Nat} {t:TypeId} {x:Opd}:zl P (⟨some d,.mkif t,[x],none⟩::os) s KS=(rf (ev s x)=true∧zl P os ⟨pt s.env d (.iface t (strip (ev s x))),s.sto,s.out,s.base⟩ KS):=propext Iff.rfl
def unA (P:Program) (op:UnOp):AV→Option AV
 | .val v=>(zr P (Op.unary op v)).map ofV
 | _=>none
def YZ (P:Program) (a b:TypeId):AV→Option AV
 | .val v=>(zr P (convert a b v)).map ofV
 | _=>none
def gZ (off:Nat) (n:Option Nat):AV→Option AV
 | .agg cells=>vJ cells off n
 | .raw cells=>zD cells off n
 | _=>none
def NM (off:Nat):AV→Option AV
 | .ptr j o=>some (.ptr j (o+off))
 | .eptr j sz i o=>some (.eptr j sz i (o+off))
 | .up j sz i o=>some (.up j sz i (o+off))
 | .ro cells=>some (.ro (cells.drop off))
 | _=>none
def TW (i:Nat):AV→Option AV
 | .tuple vs=>vs[i]?
 | _=>none
def zH:AV→Option AV
 | .ptr j off=>some (.ptr j off)
 | .eptr j sz i off=>some (.eptr j sz i off)
 | .up j sz i off=>some (.up j sz i off)
 | .ro cells=>some (.ro cells)
 | .fn f caps=>some (.fn f caps)
 | _=>none
theorem afN {o:UnOp} {x:Opd}:zl P (⟨some d,.un o,[x],none⟩::os) s KS=nz (unA P o (ev s x)) P os s d KS:=by
 show zL P (s.base+d) (.un o) [ev s x] (lk s.sto) (xt P os s (some d) KS)=_
 simp only[zL]
 cases ev s x<;>try rfl
 rename_i v
 simp only[unA]
 cases zr P (Op.unary o v)<;>rfl
theorem A9 {a b:TypeId} {x:Opd}:zl P (⟨some d,.conv a b,[x],none⟩::os) s KS=nz (YZ P a b (ev s x)) P os s d KS:=by
 show zL P (s.base+d) (.conv a b) [ev s x] (lk s.sto) (xt P os s (some d) KS)=_
 simp only[zL]
 cases ev s x<;>try rfl
 rename_i v
 simp only[YZ]
 cases zr P (convert a b v)<;>rfl
theorem D0 {off:Nat} {n:Option Nat} {x:Opd}:zl P (⟨some d,.field off n,[x],none⟩::os) s KS=nz (gZ off n (ev s x)) P os s d KS:=by
 show zL P (s.base+d) (.field off n) [ev s x] (lk s.sto) (xt P os s (some d) KS)=_
 simp only[zL]
 cases ev s x<;>try rfl
 ·rename_i v
  simp only[gZ]
  cases vJ v off n<;>rfl
 ·rename_i v
  simp only[gZ]
  cases zD v off n<;>rfl
theorem DZ {off:Nat} {x:Opd}:zl P (⟨some d,.faddr off,[x],none⟩::os) s KS=nz (NM off (ev s x)) P os s d KS:=by
 show zL P (s.base+d) (.faddr off) [ev s x] (lk s.sto) (xt P os s (some d) KS)=_
 simp only[zL]
 cases ev s x<;>rfl
theorem L7 {i:Nat} {x:Opd}:zl P (⟨some d,.extract i,[x],none⟩::os) s KS=nz (TW i (ev s x)) P os s d KS:=by
 show zL P (s.base+d) (.extract i) [ev s x] (lk s.sto) (xt P os s (some d) KS)=_
 simp only[zL]
 cases ev s x<;>try rfl
 rename_i v
 simp only[TW]
 cases v[i]?<;>rfl
theorem Fa {x:Opd}:zl P (⟨some d,.nilChk,[x],none⟩::os) s KS=nz (zH (ev s x)) P os s d KS:=by
 show zL P (s.base+d) .nilChk [ev s x] (lk s.sto) (xt P os s (some d) KS)=_
 simp only[zL]
 cases ev s x<;>rfl
theorem DV {z:List AV} {ps:List (Nat × Nat)} {xs:List Opd}:zl P (⟨some d,.build z ps,xs,none⟩::os) s KS=nz (orR (tk z ps (xs.map (ev s))) (sy z ps (xs.map (ev s)))) P os s d KS:=by
 show zL P (s.base+d) (.build z ps) (xs.map (ev s)) (lk s.sto) (xt P os s (some d) KS)=_
 simp only[zL]
 cases orR (tk z ps (xs.map (ev s))) (sy z ps (xs.map (ev s)))<;>rfl
def orL (sz:Nat):Option (List (List AV))→Option (List (List AV))→Option AV
 | some rows,_=>some (.list sz .full rows)
 | none,some rows=>some (.lit sz rows)
 | none,none=>none
@[congr] theorem ah0 {a a' b:Option (List AV)} (h:a=a'):orR a b=orR a' b:=by rw[h]
@[congr] theorem ahZ {sz:Nat} {a a' b:Option (List (List AV))} (h:a=a'):orL sz a b=orL sz a' b:=by rw[h]
theorem aan {cs:List AV} {b:Option (List AV)}:orR (some cs) b=some (.agg cs):=by cases b<;>exact congrArg (fun x=>x) rfl
theorem aam {b:Option (List AV)}:orR none b=b.map .raw:=by cases b<;>exact congrArg (fun x=>x) rfl
theorem aal {sz:Nat} {rows:List (List AV)} {b:Option (List (List AV))}:orL sz (some rows) b=some (.list sz .full rows):=by cases b<;>exact congrArg (fun x=>x) rfl
theorem aak {sz:Nat} {b:Option (List (List AV))}:orL sz none b=b.map (.lit sz):=by cases b<;>exact congrArg (fun x=>x) rfl
theorem Mq {sz n:Nat} {z:List AV} {ps:List Nat} {xs:List Opd} (h1:z.length=sz) (h2:0<sz) :
  zl P (⟨some d,.mksliceL sz n z ps,xs,none⟩::os) s KS=nz ((wb sz (List.replicate n z) ps (xs.map (ev s))).map (.lit sz)) P os s d KS:=by
 show zL P (s.base+d) (.mksliceL sz n z ps) (xs.map (ev s)) (lk s.sto) (xt P os s (some d) KS)=_
 simp only[zL]
 cases wb sz (List.replicate n z) ps (xs.map (ev s)) with
 | none=>rfl
 | some rows=>simp only[h1,h2,true_and]; rfl
theorem D2:zl P (⟨some d,.mkmap,[],none⟩::os) s KS=(lk s.sto (s.base+d)=none∧zl P os ⟨pt s.env d (.mp (s.base+d)),pt s.sto (s.base+d) (.map #[] 0),s.out,s.base⟩ KS):=propext Iff.rfl
theorem G8 {d:Option Nat} {t:TypeId} {ok:Bool} {x y:Opd}:zl P (⟨d,.lookup t ok,[x,y],none⟩::os) s KS=uL P t ok (lk s.sto) [ev s x,ev s y] (xt P os s d KS):=propext Iff.rfl
theorem G9 {d:Option Nat} {t:TypeId} {x y z:Opd}:zl P (⟨d,.mapset t,[x,y,z],none⟩::os) s KS=tH P t s d (dE P os KS) [ev s x,ev s y,ev s z]:=propext Iff.rfl
theorem L8 {sz n:Nat} {z:List AV} {ps:List Nat} {xs:List Opd} (h1:z.length=sz) (h2:0<sz) :
  zl P (⟨some d,.mkslice sz n z ps,xs,none⟩::os) s KS=nz (orL sz (uB sz (List.replicate n z) ps (xs.map (ev s))) (wb sz (List.replicate n z) ps (xs.map (ev s)))) P os s d KS:=by
 show zL P (s.base+d) (.mkslice sz n z ps) (xs.map (ev s)) (lk s.sto) (xt P os s (some d) KS)=_
 simp only[zL]
 cases uB sz (List.replicate n z) ps (xs.map (ev s)) with
 | none =>
  cases wb sz (List.replicate n z) ps (xs.map (ev s)) with
  | none=>rfl
  | some rows=>simp only[h1,h2,true_and]; rfl
 | some rows=>simp only[h1,h2,true_and]; rfl
def U0 (ras:List zu) (r:AV):Exit→St→Prop:=fun e s=>(e=.normal∨e=.ret)∧sI ras s=some r
theorem aaw {ras:List zu} {r:AV}:U0 ras r .ret s=(sI ras s=some r):=by simp[U0]
theorem Kh {ras:List zu} {r:AV}:U0 ras r .normal s=(sI ras s=some r):=by simp[U0]
theorem zt {f:FuncId} {ac:zc} {ras:List zu} {N:Nat} {args:List AV} {r:AV} (ht:zj P f=some (bare ac,ras,N)) (hn:args.length≤N)
  (h:awp P ac ⟨ve 0 args,[],[],0⟩ (U0 ras r)):zd P f args r:=sound ht hn h
def aj (ras:List zu) (r:AV):Exit→St→Prop:=fun e s=>(e=.normal∨e=.ret)∧∃ r0,sI ras s=some r0∧AV.imp r0 r
theorem aaB {ras:List zu} {r:AV}:aj ras r .ret s=∃ r0,sI ras s=some r0∧AV.imp r0 r:=by simp[aj]
theorem Ki {ras:List zu} {r:AV}:aj ras r .normal s=∃ r0,sI ras s=some r0∧AV.imp r0 r:=by simp[aj]
theorem wN {f:FuncId} {ac:zc} {ras:List zu} {N:Nat} {args:List AV} {r:AV} (ht:zj P f=some (bare ac,ras,N)) (hn:args.length≤N)
  (h:awp P ac ⟨ve 0 args,[],[],0⟩ (aj ras r)):zd P f args r:=C0 (fun _ _ h=>h) ht hn h
def ae4 (x:Option (List AV)) (P:Program) (os:List zi) (s:St) (d:Nat) (KS:St→Prop):Prop :=
 match x with
 | some cs=>lk s.sto (s.base+d)=none∧zl P os ⟨pt s.env d (.ptr (s.base+d) 0),pt s.sto (s.base+d) (.var cs),s.out,s.base⟩ KS
 | none=>False
theorem Es {cs:List AV}:ae4 (some cs) P os s d KS=(lk s.sto (s.base+d)=none∧zl P os ⟨pt s.env d (.ptr (s.base+d) 0),pt s.sto (s.base+d) (.var cs),s.out,s.base⟩ KS):=propext Iff.rfl
theorem adr {x:Opd}:zl P (⟨some d,.box,[x],none⟩::os) s KS=ae4 (cellsOf (ev s x)) P os s d KS:=propext Iff.rfl
theorem aah {x:Option AV}:xT x (xt P os s (some d) KS)=nz x P os s d KS:=by cases x<;>rfl
theorem Mr {x:Option Value}:yS x (xt P os s (some d) KS)=nz (x.map ofV) P os s d KS:=by cases x<;>rfl
theorem Cf {v:AV}:xt P os s (some d) KS v none=zl P os ⟨pt s.env d v,s.sto,s.out,s.base⟩ KS:=propext Iff.rfl
theorem Fg {v:AV}:xt P os s none KS v none=zl P os s KS:=propext Iff.rfl
theorem Cg {v:AV} {e:ze}:xt P os s (some d) KS v (some e)=zl P os ⟨pt s.env d v,pt s.sto (s.base+d) e,s.out,s.base⟩ KS:=propext Iff.rfl
theorem D5 {n:Nat} {a b:Opd}:zl P (⟨none,.store n,[a,b],none⟩::os) s KS=mC n s none [ev s a,ev s b] (dE P os KS):=propext Iff.rfl
theorem L6 {sz by_:Nat} {a b:Opd} {d:Option Nat}:zl P (⟨d,.appendU sz by_,[a,b],none⟩::os) s KS=xl sz by_ s d (dE P os KS) [ev s a,ev s b]:=propext Iff.rfl
theorem DW {f:FuncId} {xs:List Opd} {d:Option Nat}:zl P (⟨d,.callI f,xs,none⟩::os) s KS=(yR P f=true∧tG P f (xs.map (ev s)) s d (dE P os KS)):=propext Iff.rfl
theorem aae {neg:Bool} {x:Opd} {d:Option Nat}:zl P (⟨d,.nilS neg,[x],none⟩::os) s KS=eH neg s d (dE P os KS) [ev s x]:=propext Iff.rfl
theorem GA {neg:Bool} {d:Option Nat} {sz:Nat} {m:Mode} {rows:List (List AV)} {K:St→Prop}:eH neg s d K [.list sz m rows]=((rows=[]→K (s.put d (bv true))∧K (s.put d (bv false)))∧(rows≠[]→K (s.put d (bv neg)))):=by
 simp only[eH,Mj,List.length_eq_zero_iff,ne_eq]
theorem adp:dE P os KS s=zl P os s KS:=propext Iff.rfl
theorem G5 {sz by_:Nat} {a b:Opd} {d:Option Nat}:zl P (⟨d,.append sz by_,[a,b],none⟩::os) s KS=yM sz by_ s d (dE P os KS) [ev s a,ev s b]:=propext Iff.rfl
end
section
variable {P:Program} {t:TypeId} {ox oy:Operand} {k:IntKind} {a b:Int} {K:AV→Option ze→Prop}
theorem Ai:yd P .add t ox oy [.val (.int k a),.val (.int k b)] K=K (.val (.int k (k.wrap (a+b)))) none:=by
 simp[yd,toV,zr,eqGuard,binOp,Op.intArith,yS,ofV,y9,bind,Sem.bind,pure]
theorem As:yd P .sub t ox oy [.val (.int k a),.val (.int k b)] K=K (.val (.int k (k.wrap (a-b)))) none:=by
 simp[yd,toV,zr,eqGuard,binOp,Op.intArith,yS,ofV,y9,bind,Sem.bind,pure]
theorem Aq:yd P .mul t ox oy [.val (.int k a),.val (.int k b)] K=K (.val (.int k (k.wrap (a*b)))) none:=by
 simp[yd,toV,zr,eqGuard,binOp,Op.intArith,yS,ofV,y9,bind,Sem.bind,pure]
theorem Ap:yd P .lss t ox oy [.val (.int k a),.val (.int k b)] K=K (bv (decide (a<b))) none:=by
 simp[yd,toV,zr,eqGuard,binOp,Op.intCmp,yS,ofV,y9,bind,Sem.bind,pure]
theorem Ao:yd P .leq t ox oy [.val (.int k a),.val (.int k b)] K=K (bv (decide (a≤b))) none:=by
 simp[yd,toV,zr,eqGuard,binOp,Op.intCmp,yS,ofV,y9,bind,Sem.bind,pure]
theorem An:yd P .gtr t ox oy [.val (.int k a),.val (.int k b)] K=K (bv (decide (b<a))) none:=by
 simp[yd,toV,zr,eqGuard,binOp,Op.intCmp,yS,ofV,y9,bind,Sem.bind,pure]
theorem Al:yd P .geq t ox oy [.val (.int k a),.val (.int k b)] K=K (bv (decide (b≤a))) none:=by
 simp[yd,toV,zr,eqGuard,binOp,Op.intCmp,yS,ofV,y9,bind,Sem.bind,pure]
theorem Ak:yd P .eql t ox oy [.val (.int k a),.val (.int k b)] K=K (bv (decide (a=b))) none:=by
 simp[yd,toV,zr,eqGuard,binOp,Op.intCmp,yS,ofV,y9,bind,Sem.bind,pure]
 rfl
theorem Ar:yd P .neq t ox oy [.val (.int k a),.val (.int k b)] K=K (bv (decide (a≠b))) none:=by
 simp[yd,toV,zr,eqGuard,binOp,Op.intCmp,yS,ofV,y9,bind,Sem.bind,pure]
 rfl
theorem agq {c:Bool}:zr P (Op.unary .not (.bool c))=some (.bool !c):=by
 simp[zr,Op.unary,pure]
theorem wrap64 {n:Int} (h1:-9223372036854775808≤n) (h2:n≤9223372036854775807):IntKind.i64.wrap n=n:=IntWalk.i64_in n ⟨h1,h2⟩
end
theorem FN {cells:List AV} {off:Nat} {x:AV} (h:off<cells.length):splice cells off [x]=cells.set off x:=by
 unfold splice
 rw[List.set_eq_take_append_cons_drop,if_pos h]
 simp
theorem FL {cells cs:List AV} (h:cs.length=cells.length):splice cells 0 cs=cs:=by
 unfold splice
 simp[h]
theorem Ei (k:Nat) (l:List Int):xn k (l.map iv)=false:=by
 induction l with
 | nil=>rfl
 | cons x l ih=>simp[ih,xn,zU]
theorem Lk:strip∘iv=iv:=rfl
theorem QE {l:List Int} {n:Nat} (h:l.length=n):zD (l.map iv) 0 (some n)=some (.agg (l.map iv)):=by
 have h1:(l.map iv).all rf=true:=by simp[rf]
 have h2:(l.map iv).map strip=l.map iv:=by simp[Lk]
 simp only[zD,List.drop_zero]
 rw[List.take_of_length_le (by simp; omega),if_pos ⟨by simp; omega,h1⟩,h2]
theorem L0 (cells:List AV) (off:Nat):zD cells off none=cells[off]?:=by simp[zD]
section
variable {σ:Nat→Option ze}
theorem FH:wP σ .undef=some .undef:=rfl
theorem abi {v:Value}:wP σ (.val v)=some (.val v):=rfl
theorem abg {c:List AV}:wP σ (.agg c)=some (.agg c):=rfl
theorem FG {c:List AV}:wP σ (.tuple c)=if c.all rf=true then some (.tuple (c.map strip)) else none:=rfl
theorem CY {sz:Nat} {m:Mode} {r:List (List AV)}:wP σ (.list sz m r)=some (strip (.list sz m r)):=rfl
theorem ad2 {c:List AV}:wP σ (.ro c)=some (.ro c):=rfl
theorem abh {k off:Nat}:wP σ (.ptr k off)=(match σ k with
  | some (.var cells)=>if (cells.drop off).all rf=true then some (.ro ((cells.drop off).map strip)) else (yv (xO σ) (cells.drop off)).map .ro
  | _=>none):=rfl
theorem CU {v:Value}:xO σ (.val v)=some (.val v):=rfl
theorem CT {c:List AV}:xO σ (.agg c)=some (.agg c):=rfl
theorem FD {sz:Nat} {m:Mode} {r:List (List AV)}:xO σ (.list sz m r)=some (strip (.list sz m r)):=rfl
theorem abc {c:List AV}:xO σ (.ro c)=some (.ro c):=rfl
theorem abe {k sz off n:Nat}:xO σ (.us k sz off n)=(match σ k with
  | some (.uarr sz' rows)=>if sz'=sz∧off+n≤rows.length∧yn ((rows.drop off).take n)=true then some (.list sz .plain (zN ((rows.drop off).take n))) else none
  | _=>none):=rfl
theorem abd {k sz off n:Nat}:xO σ (.sl k sz off n)=(match σ k with
  | some (.arr sz' rows)=>if sz'=sz∧off+n≤rows.length then some (.list sz .plain ((rows.drop off).take n)) else none
  | _=>none):=rfl
theorem CX {k sz i off:Nat}:wP σ (.eptr k sz i off)=(match σ k with
  | some (.arr sz' rows)=>if sz'=sz then (rows[i]?).map fun r=>.ro (r.drop off) else none
  | _=>none):=rfl
theorem ad3 {k sz off n:Nat}:wP σ (.sl k sz off n)=(match σ k with
  | some (.arr sz' rows)=>if sz'=sz∧off+n≤rows.length then some (.list sz .plain ((rows.drop off).take n)) else none
  | _=>none):=rfl
theorem ad5 {k sz off n:Nat}:wP σ (.us k sz off n)=(match σ k with
  | some (.uarr sz' rows)=>if sz'=sz∧off+n≤rows.length∧yn ((rows.drop off).take n)=true then some (.list sz .plain (zN ((rows.drop off).take n))) else none
  | _=>none):=rfl
theorem ad4 {k sz i off:Nat}:wP σ (.up k sz i off)=(match σ k with
  | some (.uarr sz' rows)=>match rows[i]? with
   | some r=>if sz'=sz∧(r.drop off).all rf=true then some (.ro ((r.drop off).map strip)) else none
   | none=>none
  | _=>none):=rfl
theorem FF {t:TypeId} {x:AV}:wP σ (.iface t x)=some (.iface t x):=rfl
theorem ad1 {f:Fn} {caps:List AV}:wP σ (.fn f caps)=(yv (j2 σ) caps).map (.fn f):=rfl
theorem CW {v:Value}:j2 σ (.val v)=some (.val v):=rfl
theorem CV {c:List AV}:j2 σ (.agg c)=some (.agg c):=rfl
theorem FE {sz:Nat} {m:Mode} {r:List (List AV)}:j2 σ (.list sz m r)=some (strip (.list sz m r)):=rfl
theorem abf {c:List AV}:j2 σ (.ro c)=some (.ro c):=rfl
end
theorem Kv:strip .undef=.undef:=rfl
theorem C9 {v:Value}:strip (.val v)=.val v:=rfl
theorem C6 {c:List AV}:strip (.agg c)=.agg c:=rfl
theorem Ku {c:List AV}:strip (.tuple c)=.tuple c:=rfl
theorem abp {c:List AV}:strip (.ro c)=.ro c:=rfl
theorem C8 {k o:Nat}:strip (.ptr k o)=.ptr k o:=rfl
theorem F0 {k sz i o:Nat}:strip (.eptr k sz i o)=.eptr k sz i o:=rfl
theorem abq {k sz o n:Nat}:strip (.sl k sz o n)=.sl k sz o n:=rfl
theorem abs {k sz o n:Nat}:strip (.us k sz o n)=.us k sz o n:=rfl
theorem abr {k sz i o:Nat}:strip (.up k sz i o)=.up k sz i o:=rfl
theorem Kt {t:TypeId} {x:AV}:strip (.iface t x)=.iface t x:=rfl
theorem abo {f:Fn} {c:List AV}:strip (.fn f c)=.fn f c:=rfl
attribute [simp ↓ low] Gs
attribute [simp ↓] Gt LL GQ NW NX L1
theorem MC {k:Nat}:zU k .undef=false:=rfl
theorem Fp {k:Nat} {v:Value}:zU k (.val v)=false:=rfl
theorem Fk {k:Nat} {c:List AV}:zU k (.agg c)=false:=rfl
theorem Kf {k sz:Nat} {m:Mode} {r:List (List AV)}:zU k (.list sz m r)=false:=rfl
theorem Cn {k:Nat} {c:List AV}:zU k (.ro c)=false:=rfl
theorem MA {k:Nat} {t:TypeId} {x:AV}:zU k (.iface t x)=false:=rfl
theorem Fm {k j o:Nat}:zU k (.ptr j o)=(j == k):=rfl
theorem Ke {k j a b c:Nat}:zU k (.eptr j a b c)=(j == k):=rfl
theorem Co {k j a b c:Nat}:zU k (.sl j a b c)=(j == k):=rfl
theorem Cq {k j a b c:Nat}:zU k (.us j a b c)=(j == k):=rfl
theorem Cp {k j a b c:Nat}:zU k (.up j a b c)=(j == k):=rfl
theorem Cl {k:Nat} {f:Fn} {c:List AV}:zU k (.fn f c)=c.any (uA k):=rfl
theorem MB {k:Nat} {c:List AV}:zU k (.tuple c)=c.any (uA k):=rfl
theorem aaE:rf .undef=true:=rfl
theorem af3 {v:Value}:rf (.val v)=true:=rfl
theorem afZ {c:List AV}:rf (.agg c)=true:=rfl
theorem adO {sz:Nat} {m:Mode} {r:List (List AV)}:rf (.list sz m r)=true:=rfl
theorem ahl {c:List AV}:rf (.ro c)=true:=rfl
theorem aaC {t:TypeId} {x:AV}:rf (.iface t x)=true:=rfl
theorem af1 {j o:Nat}:rf (.ptr j o)=false:=rfl
theorem adN {j a b c:Nat}:rf (.eptr j a b c)=false:=rfl
theorem ahm {j a b c:Nat}:rf (.sl j a b c)=false:=rfl
theorem aho {j a b c:Nat}:rf (.us j a b c)=false:=rfl
theorem ahn {j a b c:Nat}:rf (.up j a b c)=false:=rfl
theorem ahj {f:Fn} {c:List AV}:rf (.fn f c)=false:=rfl
theorem aaD {c:List AV}:rf (.tuple c)=false:=rfl
theorem ahk {k:Nat}:rf (.mp k)=false:=rfl
theorem af0 {n:Nat} {c:List (List AV)}:rf (.lit n c)=false:=rfl
theorem af2 {c:List AV}:rf (.raw c)=false:=rfl
theorem Cm {j k:Nat}:zU k (.mp j)=(j == k):=rfl
theorem Fl {k n:Nat} {rows:List (List AV)}:zU k (.lit n rows)=rows.any fun r=>r.any (UY k):=rfl
theorem Fo {k:Nat} {c:List AV}:zU k (.raw c)=c.any (UY k):=rfl
attribute [simp] ahk af0 af2 Cm Fl Fo UY PM
attribute [simp] MC Fp Fk Kf Cn MA Fm Ke Co Cq Cp Cl MB uA aaE af3 afZ adO ahl aaC af1 adN ahm aho ahn ahj aaD
attribute [simp] BL CB LG
attribute [simp] BM Gj acl BJ Em BK ack adK Av Jd Kn CA aaT Ph LF Gl LW adv D1 adu aaf DU Es adr adq aab G6 G7 D3 afL ads A8 aac adt aad afN A9 D0 DZ L7 Fa DV L8 Mq D2 G8 G9 aan aam aal aak aaw Kh aaB Ki D6 aah Mr Cf Fg Cg D5 adp G5 aae GA L6 DW Ai As Aq Ap Ao An Al Ak Ar Ei Lk lY nO nP lh lX mC aio ain afs lk pt del QE L0 cellsOf ve sI yv UZ FH abi abg FG CY ad2 abh CX ad3 ad1 CW FE CV abf CU CT FD abc abe abd Kv C9 C6 Ku abp C8 F0 abq abo ad5 ad4 FF abs abr Kt St.unmet jf tK ze.isU q9 tQ mH xn yK lK unA agq gZ NM TW zH single Value.oneCell' List.getElem?_eq_getElem
def xX (P:Program) (os:List zi) (s:St) (d:Nat) (KS:St→Prop):AV→Option ze→Prop:=fun x e=>lk s.env d=some x∧lk s.sto (s.base+d)=e∧zl P os s KS
def nr (x:Option AV) (P:Program) (os:List zi) (s:St) (d:Nat) (KS:St→Prop):Prop :=
 match x with
 | some v=>lk s.env d=some v∧lk s.sto (s.base+d)=none∧zl P os s KS
 | none=>False
def ae5 (x:Option (List AV)) (P:Program) (os:List zi) (s:St) (d:Nat) (KS:St→Prop):Prop :=
 match x with
 | some cs=>lk (del [s.base+d] s.sto) (s.base+d)=none∧lk s.env d=some (.ptr (s.base+d) 0)∧lk s.sto (s.base+d)=some (.var cs)∧zl P os s KS
 | none=>False
section
variable {P:Program} {s:St} {KS:St→Prop} {os:List zi} {d:Nat}
theorem acq {x:AV} {e:Option ze}:xX P os s d KS x e=(lk s.env d=some x∧lk s.sto (s.base+d)=e∧zl P os s KS):=propext Iff.rfl
theorem EB {x:AV}:nr (some x) P os s d KS=(lk s.env d=some x∧lk s.sto (s.base+d)=none∧zl P os s KS):=propext Iff.rfl
theorem Ey {cs:List AV}:ae5 (some cs) P os s d KS=(lk (del [s.base+d] s.sto) (s.base+d)=none∧lk s.env d=some (.ptr (s.base+d) 0)∧lk s.sto (s.base+d)=some (.var cs)∧zl P os s KS):=propext Iff.rfl
theorem aag {x:Option AV}:xT x (xX P os s d KS)=nr x P os s d KS:=by cases x<;>rfl
theorem aai {x:Option Value}:yS x (xX P os s d KS)=nr (x.map ofV) P os s d KS:=by cases x<;>rfl
theorem D4 {ds:List Nat}:zl P (⟨none,.start ds,[],none⟩::os) s KS=(tI s.sto s.base ds∧zl P os ⟨del ds s.env,s.sto,s.out,s.base⟩ KS):=propext Iff.rfl
def ab8 (P:Program) (os:List zi) (s:St) (d:Nat) (KS:St→Prop):Prop:=lk s.env d=some (.val undef)∧lk s.sto (s.base+d)=none∧zl P os s KS
theorem EG {op:AOp} {g:Nat} {b:Bool} {xs:List Opd}:zl P (⟨some d,.chkG op g b,xs,none⟩::os) s KS=qr (s.get g) b (zl P (⟨some d,.chk op,xs,none⟩::os) s KS) (ab8 P os s d KS):=propext Iff.rfl
theorem aaQ:ab8 P os s d KS=(lk s.env d=some (.val undef)∧lk s.sto (s.base+d)=none∧zl P os s KS):=propext Iff.rfl
theorem acv {x:Opd}:zl P (⟨some d,.chk .mov,[x],none⟩::os) s KS=xX P os s d KS (ev s x) none:=propext Iff.rfl
theorem B0 {c a b:Opd}:zl P (⟨some d,.chk .pick,[c,a,b],none⟩::os) s KS=p0 (ev s c) (xX P os s d KS (ev s a) none) (xX P os s d KS (ev s b) none):=by
 show (match [ev s c,ev s a,ev s b] with | [.val (.bool t),a,b]=>(t=true→xX P os s d KS a none)∧(t=false→xX P os s d KS b none) | _=>False)=_
 unfold p0
 cases ev s c<;>try rfl
 rename_i v
 cases v<;>rfl
theorem EC {cells:List AV}:zl P (⟨some d,.chk (.alloc cells),[],none⟩::os) s KS=(lk (del [s.base+d] s.sto) (s.base+d)=none∧xX P os s d KS (.ptr (s.base+d) 0) (some (.var cells))):=propext Iff.rfl
theorem acs {x:Opd}:zl P (⟨some d,.chk .box,[x],none⟩::os) s KS=ae5 (cellsOf (ev s x)) P os s d KS:=by
 show zL P (s.base+d) .box [ev s x] (lk (del [s.base+d] s.sto)) (xX P os s d KS)=_
 simp only[zL]
 cases cellsOf (ev s x)<;>rfl
theorem acr {o:BinOp} {t:TypeId} {ox oy:Operand} {x y:Opd}:zl P (⟨some d,.chk (.bin o t ox oy),[x,y],none⟩::os) s KS=yd P o t ox oy [ev s x,ev s y] (xX P os s d KS):=propext Iff.rfl
theorem BY {n:Option Nat} {x:Opd}:zl P (⟨some d,.chk (.load n),[x],none⟩::os) s KS=lY (lk (del [s.base+d] s.sto)) n [ev s x] (xX P os s d KS):=propext Iff.rfl
theorem Gn {n m:Nat} {x y:Opd}:zl P (⟨some d,.chk (.iaddrA n m),[x,y],none⟩::os) s KS=nO n m [ev s x,ev s y] (xX P os s d KS):=propext Iff.rfl
theorem Gp {n:Nat} {x y:Opd}:zl P (⟨some d,.chk (.iaddrS n),[x,y],none⟩::os) s KS=nP n [ev s x,ev s y] (xX P os s d KS):=propext Iff.rfl
theorem EH {n:Nat} {a b c:Bool} {xs:List Opd}:zl P (⟨some d,.chk (.slice n a b c),xs,none⟩::os) s KS=pO n a b c (xs.map (ev s)) (xX P os s d KS):=propext Iff.rfl
theorem act {b:Bool} {x:Opd}:zl P (⟨some d,.chk (.len b),[x],none⟩::os) s KS=lh b [ev s x] (xX P os s d KS):=propext Iff.rfl
theorem BW {f:FuncId} {xs:List Opd}:zl P (⟨some d,.chk (.call f),xs,none⟩::os) s KS=we P f (lk (del [s.base+d] s.sto)) (xs.map (ev s)) (xX P os s d KS):=propext Iff.rfl
theorem acu {f:FuncId} {xs:List Opd}:zl P (⟨some d,.chk (.mkb f),xs,none⟩::os) s KS=xX P os s d KS (.fn (.via 0 #[] f false) ((xs.map (ev s)).map strip)) none:=propext Iff.rfl
theorem BZ {f:FuncId} {xs:List Opd}:zl P (⟨some d,.chk (.mkfn f),xs,none⟩::os) s KS=xX P os s d KS (.fn (.func f) ((xs.map (ev s)).map strip)) none:=propext Iff.rfl
theorem ae7 {o:UnOp} {x:Opd}:zl P (⟨some d,.chk (.un o),[x],none⟩::os) s KS=nr (unA P o (ev s x)) P os s d KS:=by
 show zL P (s.base+d) (.un o) [ev s x] (lk (del [s.base+d] s.sto)) (xX P os s d KS)=_
 simp only[zL]
 cases ev s x<;>try rfl
 rename_i v
 simp only[unA]
 cases zr P (Op.unary o v)<;>rfl
theorem BX {a b:TypeId} {x:Opd}:zl P (⟨some d,.chk (.conv a b),[x],none⟩::os) s KS=nr (YZ P a b (ev s x)) P os s d KS:=by
 show zL P (s.base+d) (.conv a b) [ev s x] (lk (del [s.base+d] s.sto)) (xX P os s d KS)=_
 simp only[zL]
 cases ev s x<;>try rfl
 rename_i v
 simp only[YZ]
 cases zr P (convert a b v)<;>rfl
theorem EF {off:Nat} {n:Option Nat} {x:Opd}:zl P (⟨some d,.chk (.field off n),[x],none⟩::os) s KS=nr (gZ off n (ev s x)) P os s d KS:=by
 show zL P (s.base+d) (.field off n) [ev s x] (lk (del [s.base+d] s.sto)) (xX P os s d KS)=_
 simp only[zL]
 cases ev s x<;>try rfl
 ·rename_i v
  simp only[gZ]
  cases vJ v off n<;>rfl
 ·rename_i v
  simp only[gZ]
  cases zD v off n<;>rfl
theorem EE {off:Nat} {x:Opd}:zl P (⟨some d,.chk (.faddr off),[x],none⟩::os) s KS=nr (NM off (ev s x)) P os s d KS:=by
 show zL P (s.base+d) (.faddr off) [ev s x] (lk (del [s.base+d] s.sto)) (xX P os s d KS)=_
 simp only[zL]
 cases ev s x<;>rfl
theorem LI {i:Nat} {x:Opd}:zl P (⟨some d,.chk (.extract i),[x],none⟩::os) s KS=nr (TW i (ev s x)) P os s d KS:=by
 show zL P (s.base+d) (.extract i) [ev s x] (lk (del [s.base+d] s.sto)) (xX P os s d KS)=_
 simp only[zL]
 cases ev s x<;>try rfl
 rename_i v
 simp only[TW]
 cases v[i]?<;>rfl
theorem Gr {x:Opd}:zl P (⟨some d,.chk .nilChk,[x],none⟩::os) s KS=nr (zH (ev s x)) P os s d KS:=by
 show zL P (s.base+d) .nilChk [ev s x] (lk (del [s.base+d] s.sto)) (xX P os s d KS)=_
 simp only[zL]
 cases ev s x<;>rfl
theorem ED {z:List AV} {ps:List (Nat × Nat)} {xs:List Opd}:zl P (⟨some d,.chk (.build z ps),xs,none⟩::os) s KS=nr (orR (tk z ps (xs.map (ev s))) (sy z ps (xs.map (ev s)))) P os s d KS:=by
 show zL P (s.base+d) (.build z ps) (xs.map (ev s)) (lk (del [s.base+d] s.sto)) (xX P os s d KS)=_
 simp only[zL]
 cases orR (tk z ps (xs.map (ev s))) (sy z ps (xs.map (ev s)))<;>rfl
theorem Nn {sz n:Nat} {z:List AV} {ps:List Nat} {xs:List Opd} (h1:z.length=sz) (h2:0<sz) :
  zl P (⟨some d,.chk (.mksliceL sz n z ps),xs,none⟩::os) s KS=nr ((wb sz (List.replicate n z) ps (xs.map (ev s))).map (.lit sz)) P os s d KS:=by
 show zL P (s.base+d) (.mksliceL sz n z ps) (xs.map (ev s)) (lk (del [s.base+d] s.sto)) (xX P os s d KS)=_
 simp only[zL]
 cases wb sz (List.replicate n z) ps (xs.map (ev s))<;>simp[nr,h1,h2,xX]
theorem Gq {t:TypeId} {ok:Bool} {x y:Opd}:zl P (⟨some d,.chk (.lookup t ok),[x,y],none⟩::os) s KS=uL P t ok (lk (del [s.base+d] s.sto)) [ev s x,ev s y] (xX P os s d KS):=propext Iff.rfl
theorem LJ {sz n:Nat} {z:List AV} {ps:List Nat} {xs:List Opd} (h1:z.length=sz) (h2:0<sz) :
  zl P (⟨some d,.chk (.mkslice sz n z ps),xs,none⟩::os) s KS=nr (orL sz (uB sz (List.replicate n z) ps (xs.map (ev s))) (wb sz (List.replicate n z) ps (xs.map (ev s)))) P os s d KS:=by
 show zL P (s.base+d) (.mkslice sz n z ps) (xs.map (ev s)) (lk (del [s.base+d] s.sto)) (xX P os s d KS)=_
 simp only[zL]
 cases uB sz (List.replicate n z) ps (xs.map (ev s)) with
 | none=>cases wb sz (List.replicate n z) ps (xs.map (ev s))<;>simp[nr,h1,h2,xX,orL]
 | some rows=>simp[nr,h1,h2,xX,orL]
end
attribute [simp] acq EG aaQ EB Ey aag aai D4 tI acv B0 EC acs acr BY Gn Gp EH act BW BZ acu ae7 BX EF EE LI Gr ED LJ Nn Gq
theorem zP {α β:Type} (P:Program) (s:Sem α) (f:α→Sem β):zr P (s >>= f)=(zr P s).bind fun a=>zr P (f a):=by
 induction s with
 | pure a=>simp[bind,Sem.bind,zr]
 | program k ih=>simp only[bind,Sem.bind,zr] at *; exact ih P
 | _=>rfl
theorem zW {α:Type} (P:Program) (a:α):zr P (pure a:Sem α)=some a:=rfl
theorem yq {P:Program} {t:TypeId}:zr P (underlying t)=P.underlying t:=by
 simp only[underlying,zP]
 simp only[program,zr]
 simp only[Option.bind]
 cases P.underlying t<;>rfl
theorem Pn {P:Program} {t:TypeId}:zr P (typeInfo t)=P.info? t:=by
 simp only[typeInfo,zP]
 simp only[program,zr]
 simp only[Option.bind]
 cases P.info? t<;>rfl
theorem X5 {P:Program} {t:TypeId}:zr P (sizeOf t)=szT P t:=by
 simp only[sizeOf,zP,Pn,szT]
 cases P.info? t<;>rfl
theorem Ff {P:Program} {t:TypeId} {d:TypeDesc} (h:P.underlying t=some d):zr P (isAgg t)=some (agT P t):=by
 simp only[isAgg,zP,yq,h,Option.bind,agT]
 cases d<;>rfl
inductive Kd where
 | b
 | i (k:IntKind)
 | s
def Kd.fit:Kd→Value→Bool
 | .b,.bool _=>true
 | .i k,.int k' _=>decide (k=k')
 | .s,.string _=>true
 | _,_=>false
def uF:List Kd→List Value→Bool
 | [],[]=>true
 | k::ks,v::vs=>k.fit v&&uF ks vs
 | _,_=>false
def eq1:Value→Value→Bool
 | .bool a,.bool b=>a == b
 | .int _ a,.int _ b=>a == b
 | .string a,.string b=>a == b
 | _,_=>false
def eqL:List Value→List Value→Bool
 | [],[]=>true
 | x::xs,y::ys=>eq1 x y&&eqL xs ys
 | _,_=>false
def RB (P:Program) (kd:TypeId→Option (List Kd)):Nat→List Field→Option (List Kd)
 | _,[]=>some []
 | off,f::fs =>
  if f.name = "_" ∨ f.offset ≠ off then none
  else
   match kd f.type with
   | some ks=>if szT P f.type=some ks.length then (RB P kd (off+ks.length) fs).map (ks++·) else none
   | none=>none
def kds (P:Program):Nat→TypeId→Option (List Kd)
 | 0,_=>none
 | d+1,t =>
  match P.underlying t with
  | some .bool=>some [.b]
  | some (.int k)=>some [.i k]
  | some .string=>some [.s]
  | some (.array n e) =>
   match kds P d e with
   | some ks=>if szT P e=some ks.length then some (List.replicate n ks).flatten else none
   | none=>none
  | some (.struct fs)=>if P.stoodInHeld t=true then none else RB P (kds P d) 0 fs.toList
  | _=>none
theorem Uv:∀ {ks:List Kd} {xs:List Value},uF ks xs=true→xs.length=ks.length
 | [],[],_=>rfl
 | [],_::_,h=>by cases h
 | _::_,[],h=>by cases h
 | k::ks,x::xs,h=>by simp only[uF,Bool.and_eq_true] at h; simp[Uv h.2]
theorem g9:∀ {ks ls:List Kd} {xs:List Value},uF (ks++ls) xs=true→uF ks (xs.take ks.length)=true∧uF ls (xs.drop ks.length)=true
 | [],_,_,h=>by simpa [uF] using h
 | k::ks,ls,[],h=>by cases h
 | k::ks,ls,x::xs,h=>by
  simp only[List.cons_append,uF,Bool.and_eq_true] at h
  have:=g9 h.2
  simp[uF,h.1,this.1,this.2]
theorem Ru:∀ {n:Nat} {xs ys:List Value},xs.length=ys.length→eqL xs ys=(eqL (xs.take n) (ys.take n)&&eqL (xs.drop n) (ys.drop n))
 | 0,_,_,_=>by simp[eqL]
 | _+1,[],[],_=>by simp[eqL]
 | _+1,[],_::_,h=>by cases h
 | _+1,_::_,[],h=>by cases h
 | n+1,x::xs,y::ys,h=>by
  simp only[List.length_cons,Nat.add_right_cancel_iff] at h
  simp only[eqL,List.take_succ_cons,List.drop_succ_cons,Bool.and_assoc]
  rw[Ru (n:=n) h]
def valOf (P:Program) (t:TypeId) (xs:List Value):Value:=if agT P t=true then .agg xs.toArray else xs.headD undef
theorem Jp {P:Program} {d:Nat} {t:TypeId} {ks:List Kd} (h:kds P d t=some ks):(∃ u,P.underlying t=some u)∧(agT P t=false→ks.length=1):=by
 cases d with
 | zero=>cases h
 | succ d =>
  simp only[kds] at h
  split at h<;>rename_i hu
  ·exact ⟨⟨_,hu⟩,fun _=>by cases h; rfl⟩
  ·exact ⟨⟨_,hu⟩,fun _=>by cases h; rfl⟩
  ·exact ⟨⟨_,hu⟩,fun _=>by cases h; rfl⟩
  ·exact ⟨⟨_,hu⟩,fun ha=>by simp[agT,hu] at ha⟩
  ·exact ⟨⟨_,hu⟩,fun ha=>by simp[agT,hu] at ha⟩
  ·cases h
theorem eV {P:Program} {d:Nat} {t:TypeId} {ks:List Kd} {xs:List Value} {off:Nat} (h:kds P d t=some ks) (hz:szT P t=some ks.length)
  (hl:off+ks.length≤xs.length):zr P (part t xs.toArray off)=some (valOf P t ((xs.drop off).take ks.length)):=by
 obtain ⟨⟨u,hu⟩,h1⟩:=Jp h
 simp only[part,zP,Ff hu,Option.bind_some]
 by_cases ha:agT P t=true
 ·simp only[ha,if_true,zP,X5,hz,Option.bind_some,zW,valOf]
  congr 2
  apply Array.ext'
  simp
 ·have h2:=h1 (by simpa using ha)
  rw[if_neg ha]
  have h3:off<xs.length:=by omega
  simp only[List.getElem?_toArray,List.getElem?_eq_getElem h3,zW,valOf,if_neg ha,h2]
  rw[List.drop_eq_getElem_cons h3]
  rfl
theorem QT {P:Program} {α:Type} (f:α→Sem Bool):∀ (l:List α) (g:List α→Bool),g []=true→(∀ a m,(∃ h,h++a::m=l)→∃ b,zr P (f a)=some b∧g (a::m)=(b&&g m)) →
  zr P (forIn l ((none,()):Option Bool × Unit) fun a _=>do
   let b ← f a
   if (!b)=true then pure (ForInStep.done (some false,())) else pure (ForInStep.yield (none,())))=some (if g l=true then (none,()) else (some false,()))
 | [],g,h0,_=>by simp[h0,zW]
 | a::l,g,h0,h=>by
  obtain ⟨b,hb,hg⟩:=h a l ⟨[],rfl⟩
  have ih:=QT f l g h0 (fun x m ⟨p,hp⟩=>h x m ⟨a::p,by simp[hp]⟩)
  rw[List.forIn_cons]
  simp only[zP,hb,Option.bind_some]
  cases b with
  | false=>simp[hg,zW]
  | true =>
   simp only[hg,Bool.true_and,Bool.not_true,Bool.false_eq_true,if_false,zW,Option.bind_some]
   exact ih
theorem afY {n:Nat} {α:Type} {l:List α}:(List.replicate n l).flatten.length=n*l.length:=by
 induction n with
 | zero=>simp
 | succ n ih=>simp[List.replicate_succ,ih,Nat.succ_mul,Nat.add_comm]
theorem Jo {P:Program} {d:Nat}:∀ {fs:List Field} {off:Nat} {ks:List Kd} {xs ys:List Value},RB P (kds P d) off fs=some ks→xs.length=off+ks.length→ys.length=off+ks.length →
  uF ks (xs.drop off)=true→uF ks (ys.drop off)=true →
  (∀ (t:TypeId) (ks:List Kd) (xs ys:List Value),kds P d t=some ks→uF ks xs=true→uF ks ys=true→zr P (Op.equalIn d t (valOf P t xs) (valOf P t ys))=some (eqL xs ys)) →
  zr P (forIn fs ((none,()):Option Bool × Unit) fun f _ =>
   if f.name ≠ "_" then do
    let x ← part f.type xs.toArray f.offset
    let y ← part f.type ys.toArray f.offset
    let b ← Op.equalIn d f.type x y
    if (!b)=true then pure (ForInStep.done (some false,())) else pure (ForInStep.yield (none,()))
   else pure (ForInStep.yield (none,())))=some (if eqL (xs.drop off) (ys.drop off)=true then (none,()) else (some false,()))
 | [],off,ks,xs,ys,h,hx,hy,_,_,_=>by
  simp only[RB,Option.some.injEq] at h
  subst h
  simp only[List.length_nil,Nat.add_zero] at hx hy
  rw[List.drop_of_length_le (by omega),List.drop_of_length_le (by omega)]
  simp[zW,eqL]
 | f::fs,off,ks,xs,ys,h,hx,hy,h1,h2,IH=>by
  simp only[RB] at h
  split at h
  ·cases h
  rename_i hn
  simp only[not_or,Decidable.not_not,ne_eq] at hn
  split at h
  rotate_left
  ·cases h
  rename_i ls hk
  split at h
  rotate_left
  ·cases h
  rename_i hz
  cases hr:RB P (kds P d) (off+ls.length) fs with
  | none=>simp[hr] at h
  | some ms =>
   simp only[hr,Option.map_some,Option.some.injEq] at h
   subst h
   simp only[List.length_append] at hx hy
   have a1:=g9 h1
   have a2:=g9 h2
   rw[List.drop_drop] at a1 a2
   have ih:=Jo hr (xs:=xs) (ys:=ys) (by omega) (by omega) a1.2 a2.2 IH
   rw[List.forIn_cons]
   have p1:=eV (xs:=xs) (off:=off) hk hz (by omega)
   have p2:=eV (xs:=ys) (off:=off) hk hz (by omega)
   have p3:=IH _ _ _ _ hk a1.1 a2.1
   rw[if_pos hn.1,hn.2]
   simp only[zP,p1,p2,p3,Option.bind_some]
   rw[Ru (n:=ls.length) (xs:=xs.drop off) (ys:=ys.drop off) (by simp; omega),List.drop_drop,List.drop_drop]
   cases eqL ((xs.drop off).take ls.length) ((ys.drop off).take ls.length) with
   | false=>simp[zW]
   | true =>
    simp only[Bool.true_and,Bool.not_true,Bool.false_eq_true,if_false,zW,Option.bind_some]
    exact ih
theorem bJ {ls:List Kd}:∀ {n:Nat} {xs:List Value} {a:Nat},uF (List.replicate n ls).flatten xs=true→a<n→uF ls ((xs.drop (a*ls.length)).take ls.length)=true
 | 0,_,_,_,h=>by omega
 | n+1,xs,0,h,_=>by
  simp only[List.replicate_succ,List.flatten_cons] at h
  simpa using (g9 h).1
 | n+1,xs,a+1,h,ha=>by
  simp only[List.replicate_succ,List.flatten_cons] at h
  have:=bJ (g9 h).2 (a:=a) (by omega)
  rw[List.drop_drop] at this
  rw[Nat.succ_mul,Nat.add_comm (a*ls.length)]
  exact this
theorem qw {P:Program}:∀ (d:Nat) (t:TypeId) (ks:List Kd) (xs ys:List Value),kds P d t=some ks→uF ks xs=true→uF ks ys=true →
  zr P (Op.equalIn d t (valOf P t xs) (valOf P t ys))=some (eqL xs ys)
 | 0,_,_,_,_,h,_,_=>by cases h
 | d+1,t,ks,xs,ys,h,hx,hy=>by
  have lx:=Uv hx
  have ly:=Uv hy
  simp only[kds] at h
  split at h<;>rename_i hu
  ·cases h
   match xs,ys,hx,hy with
   | [.bool a],[.bool b],_,_=>simp[valOf,agT,hu,Op.equalIn,zP,yq,zW,eqL,eq1]
  ·cases h
   match xs,ys,hx,hy with
   | [.int k a],[.int k' b],hx,hy =>
    simp only[uF,Kd.fit,decide_eq_true_eq,Bool.and_true] at hx hy
    subst hx; subst hy
    simp[valOf,agT,hu,Op.equalIn,zP,yq,zW,eqL,eq1]
  ·cases h
   match xs,ys,hx,hy with
   | [.string a],[.string b],_,_=>simp[valOf,agT,hu,Op.equalIn,zP,yq,zW,eqL,eq1]
  ·rename_i n e
   split at h
   rotate_left
   ·cases h
   rename_i ls hk
   split at h
   rotate_left
   ·cases h
   rename_i hz
   cases h
   rw[afY] at lx ly
   simp only[valOf,agT,hu,if_true,Op.equalIn,zP,yq,Option.bind_some,X5,hz]
   have hloop:=QT (P:=P) (fun i=>do
     let x ← part e xs.toArray (i*ls.length)
     let y ← part e ys.toArray (i*ls.length)
     Op.equalIn d e x y) (List.range' 0 n) (fun m=>eqL (xs.drop ((n-m.length)*ls.length)) (ys.drop ((n-m.length)*ls.length)))
    (by
     simp only[List.length_nil,Nat.sub_zero]
     rw[List.drop_of_length_le (by omega),List.drop_of_length_le (by omega)]; rfl)
    (by
     rintro a m ⟨p,hp⟩
     have hlen:p.length+(m.length+1)=n:=by
      have:=congrArg List.length hp
      simpa using this
     have ha:a=p.length:=by
      have:=congrArg (·[p.length]?) hp
      simp only[List.getElem?_append_right (Nat.le_refl _),Nat.sub_self,List.getElem?_cons_zero] at this
      rw[List.getElem?_range' (by omega)] at this
      simpa using this
     have hmul:a*ls.length+ls.length≤n*ls.length:=by
      rw[← Nat.succ_mul]; exact Nat.mul_le_mul_right _ (by omega)
     have e1:n-(a::m).length=a:=by simp only[List.length_cons]; omega
     have e2:(n-m.length)*ls.length=a*ls.length+ls.length:=by
      have:n-m.length=a+1:=by omega
      rw[this,Nat.succ_mul]
     have f1:=bJ hx (a:=a) (by omega)
     have f2:=bJ hy (a:=a) (by omega)
     have p1:=eV (xs:=xs) (off:=a*ls.length) hk hz (by omega)
     have p2:=eV (xs:=ys) (off:=a*ls.length) hk hz (by omega)
     refine ⟨_,by simp only[zP,p1,p2,Option.bind_some]; exact qw d _ _ _ _ hk f1 f2,?_⟩
     simp only[e1,e2]
     rw[Ru (n:=ls.length) (by simp; omega),List.drop_drop,List.drop_drop])
   simp only[List.length_range',Nat.sub_self,Nat.zero_mul,List.drop_zero] at hloop
   simp only[bind_assoc] at hloop
   rw[Std.Legacy.Range.forIn_eq_forIn_range']
   simp only[Std.Legacy.Range.size,Nat.sub_zero,Nat.add_sub_cancel,Nat.div_one] at hloop ⊢
   rw[hloop]
   cases eqL xs ys<;>simp[zW]
  ·rename_i fs
   split at h
   ·cases h
   rename_i hs
   simp only[valOf,agT,hu,if_true,Op.equalIn,zP,yq,Option.bind_some]
   simp only[program,zr,Option.bind_some,hs]
   have:=Jo (xs:=xs) (ys:=ys) h (by omega) (by omega) (by simpa using hx) (by simpa using hy) (qw d)
   simp only[Bool.false_eq_true,if_false]
   rw[← Array.forIn_toList,zP,this]
   simp only[List.drop_zero,Option.bind_some]
   cases eqL xs ys<;>rfl
  ·cases h
def ff (n:Nat) (l:List AV):Bool:=decide (l.length=n)&&l.all fun | .val (.int .i64 _)=>true | _=>false
def qY:List AV→List Int
 | .val (.int _ x)::r=>x::qY r
 | _=>[]
theorem Z2 (l:List Int):qY (l.map iv)=l:=by
 induction l with
 | nil=>rfl
 | cons x l ih=>simp[qY,ih]
theorem T4 (n:Nat) (l:List Int):ff n (l.map iv)=decide (l.length=n):=by simp[ff]
theorem RA:∀ {l:List AV},(l.all fun | .val (.int .i64 _)=>true | _=>false)=true→∃ xs:List Int,l=xs.map iv
 | [],_=>⟨[],rfl⟩
 | x::l,h=>by
  simp only[List.all_cons,Bool.and_eq_true] at h
  obtain ⟨xs,rfl⟩:=RA h.2
  match x,h.1 with
  | .val (.int .i64 n),_=>exact ⟨n::xs,rfl⟩
theorem Xw:∀ l:List Int,sM (l.map iv)=some (l.map (Value.int .i64))
 | []=>rfl
 | x::l=>by simp[sM,Xw l]
theorem NJ:∀ (a b:List Int),eqL (a.map (Value.int .i64)) (b.map (Value.int .i64))=decide (a=b)
 | [],[]=>rfl
 | [],_::_=>by simp[eqL]
 | _::_,[]=>by simp[eqL]
 | x::a,y::b=>by
  simp only[List.map_cons,eqL,eq1,NJ a b,List.cons.injEq,Bool.decide_and]
  rfl
theorem cj:∀ (a:List Int),uF (List.replicate a.length (.i .i64)) (a.map (Value.int .i64))=true
 | []=>rfl
 | x::a=>by simp[List.replicate_succ,uF,Kd.fit,cj a]
theorem TV {P:Program} {op:BinOp} {t:TypeId} {ox oy:Operand} {xs ys:Array Value} (hg:P.eqGuardType P.depth t=false):zr P (eqGuard op t ox oy (.agg xs) (.agg ys))=some ():=by
 have e:zr P program=some P:=rfl
 unfold eqGuard
 cases op<;>simp[zP,e,hg,zW]
section
variable {P:Program} {t n:Nat} {ox oy:Operand} {a b:List AV} {K:AV→Option ze→Prop} {σ:Nat→Option ze}
theorem sV (hk:kds P Op.maxDepth t=some (List.replicate n (.i .i64))) (hg:P.eqGuardType P.depth t=false) (hA:agT P t=true)
  (ha:ff n a=true) (hb:ff n b=true):yd P .eql t ox oy [.agg a,.agg b] K=K (bv (decide (qY a=qY b))) none:=by
 simp only[ff,Bool.and_eq_true,decide_eq_true_eq] at ha hb
 obtain ⟨xs,rfl⟩:=RA ha.2
 obtain ⟨ys,rfl⟩:=RA hb.2
 simp only[List.length_map] at ha hb
 have e:=qw Op.maxDepth t _ (xs.map (Value.int .i64)) (ys.map (Value.int .i64)) hk (by rw[← ha.1]; exact cj xs) (by rw[← hb.1]; exact cj ys)
 simp only[valOf,hA,if_true] at e
 have e2:zr P (Op.equal t (.agg (xs.map (Value.int .i64)).toArray) (.agg (ys.map (Value.int .i64)).toArray))=some (decide (xs=ys)):=by rw[← NJ]; exact e
 have e1:binOp .eql t (.agg (xs.map (Value.int .i64)).toArray) (.agg (ys.map (Value.int .i64)).toArray)=(do pure (.bool (← Op.equal t (.agg (xs.map (Value.int .i64)).toArray) (.agg (ys.map (Value.int .i64)).toArray)))):=rfl
 simp only[yd,toV,Xw,Option.map_some,zP,TV hg,e1,e2,Option.bind_some,zW,yS,ofV,y9,Z2]
theorem p6 {x y:Bool} (hu:P.underlying t=some .bool):yd P .eql t ox oy [bv x,bv y] K=K (bv (x == y)) none:=by
 have e1:binOp .eql t (.bool x) (.bool y)=(do pure (.bool (← Op.equal t (.bool x) (.bool y)))):=rfl
 have e2:zr P (eqGuard .eql t ox oy (.bool x) (.bool y))=some ():=rfl
 have e3:zr P (Op.equal t (.bool x) (.bool y))=some (x == y):=by
  have e4:∀ d:Nat,zr P (Op.equalIn (d+1) t (.bool x) (.bool y))=some (x == y):=fun d=>by
   simp only[Op.equalIn,zP,yq,hu,Option.bind_some,zW]
  exact e4 9999
 simp only[yd,toV,zP,e1,e2,e3,Option.bind_some,zW,yS,ofV,y9]
theorem xJ {x y:Bool} (hu:P.underlying t=some .bool):yd P .neq t ox oy [bv x,bv y] K=K (bv (!(x == y))) none:=by
 have e1:binOp .neq t (.bool x) (.bool y)=(do pure (.bool (!(← Op.equal t (.bool x) (.bool y))))):=rfl
 have e2:zr P (eqGuard .neq t ox oy (.bool x) (.bool y))=some ():=rfl
 have e3:zr P (Op.equal t (.bool x) (.bool y))=some (x == y):=by
  have e4:∀ d:Nat,zr P (Op.equalIn (d+1) t (.bool x) (.bool y))=some (x == y):=fun d=>by
   simp only[Op.equalIn,zP,yq,hu,Option.bind_some,zW]
  exact e4 9999
 simp only[yd,toV,zP,e1,e2,e3,Option.bind_some,zW,yS,ofV,y9]
theorem za {f:FuncId} {xs args:List AV} {r:AV} (h:zd P f args r) (hs:yv (wP σ) xs=some args) (hp:xs.any sW=false∨pf r=true) (hk:K r none):we P f σ xs K:=by
 unfold we
 rw[hs]
 refine ⟨r,h,fun hr=>?_,hk⟩
 rcases hp with hp | hp
 ·rw[hp] at hr; cases hr
 ·exact hp
end
theorem QQ {k k':AV→Option ze→Prop} (hk:∀ x e,k x e→k' x e):∀ {x:Option Value},yS x k→yS x k'
 | some _,h=>hk _ _ h
 | none,h=>h
theorem nY {k k':AV→Option ze→Prop} (hk:∀ x e,k x e→k' x e):∀ {x:Option AV},xT x k→xT x k'
 | some _,h=>hk _ _ h
 | none,h=>h
theorem Tu {n lo hi mx xs} {k k':Nat→Nat→Bool→Prop} (hk:∀ x e f,k x e f→k' x e f):wW n lo hi mx xs k→wW n lo hi mx xs k':=by
 unfold wW
 repeat' split
 all_goals grind
theorem EV {P:Program} {op t ox oy xs} {k k':AV→Option ze→Prop} (hk:∀ x e,k x e→k' x e):yd P op t ox oy xs k→yd P op t ox oy xs k':=by
 match xs with
 | []=>exact id
 | [_]=>exact id
 | [x,y] =>
  simp only[yd]
  cases toV x<;>cases toV y<;>first | exact id | exact QQ hk
 | _::_::_::_=>exact id
theorem Gz {σ n xs} {k k':AV→Option ze→Prop} (hk:∀ x e,k x e→k' x e):lY σ n xs k→lY σ n xs k':=by
 unfold lY
 split
 ·split
  ·exact nY hk
  ·exact id
 ·split
  ·refine fun ⟨a,b⟩=>⟨a,?_⟩
   revert b
   split
   ·exact nY hk
   ·exact id
  ·exact id
 ·exact nY hk
 ·split
  ·refine fun ⟨a,b⟩=>⟨a,?_⟩
   revert b
   split
   ·exact nY hk
   ·exact id
  ·exact id
 ·exact id
theorem Gy {str x} {k k':AV→Option ze→Prop} (hk:∀ x e,k x e→k' x e):lX str k x→lX str k' x:=by
 unfold lX
 split<;>first | exact id | exact fun ⟨a,b⟩=>⟨a,hk _ _ b⟩
theorem TU {P:Program} {f σ xs} {k k':AV→Option ze→Prop} (hk:∀ x e,k x e→k' x e):we P f σ xs k→we P f σ xs k':=by
 unfold we
 cases yv (wP σ) xs with
 | none=>exact id
 | some args=>exact fun ⟨r,h1,h2,h3⟩=>⟨r,h1,h2,hk _ _ h3⟩
theorem NE {P:Program} {t ok σ xs} {k k':AV→Option ze→Prop} (hk:∀ x e,k x e→k' x e):uL P t ok σ xs k→uL P t ok σ xs k':=by
 unfold uL
 repeat' split
 all_goals first | exact id | exact hk _ _
theorem bG {P:Program} {d op xs σ} {k k':AV→Option ze→Prop} (hk:∀ x e,k x e→k' x e):zL P d op xs σ k→zL P d op xs σ k':=by
 unfold zL
 repeat' split
 all_goals first
  | exact id
  | exact hk _ _
  | exact QQ hk
  | exact nY hk
  | exact EV hk
  | exact Gz hk
  | exact NE hk
  | exact TU hk
  | (unfold nO; repeat' split<;>first | exact id | grind)
  | (unfold nP; repeat' split<;>first | exact id | grind)
  | (unfold eMk; repeat' split<;>first | exact id | grind)
  | (unfold lh; split<;>first | exact id | exact Gy hk)
  | (unfold pO; repeat' split<;>first | exact id | exact fun ⟨h1,h2⟩=>⟨h1,Tu (fun _ _ _=>hk _ _) h2⟩)
  | exact Tu (fun _ _ _ h=>⟨h.1,hk _ _ h.2⟩)
  | exact fun ⟨a,b⟩=>⟨a,TU hk b⟩
  | exact fun ⟨a,b⟩=>⟨a,hk _ _ b⟩
  | exact fun ⟨a,b,c⟩=>⟨a,b,hk _ _ c⟩
  | exact fun ⟨a,b,c⟩=>⟨a,b,nY hk c⟩
  | exact fun ⟨a,b⟩=>⟨fun h=>hk _ _ (a h),fun h=>hk _ _ (b h)⟩
  | skip
theorem gq {σ sz x} {k k':List (List AV)→Prop} (hk:∀ x,k x→k' x):yZ σ sz x k→yZ σ sz x k':=by
 unfold yZ
 repeat' split
 all_goals grind
theorem LV {n s dst xs} {K K':St→Prop} (hk:∀ s,K s→K' s):mC n s dst xs K→mC n s dst xs K':=by
 unfold mC
 repeat' split
 all_goals grind
theorem NA {n b s dst xs} {K K':St→Prop} (hk:∀ s,K s→K' s):yM n b s dst K xs→yM n b s dst K' xs:=by
 unfold yM
 split
 ·refine gq fun rows h=>⟨h.1,h.2.1,h.2.2.1,?_⟩
  have:=h.2.2.2
  revert this
  repeat' split
  all_goals grind
 ·exact id
theorem Gw {n s dst xs} {K K':St→Prop} (hk:∀ s,K s→K' s):bD n s dst K xs→bD n s dst K' xs:=by
 unfold bD
 split
 ·refine fun ⟨a,a2,b⟩=>⟨a,a2,?_⟩
  unfold cc at b ⊢
  revert b
  split
  ·exact id
  ·refine gq fun rows h=>?_
   revert h
   split<;>grind
 ·exact id
theorem aQ {σ sz x} {k k':List (List AV)→Prop} (hk:∀ x,k x→k' x):xj σ sz x k→xj σ sz x k':=by
 unfold xj
 split
 ·split
  ·exact fun ⟨a,b,c,d⟩=>⟨a,b,c,hk _ d⟩
  ·exact fun ⟨_,h⟩=>h.elim
 ·exact fun ⟨a,b⟩=>⟨a,hk _ b⟩
 ·exact gq hk
theorem Pj {n b s dst xs} {K K':St→Prop} (hk:∀ s,K s→K' s):xl n b s dst K xs→xl n b s dst K' xs:=by
 unfold xl
 split
 ·refine aQ fun rows h=>⟨h.1,h.2.1,h.2.2.1,?_⟩
  have:=h.2.2.2
  revert this
  split
  ·exact fun ⟨a,b,c⟩=>⟨a,b,hk _ c⟩
  ·exact id
 ·refine aQ fun rows h=>⟨h.1,h.2.1,h.2.2.1,?_⟩
  have:=h.2.2.2
  revert this
  split
  ·exact fun ⟨a,b,c,d,e⟩=>⟨a,b,c,d,hk _ e⟩
  ·exact id
 ·exact id
theorem Rs {n b z ps s dst xs} {K K':St→Prop} (hk:∀ s,K s→K' s):nQ n b z ps s dst K xs→nQ n b z ps s dst K' xs:=by
 unfold nQ
 split
 ·exact fun ⟨a,b,c,d⟩=>⟨a,b,c,hk _ d⟩
 ·exact id
theorem NG {P t s dst xs} {K K':St→Prop} (hk:∀ s,K s→K' s):tH P t s dst K xs→tH P t s dst K' xs:=by
 unfold tH
 repeat' split
 all_goals first | exact id | exact fun ⟨a,b⟩=>⟨a,hk _ b⟩
theorem Tm {P f args s} {K K':AV→St→Prop} (hk:∀ r s,K r s→K' r s) (h:z5 P f args s K):z5 P f args s K' :=
 fun F a w I β lam hI vs hs hR=>(h F a w I β lam hI vs hs hR).mono fun _e _w' ⟨v,he,r,s',I',β',lam',hK,h⟩=>⟨v,he,r,s',I',β',lam',hk _ _ hK,h⟩
theorem XT {P f xs s dst} {K K':St→Prop} (hk:∀ s,K s→K' s):tG P f xs s dst K→tG P f xs s dst K' :=
 Tm fun _ _ h=>⟨h.1,hk _ h.2⟩
theorem P5 {P o s} {K K':St→Prop} (hk:∀ s,K s→K' s):xy P o s K→xy P o s K':=by
 have hop:yG P o s K→yG P o s K':=by
  unfold yG
  split
  ·unfold ZP
   split
   ·exact bG fun _ _ h=>⟨h.1,h.2.1,hk _ h.2.2⟩
   ·exact id
  ·have hc:∀ {op:AOp} {xs:List AV},ZP P op s o.dst K xs→ZP P op s o.dst K' xs:=by
    unfold ZP
    split
    ·exact bG fun _ _ h=>⟨h.1,h.2.1,hk _ h.2.2⟩
    ·exact id
   have hs:bE s o.dst K→bE s o.dst K':=by
    unfold bE
    split
    ·exact fun h=>⟨h.1,h.2.1,hk _ h.2.2⟩
    ·exact id
   split
   ·exact fun h=>⟨fun e=>hc (h.1 e),fun e=>hs (h.2 e)⟩
   ·exact hs
   ·exact id
  ·exact fun ⟨a,b⟩=>⟨a,hk _ b⟩
  ·exact LV hk
  ·exact NA hk
  ·exact Gw hk
  ·exact Pj hk
  ·exact Rs hk
  ·exact NG hk
  ·unfold eH
   split
   ·split
    ·exact fun ⟨a,b⟩=>⟨fun h=>⟨hk _ (a h).1,hk _ (a h).2⟩,fun h=>hk _ (b h)⟩
    ·exact id
   ·exact id
  ·exact fun ⟨a,b⟩=>⟨a,XT hk b⟩
  ·split
   ·exact fun ⟨a,b⟩=>⟨a,XT hk b⟩
   ·exact id
  ·exact fun ⟨a,b,c⟩=>⟨a,b,fun D=>Tm (fun _ _ ⟨A,h1,h2,h3,h4⟩=>⟨A,h1,h2,h3,hk _ h4⟩) (c D)⟩
  ·exact bG fun _ _=>hk _
 unfold xy
 repeat' split
 ·exact hop
 ·exact fun ⟨a,b⟩=>⟨fun h=>hop (a h),fun h=>hk _ (b h)⟩
 ·exact hk _
 ·exact id
theorem XH {P}:∀ {os s} {K K':St→Prop},(∀ s,K s→K' s)→zl P os s K→zl P os s K'
 | [],_,_,_,hk,h=>hk _ h
 | _::_,_,_,_,hk,h=>P5 (fun _=>XH hk) h
theorem ZV:∀ {ks s} {K K':St→Prop},(∀ s,K s→K' s)→re ks s K→re ks s K'
 | [],_,_,_,hk,h=>hk _ h
 | k::ks,s,K,K',hk,h=>by
  simp only[re,xA] at h ⊢
  split at h
  ·exact ⟨h.1,ZV hk h.2⟩
  ·exact h
theorem xR {P}:∀ {c s} {K K':Exit→St→Prop},(∀ e s,K e s→K' e s)→awp P c s K→awp P c s K'
 | .skip,_,_,_,hk,h=>hk _ _ h
 | .region ..,_,_,_,hk,h=>ZV (fun _=>XH fun _ h=>by
   unfold Y3 at h ⊢
   exact ⟨h.1,hk _ _ h.2⟩) h
 | .seq a b,s,K,K',hk,h=>by
  simp only[awp] at h ⊢
  refine xR (fun e s h=>?_) h
  cases e<;>first | exact xR hk h | exact hk _ _ h
 | .cond c a b,s,K,K',hk,h=>by
  simp only[awp] at h ⊢
  split at h
  ·exact ⟨fun e=>xR hk (h.1 e),fun e=>xR hk (h.2 e)⟩
  ·exact h
 | .block i b,s,K,K',hk,h=>by
  simp only[awp] at h ⊢
  refine xR (fun e s h=>?_) h
  cases e<;>simp only[Tt] at h ⊢<;>grind
 | .loop b,s,K,K',hk,⟨J,n,s0,hi,h0,h⟩=>⟨J,n,s0,hi,h0,fun n s hj=>xR (fun e s h=>by
   cases e<;>simp only[abW] at h ⊢<;>grind) (h n s hj)⟩
 | .goto _,_,_,_,hk,h=>hk _ _ h
 | .again l b,s,K,K',hk,⟨J,n,s0,hi,h0,h⟩=>⟨J,n,s0,hi,h0,fun n s hj=>xR (fun e s h=>by
   cases e<;>simp only[Ef] at h ⊢<;>grind) (h n s hj)⟩
 | .exit i,_,_,_,hk,h=>hk _ _ h
 | .ret,_,_,_,hk,h=>hk _ _ h
section
variable {P:Program} {s:St} {K:Exit→St→Prop} {KS:St→Prop} {os:List zi} {d:Nat}
def mmA (P:Program) (b:Builtin) (ts:Array TypeId) (t:TypeId) (xs:List AV):Option AV :=
 match sM xs with
 | some vs=>(zr P (if b=.max then Builtin.max_ ts t vs.toArray else Builtin.min_ ts t vs.toArray)).map ofV
 | none=>none
theorem afM {b:Builtin} {ts:Array TypeId} {t:TypeId} {xs:List Opd}:zl P (⟨some d,.mm b ts t,xs,none⟩::os) s KS=nz (mmA P b ts t (xs.map (ev s))) P os s d KS:=by
 show zL P (s.base+d) (.mm b ts t) (xs.map (ev s)) (lk s.sto) (xt P os s (some d) KS)=_
 simp only[zL,mmA]
 cases sM (xs.map (ev s)) with
 | none=>rfl
 | some vs=>simp only[Mr]
theorem ac9 {ts:Array TypeId} {t:TypeId} {x y:Int}:mmA P .max ts t [iv x,iv y]=some (iv (max x y)):=by
 simp only[mmA,sM,Builtin.max_,Option.map_some,if_true,List.foldlM,zP]
 simp only[Builtin.max2,zW,Option.bind_some,Option.map_some,ofV,y9]
 by_cases h:y > x
 ·rw[if_pos h,Int.max_eq_right (by omega)]
 ·rw[if_neg h,Int.max_eq_left (by omega)]
theorem ada {ts:Array TypeId} {t:TypeId} {x y:Int}:mmA P .min ts t [iv x,iv y]=some (iv (min x y)):=by
 have e:(Go.Builtin.min=Go.Builtin.max)=False:=by simp
 simp only[mmA,sM,Builtin.min_,Option.map_some,e,if_false,List.foldlM,zP]
 simp only[Builtin.min2,zW,Option.bind_some,Option.map_some,ofV,y9]
 by_cases h:y<x
 ·rw[if_pos h,Int.min_eq_right (by omega)]
 ·rw[if_neg h,Int.min_eq_left (by omega)]
def SX (st:Nat→St) (k:Nat) (K:Exit→St→Prop):Exit→St→Prop
 | .normal,s=>s=st k
 | e,s=>K e s
def qZ (K:Exit→St→Prop):Exit→St→Prop
 | .normal,_=>False
 | e,s=>K e s
theorem Lj {st:Nat→St} {k:Nat}:SX st k K .normal s=(s=st k):=rfl
theorem FW {st:Nat→St} {k j:Nat}:SX st k K (.exit j) s=K (.exit j) s:=rfl
theorem C3 {st:Nat→St} {k:Nat}:SX st k K .ret s=K .ret s:=rfl
theorem GW {j:Nat}:qZ K (.exit j) s=K (.exit j) s:=rfl
theorem Dl:qZ K .ret s=K .ret s:=rfl
theorem N1:qZ K .normal s=False:=rfl
theorem acj {a:zc} (st:Nat→St) (N:Nat) (h0:s=st 0) (h1:∀ k,k<N→awp P a (st k) (SX st (k+1) K)) (h2:awp P a (st N) (qZ K)):awp P (.loop a) s K:=by
 refine ⟨fun n s=>∃ k,k≤N∧n=N-k∧s=st k,N,s,St.imp.refl,⟨0,by omega,by omega,h0⟩,?_⟩
 rintro n s ⟨k,hk,rfl,rfl⟩
 by_cases h:k<N
 ·refine xR (fun e s hs=>?_) (h1 k h)
  cases e with
  | normal=>exact ⟨N-(k+1),s,by omega,St.imp.refl,k+1,by omega,rfl,hs⟩
  | _=>exact hs
 ·obtain rfl:k=N:=by omega
  refine xR (fun e s hs=>?_) h2
  cases e with
  | normal=>exact hs.elim
  | _=>exact hs
theorem FX {st:Nat→St} {k j:Nat}:SX st k K (.goto j) s=K (.goto j) s:=rfl
theorem GX {j:Nat}:qZ K (.goto j) s=K (.goto j) s:=rfl
def qz {α:Type} (m:List (Nat × α)):List (Nat × α)→Prop
 | []=>True
 | (t,x)::l=>lk m t=some x∧qz m l
theorem Xt {α:Type} {m l:List (Nat × α)} (h:qz m l) {t:Nat} {x:α} (hx:lk l t=some x):lk m t=some x:=by
 induction l with
 | nil=>simp[lk] at hx
 | cons p l ih =>
  obtain ⟨u,y⟩:=p
  obtain ⟨h1,h2⟩:=h
  simp only[lk] at hx
  split at hx
  ·rename_i e; cases hx; rw[← e]; exact h1
  ·exact ih h2 hx
theorem Qa {α:Type} {m l:List (Nat × α)} (h:qz m l) (h':qz l m):lk l=lk m:=by
 funext t
 cases h1:lk l t with
 | some x=>exact (Xt h h1).symm
 | none =>
  cases h2:lk m t with
  | none=>rfl
  | some y=>rw[Xt h' h2] at h1; cases h1
def lu (s s':St):Prop:=qz s.env s'.env∧(s'.sto=s.sto∨lk s'.sto=lk s.sto∨(qz s.sto s'.sto∧qz s'.sto s.sto))∧s'.out=s.out
theorem St.imp_of {s s':St} (h:lu s s'):St.imp s s':=by
 obtain ⟨h1,h2,h3⟩:=h
 rintro F a w ⟨I,β,lam,hI⟩
 have e:lk s'.sto=lk s.sto:=by
  rcases h2 with h2 | h2 | h2
  ·rw[h2]
  ·exact h2
  ·exact Qa h2.1 h2.2
 refine ⟨I,β,lam,{hI with env:=fun t x hx=>hI.env t x ?_,sto:=by rw[e]; exact hI.sto,usto:=by rw[e]; exact hI.usto,bdom:=by rw[e]; exact hI.bdom}⟩
 obtain ⟨d,t⟩:=t
 cases d with
 | zero=>exact Xt h1 hx
 | succ d =>
  simp only[St.look] at hx ⊢
  rw[← h3]; exact hx
theorem qB {α:Type} {m:List (Nat × α)}:qz m []=True:=rfl
theorem t8 {α:Type} {m l:List (Nat × α)} {t:Nat} {x:α}:qz m ((t,x)::l)=(lk m t=some x∧qz m l):=rfl
theorem acZ {e e':List (Nat × AV)} {σ σ':List (Nat × ze)} {o o':List (List (Nat × AV))} {b b':Nat}:lu ⟨e,σ,o,b⟩ ⟨e',σ',o',b'⟩=(qz e e'∧(σ'=σ∨lk σ'=lk σ∨(qz σ σ'∧qz σ' σ))∧o'=o):=rfl
def stepW (st:Nat→St) (I:Nat→Prop) (k:Nat) (K:Exit→St→Prop):Exit→St→Prop
 | .normal,s=>lu s (st k)∧I k
 | e,s=>K e s
theorem YC {st:Nat→St} {I:Nat→Prop} {k:Nat}:stepW st I k K .normal s=(lu s (st k)∧I k):=rfl
theorem FY {st:Nat→St} {I:Nat→Prop} {k j:Nat}:stepW st I k K (.exit j) s=K (.exit j) s:=rfl
theorem C4 {st:Nat→St} {I:Nat→Prop} {k:Nat}:stepW st I k K .ret s=K .ret s:=rfl
theorem FZ {st:Nat→St} {I:Nat→Prop} {k j:Nat}:stepW st I k K (.goto j) s=K (.goto j) s:=rfl
theorem zq {a:zc} (st:Nat→St) (I:Nat→Prop) (N:Nat) (h0:lu s (st 0)) (i0:I 0) (h1:∀ k,k<N→I k→awp P a (st k) (stepW st I (k+1) K)) (h2:I N→awp P a (st N) (qZ K)) :
  awp P (.loop a) s K:=by
 refine ⟨fun n s=>∃ k,k≤N∧n=N-k∧s=st k∧I k,N,st 0,St.imp_of h0,⟨0,by omega,by omega,rfl,i0⟩,?_⟩
 rintro n s ⟨k,hk,rfl,rfl,hi⟩
 by_cases h:k<N
 ·refine xR (fun e s hs=>?_) (h1 k h hi)
  cases e with
  | normal=>exact ⟨N-(k+1),st (k+1),by omega,St.imp_of hs.1,k+1,by omega,rfl,rfl,hs.2⟩
  | _=>exact hs
 ·obtain rfl:k=N:=by omega
  refine xR (fun e s hs=>?_) (h2 hi)
  cases e with
  | normal=>exact hs.elim
  | _=>exact hs
def T0 (l:Nat) (st:Nat→St) (I:Nat→Prop) (k:Nat) (K:Exit→St→Prop):Exit→St→Prop
 | .goto i,s=>i=l∧lu s (st k)∧I k
 | e,s=>K e s
def T5 (K:Exit→St→Prop):Exit→St→Prop
 | .goto _,_=>False
 | e,s=>K e s
theorem GO {l j:Nat} {st:Nat→St} {I:Nat→Prop} {k:Nat}:T0 l st I k K (.goto j) s=(j=l∧lu s (st k)∧I k):=rfl
theorem GN {l j:Nat} {st:Nat→St} {I:Nat→Prop} {k:Nat}:T0 l st I k K (.exit j) s=K (.exit j) s:=rfl
theorem Dh {l:Nat} {st:Nat→St} {I:Nat→Prop} {k:Nat}:T0 l st I k K .ret s=K .ret s:=rfl
theorem NV {l:Nat} {st:Nat→St} {I:Nat→Prop} {k:Nat}:T0 l st I k K .normal s=K .normal s:=rfl
theorem GY {j:Nat}:T5 K (.exit j) s=K (.exit j) s:=rfl
theorem Dm:T5 K .ret s=K .ret s:=rfl
theorem N2:T5 K .normal s=K .normal s:=rfl
theorem GZ {j:Nat}:T5 K (.goto j) s=False:=rfl
theorem Gi {a:zc} {l:Nat} (st:Nat→St) (I:Nat→Prop) (N:Nat) (h0:lu s (st 0)) (i0:I 0) (h1:∀ k,k<N→I k→awp P a (st k) (T0 l st I (k+1) K)) (h2:I N→awp P a (st N) (T5 K)) :
  awp P (.again l a) s K:=by
 refine ⟨fun n s=>∃ k,k≤N∧n=N-k∧s=st k∧I k,N,st 0,St.imp_of h0,⟨0,by omega,by omega,rfl,i0⟩,?_⟩
 rintro n s ⟨k,hk,rfl,rfl,hi⟩
 by_cases h:k<N
 ·refine xR (fun e s hs=>?_) (h1 k h hi)
  cases e with
  | goto i=>exact ⟨hs.1,N-(k+1),st (k+1),by omega,St.imp_of hs.2.1,k+1,by omega,rfl,rfl,hs.2.2⟩
  | _=>exact hs
 ·obtain rfl:k=N:=by omega
  refine xR (fun e s hs=>?_) (h2 hi)
  cases e with
  | goto i=>exact hs.elim
  | _=>exact hs
end
def wx (sz d:Nat) (rows:List (List AV)):AV:=.list (if rows=[] then 0 else sz) (if rows=[] then .full else .own d) rows
abbrev Ms (sz:Nat) (rows:List (List AV)):AV:=.list (if rows=[] then 0 else sz) (if rows=[] then .full else .plain) rows
theorem aH {sz d:Nat} {rows:List (List AV)}:strip (wx sz d rows)=Ms sz rows:=by
 unfold wx Ms
 split<;>rfl
theorem JY {sz d:Nat} {rows:List (List AV)}:rf (wx sz d rows)=true:=rfl
theorem Ua {sz d k:Nat} {rows:List (List AV)}:zU k (wx sz d rows)=false:=by simp[wx,zU]
theorem EZ {sz d:Nat} {rows:List (List AV)} {K:AV→Option ze→Prop}:lh false [wx sz d rows] K=K (.val (.int .i64 rows.length)) none:=by simp[wx,lh]
theorem BD {sz d:Nat}:wx sz d []=.list 0 .full []:=rfl
theorem Q4 {sz d:Nat} {rows:List (List AV)} {σ:Nat→Option ze}:wP σ (wx sz d rows)=some (Ms sz rows):=by
 rw[← aH (d:=d)]; rfl
theorem afc {l:Nat} {v:Value}:dg l (.val v)=.val v:=rfl
theorem afa {l:Nat} {v:List AV}:dg l (.agg v)=.agg v:=rfl
theorem agI {l:Nat} {v:List AV}:dg l (.ro v)=.ro v:=rfl
theorem afb {l k o:Nat}:dg l (.ptr k o)=.ptr k o:=rfl
theorem B7 {l sz:Nat} {r:List (List AV)}:dg l (.list sz .plain r)=.list sz .plain r:=rfl
theorem acF {l sz:Nat} {r:List (List AV)}:dg l (.list sz .full r)=.list sz .full r:=rfl
theorem agJ {l k sz off n:Nat}:dg l (.sl k sz off n)=.sl k sz off n:=rfl
theorem agL {l k sz off n:Nat}:dg l (.us k sz off n)=if k=l then .undef else .us k sz off n:=rfl
theorem agK {l k sz i off:Nat}:dg l (.up k sz i off)=if k=l then .undef else .up k sz i off:=rfl
theorem B9 {l:Nat}:dg l .undef=.undef:=rfl
theorem acE {l k sz i o:Nat}:dg l (.eptr k sz i o)=.eptr k sz i o:=rfl
theorem B6 {l:Nat} {t:TypeId} {x:AV}:dg l (.iface t x)=.iface t x:=rfl
theorem agH {l:Nat} {f:Fn} {caps:List AV}:dg l (.fn f caps)=if caps.any (lO l)=true then .undef else .fn f caps:=rfl
theorem B8 {l:Nat} {caps:List AV}:dg l (.tuple caps)=if caps.any (lO l)=true then .undef else .tuple caps:=rfl
theorem acD {l sz d:Nat} {rows:List (List AV)} (h:d≠l):dg l (wx sz d rows)=wx sz d rows:=by
 by_cases e:rows=[]
 ·simp[wx,e,dg]
 ·simp[wx,e,dg,h]
theorem ZO {sz by_ d l:Nat} {s:St} {KS:St→Prop} {rows:List (List AV)} {m:Mode} {x:List AV} {xs:List (List AV)} (h0:0<sz) (h1:s.base+d=l) :
  yM sz by_ s (some d) KS [wx sz l rows,.list sz m (x::xs)] =
   ((rows.length+(xs.length+1))*by_≤140737488355328∧rows.length+(xs.length+1)≤9223372036854775807∧lk s.sto l=none∧KS ((s.dg l).put (some d) (wx sz l (rows++x::xs)))):=by
 subst h1
 unfold wx
 by_cases h:rows=[]
 ·subst h
  simp[yM,yZ,h0,St.put]
 ·simp[yM,yZ,h0,h,St.put]
theorem Pk {sz by_ d l sz':Nat} {s:St} {KS:St→Prop} {rows xs:List (List AV)} {m:Mode} (h0:0<sz) (hx:xs=[]∨sz'=sz) (h1:lk s.sto (s.base+d)=none) (h2:lk s.sto l=none)
  (hb:(rows.length+xs.length)*by_≤140737488355328) (hb2:rows.length+xs.length≤9223372036854775807)
  (hK:∀ t,t=l∨t=s.base+d→KS ((s.dg t).put (some d) (.list sz (.own t) (rows++xs)))):yM sz by_ s (some d) KS [wx sz l rows,.list sz' m xs]:=by
 by_cases hr:rows=[]
 ·subst hr
  exact ⟨hx,h0,hb,hb2,.inl rfl,h1,hK _ (.inr rfl)⟩
 ·simp only[wx,hr,if_false]
  exact ⟨hx,h0,hb,hb2,rfl,h2,hK _ (.inl rfl)⟩
theorem LY {l:List Int} {off n:Nat} (h:l.length=n) (h0:off=0):zD (l.map iv) off (some n)=some (.agg (l.map iv)):=by
 subst h0
 exact QE h
def stm:Mode→Mode
 | .own _=>.plain
 | m=>m
theorem po {sz:Nat} {m:Mode} {rows:List (List AV)}:strip (.list sz m rows)=.list sz (stm m) rows:=by cases m<;>rfl
theorem C5:stm .plain=.plain:=rfl
theorem abn:stm .full=.full:=rfl
theorem aec {l:Nat}:stm (.own l)=.plain:=rfl
theorem vd {cells:List AV} {n:Nat} (h:cells.length=n) (h2:cells.all rf=true):zD cells 0 (some n)=some (.agg (cells.map strip)):=by
 simp only[zD,List.drop_zero]
 rw[List.take_of_length_le (by omega),if_pos ⟨by omega,h2⟩]
theorem aed {m:Mode}:stm (stm m)=stm m:=by cases m<;>rfl
theorem acG {l sz:Nat} {m:Mode} {r:List (List AV)} (h:stm m=m):dg l (.list sz m r)=.list sz m r:=by
 cases m with
 | own k=>cases h
 | _=>rfl
theorem aau {s:St} {d:Nat} {x:AV}:s.put (some d) x=⟨pt s.env d x,s.sto,s.out,s.base⟩:=rfl
attribute [simp] FX GX qB t8 acZ YC FY C4 FZ GO GN Dh NV GY Dm N2 GZ
attribute [simp] afM ac9 ada Lj FW C3 N1 GW Dl Z2 T4 qY ff aH JY Ua EZ BD Q4 afc afa agI afb B7 acF agJ acD agL agK B9 acE B6 agH B8 lO ZO aau uB tk St.dg dgE FN FL po C5 abn aec aed acG sW lJ pf pf1 GV LY vd
abbrev XE:=Option (AV × Option ze)
def PJ (n:Nat) (lo hi mx:Bool) (xs:List AV):Option (Nat × Nat × Bool) :=
 match lo,hi,mx,xs with
 | false,false,false,[]=>some (0,n,false)
 | true,false,false,[.val (.int _ l)]=>if 0≤l∧l≤n then some (l.toNat,n,false) else none
 | false,true,false,[.val (.int _ h)]=>if 0≤h∧h≤n then some (0,h.toNat,false) else none
 | true,true,false,[.val (.int _ l),.val (.int _ h)]=>if 0≤l∧l≤h∧h≤n then some (l.toNat,h.toNat,false) else none
 | false,true,true,[.val (.int _ h),.val (.int _ m)]=>if 0≤h∧h=m∧m≤n then some (0,h.toNat,true) else none
 | true,true,true,[.val (.int _ l),.val (.int _ h),.val (.int _ m)]=>if 0≤l∧l≤h∧h=m∧m≤n then some (l.toNat,h.toNat,true) else none
 | _,_,_,_=>none
def Lx:Option Value→XE
 | some v=>some (ofV v,none)
 | none=>none
def avX:Option AV→XE
 | some v=>some (v,none)
 | none=>none
def aii (P:Program) (op:BinOp) (t:TypeId) (ox oy:Operand):List AV→XE
 | [x,y]=>match toV x,toV y with
  | some a,some b=>Lx (zr P (do eqGuard op t ox oy a b; binOp op t a b))
  | _,_=>none
 | _=>none
def ag4 (σ:Nat→Option ze) (n:Option Nat):List AV→XE
 | [.ptr j off]=>match σ j with
  | some (.var cells)=>avX (zD cells off n)
  | _=>none
 | [.eptr j sz i off]=>match σ j with
  | some (.arr sz' rows)=>if sz'=sz then (match rows[i]? with
   | some r=>avX (zD r off n)
   | none=>none) else none
  | _=>none
 | [.ro cells]=>avX (zD cells 0 n)
 | [.up l sz i off]=>match σ l with
  | some (.uarr sz' rows)=>if sz'=sz then (match rows[i]? with
   | some r=>avX (zD r off n)
   | none=>none) else none
  | _=>none
 | _=>none
def acX (len esz:Nat):List AV→XE
 | [.ptr j off,.val (.int _ i)]=>if 0≤i∧i<len then some (.ptr j (off+i.toNat * esz),none) else none
 | [.eptr j sz r off,.val (.int _ i)]=>if 0≤i∧i<len then some (.eptr j sz r (off+i.toNat * esz),none) else none
 | [.ro cells,.val (.int _ i)]=>if 0≤i∧i<len then some (.ro (cells.drop (i.toNat * esz)),none) else none
 | [.up j sz r off,.val (.int _ i)]=>if 0≤i∧i<len then some (.up j sz r (off+i.toNat * esz),none) else none
 | _=>none
def acY (sz:Nat):List AV→XE
 | [.list sz' _ rows,.val (.int _ i)]=>if 0≤i∧i<rows.length∧sz'=sz then (match rows[i.toNat]? with
   | some r=>some (.ro r,none)
   | none=>none) else none
 | [.sl j sz' off len,.val (.int _ i)]=>if 0≤i∧i<len∧sz'=sz then some (.eptr j sz (off+i.toNat) 0,none) else none
 | [.us j sz' off len,.val (.int _ i)]=>if 0≤i∧i<len∧sz'=sz then some (.up j sz (off+i.toNat) 0,none) else none
 | [.lit sz' rows,.val (.int _ i)]=>if yn rows=true∧0≤i∧i<(zN rows).length∧sz'=sz then (match (zN rows)[i.toNat]? with
   | some r=>some (.ro r,none)
   | none=>none) else none
 | _=>none
def agc (sz:Nat) (lo hi mx:Bool):List AV→XE
 | .list sz' _ rows::xs=>if rows.isEmpty=true∨sz'=sz then (match PJ rows.length lo hi mx xs with
   | some (l,h,f)=>some (.list sz' (if f=true then .full else .plain) ((rows.take h).drop l),none)
   | none=>none) else none
 | .sl j sz' off len::xs=>if sz'=sz then (match PJ len lo hi mx xs with
   | some (l,h,_)=>some (.sl j sz (off+l) (h-l),none)
   | none=>none) else none
 | .us j sz' off len::xs=>if sz'=sz then (match PJ len lo hi mx xs with
   | some (l,h,_)=>some (.us j sz (off+l) (h-l),none)
   | none=>none) else none
 | _=>none
def mkX (sz bytes:Nat) (zero:List AV) (d:Nat) (σ:Nat→Option ze):List AV→XE
 | [.val (.int _ l),.val (.int _ c)] =>
  if l=c∧0≤l∧l*bytes≤140737488355328∧l≤9223372036854775807∧zero.length=sz∧0<sz∧(σ d).isNone=true then
   some (.sl d sz 0 l.toNat,some (.arr sz (List.replicate l.toNat zero))) else none
 | _=>none
def aiC (str:Bool):List AV→XE
 | [.list _ _ rows]=>if str=false then some (.val (.int .i64 rows.length),none) else none
 | [.sl _ _ _ len]=>if str=false then some (.val (.int .i64 len),none) else none
 | [.us _ _ _ len]=>if str=false then some (.val (.int .i64 len),none) else none
 | [.lit _ rows]=>if str=false then some (.val (.int .i64 rows.length),none) else none
 | [.val (.string s)]=>if str=true then some (.val (.int .i64 s.size),none) else none
 | _=>none
def TO (call:FuncId→List AV→Option AV) (f:FuncId) (σ:Nat→Option ze) (xs:List AV):XE :=
 match yv (wP σ) xs with
 | some args=>match call f args with
  | some r=>if xs.any sW=false∨pf r=true then some (r,none) else none
  | none=>none
 | none=>none
def ac1 (P:Program) (t:TypeId) (ok:Bool) (σ:Nat→Option ze):List AV→XE
 | [.mp j,y]=>match σ j,toV y with
  | some (.map es _),some kv=>match findM P t kv es with
   | some (v,b)=>some (if ok=true then .tuple [ofV v,.val (.bool b)] else ofV v,none)
   | none=>none
  | _,_=>none
 | _=>none
def abP (P:Program) (call:FuncId→List AV→Option AV) (d:Nat) (op:AOp) (xs:List AV) (σ:Nat→Option ze):XE :=
 match op with
 | .mov=>match xs with
  | [x]=>some (x,none)
  | _=>none
 | .pick=>match xs with
  | [.val (.bool t),a,b]=>some (cond t a b,none)
  | _=>none
 | .alloc cells=>if (σ d).isNone=true then some (.ptr d 0,some (.var cells)) else none
 | .box=>match xs with
  | [x]=>match cellsOf x with
   | some cs=>if (σ d).isNone=true then some (.ptr d 0,some (.var cs)) else none
   | none=>none
  | _=>none
 | .build zero places=>avX (orR (tk zero places xs) (sy zero places xs))
 | .mkslice sz n zero places=>match uB sz (List.replicate n zero) places xs,wb sz (List.replicate n zero) places xs with
  | some rows,_=>if zero.length=sz∧0<sz then some (.list sz .full rows,none) else none
  | none,some rows=>if zero.length=sz∧0<sz then some (.lit sz rows,none) else none
  | none,none=>none
 | .load n=>ag4 σ n xs
 | .nilChk=>match xs with
  | [.ptr j off]=>some (.ptr j off,none)
  | [.eptr j sz i off]=>some (.eptr j sz i off,none)
  | [.up j sz i off]=>some (.up j sz i off,none)
  | [.ro cells]=>some (.ro cells,none)
  | [.fn f caps]=>some (.fn f caps,none)
  | _=>none
 | .bin op t ox oy=>aii P op t ox oy xs
 | .un op=>match xs with
  | [.val v]=>Lx (zr P (Op.unary op v))
  | _=>none
 | .conv s d'=>match xs with
  | [.val v]=>Lx (zr P (convert s d' v))
  | _=>none
 | .idxV t=>match xs with
  | [x,.val i]=>match toV x with
   | some a=>Lx (zr P (Instr.index t a i))
   | none=>none
  | _=>none
 | .sliceV _ lo hi mx=>match xs with
  | .val (.string s)::ys=>match PJ s.size lo hi mx ys with
   | some (l,h,_)=>if mx=false then some (.val (.string (s.extract l h)),none) else none
   | none=>none
  | _=>none
 | .mm b ts t=>match sM xs with
  | some vs=>Lx (zr P (if b=.max then Builtin.max_ ts t vs.toArray else Builtin.min_ ts t vs.toArray))
  | none=>none
 | .field off n=>match xs with
  | [.agg cells]=>avX (vJ cells off n)
  | [.raw cells]=>avX (zD cells off n)
  | _=>none
 | .faddr off=>match xs with
  | [.ptr j o]=>some (.ptr j (o+off),none)
  | [.eptr j sz i o]=>some (.eptr j sz i (o+off),none)
  | [.up j sz i o]=>some (.up j sz i (o+off),none)
  | [.ro cells]=>some (.ro (cells.drop off),none)
  | _=>none
 | .iaddrA len esz=>acX len esz xs
 | .iaddrS sz=>acY sz xs
 | .idxA len esz n=>match xs with
  | [.agg cells,.val (.int _ i)]=>if 0≤i∧i<len then avX (vJ cells (i.toNat * esz) n) else none
  | _=>none
 | .slice sz lo hi mx=>agc sz lo hi mx xs
 | .mk sz bytes zero=>mkX sz bytes zero d σ xs
 | .len s=>aiC s xs
 | .extract i=>match xs with
  | [.tuple vs]=>avX vs[i]?
  | _=>none
 | .mkfn f=>some (.fn (.func f) (xs.map strip),none)
 | .mkb f=>some (.fn (.via 0 #[] f false) (xs.map strip),none)
 | .call f=>TO call f σ xs
 | .callv=>match xs with
  | .fn (.func f) caps::ys=>if yR P f=true then TO call f σ (ys++caps) else none
  | .fn (.via _ _ f _) rs::ys=>if yR P f=true then TO call f σ (rs++ys) else none
  | _=>none
 | .mksliceL sz n zero places=>match wb sz (List.replicate n zero) places xs with
  | some rows=>if zero.length=sz∧0<sz then some (.lit sz rows,none) else none
  | none=>none
 | .mkmap=>if (σ d).isNone=true then some (.mp d,some (.map #[] 0)) else none
 | .lookup t ok=>ac1 P t ok σ xs
 | .mkif t=>match xs with
  | [x]=>if rf x=true then some (.iface t (strip x),none) else none
  | _=>none
 | .callm name=>match xs with
  | .iface t x::ys=>match bW P t name with
   | some f=>if yR P f=true then TO call f σ (x::ys) else none
   | none=>none
  | _=>none
 | _=>none
def agj (n:Nat) (s:St) (dst:Option Nat):List AV→Option St
 | [.ptr j off,x]=>match lk s.sto j,cellsOf x with
  | some (.var cells),some cs=>if cs.length=n∧off+n≤cells.length∧dst.isNone=true then some {s with sto:=pt s.sto j (.var (splice cells off cs))} else none
  | _,_=>none
 | [.eptr j sz i off,x]=>match lk s.sto j,cellsOf x with
  | some (.arr sz' rows),some cs=>if sz'=sz∧cs.length=n∧off+n≤sz∧i<rows.length∧cs.all rf=true∧dst.isNone=true then
    (match rows[i]? with
    | some r=>some {s with sto:=pt s.sto j (.arr sz (rows.set i (splice r off (cs.map strip))))}
    | none=>none) else none
  | _,_=>none
 | [.up l sz i off,x]=>match lk s.sto l,cellsOf x with
  | some (.uarr sz' rows),some cs=>if sz'=sz∧cs.length=n∧off+n≤sz∧dst.isNone=true then
    (match rows[i]? with
    | some r=>some {s with sto:=pt s.sto l (.uarr sz (rows.set i (splice r off cs)))}
    | none=>none) else none
  | _,_=>none
 | _=>none
def Uk (σ:Nat→Option ze) (sz:Nat):AV→Option (List (List AV))
 | .list sz' _ rows=>if rows.isEmpty=true∨sz'=sz then some rows else none
 | .sl j sz' off len=>if sz'=sz then (match σ j with
   | some (.arr sz'' rows)=>if sz''=sz∧off+len≤rows.length then some ((rows.drop off).take len) else none
   | _=>none) else none
 | .us j sz' off len=>if sz'=sz then (match σ j with
   | some (.uarr sz'' rows)=>if sz''=sz∧off+len≤rows.length∧yn ((rows.drop off).take len)=true then some (zN ((rows.drop off).take len)) else none
   | _=>none) else none
 | .val (.string b)=>if sz=1 then some (b.data.toList.map fun x=>[.val (.int .u8 x.toNat)]) else none
 | .lit sz' rows=>if sz'=sz∧yn rows=true then some (zN rows) else none
 | _=>none
def Ql (σ:Nat→Option ze) (sz:Nat):AV→Option (List (List AV))
 | .us j sz' off len=>if sz'=sz then (match σ j with
   | some (.uarr sz'' rows)=>if sz''=sz∧off+len≤rows.length then some ((rows.drop off).take len) else none
   | _=>none) else none
 | .lit sz' rows=>if sz'=sz then some rows else none
 | x=>Uk σ sz x
def BH (sz bytes:Nat) (s:St) (dst:Option Nat):List AV→Option St
 | [.list _ .full rows1,x]=>match Ql (lk s.sto) sz x with
  | some rows2=>if 0<sz∧(rows1.length+rows2.length)*bytes≤140737488355328∧rows1.length+rows2.length≤9223372036854775807 then
    (match dst with
    | some d=>if rows1.isEmpty=true∧(lk s.sto (s.base+d)).isNone=true then
      some (((s.dg (s.base+d)).put (some d) (.us (s.base+d) sz 0 rows2.length)).new (some d) (some (.uarr sz (zR (s.base+d) rows2)))) else none
    | none=>none) else none
  | none=>none
 | [.us l sz1 off len,x]=>match Ql (lk s.sto) sz x with
  | some rows2=>if 0<sz∧(len+rows2.length)*bytes≤140737488355328∧len+rows2.length≤9223372036854775807 then
    (match lk s.sto l,dst with
    | some (.uarr sz' rows1),some d=>if sz'=sz∧sz1=sz∧off=0∧len=rows1.length then
      some ({(s.dg l) with sto:=pt (s.dg l).sto l (.uarr sz (zR l (rows1++rows2)))}.put (some d) (.us l sz 0 (len+rows2.length))) else none
    | _,_=>none) else none
  | none=>none
 | _=>none
def DE (sz n:Nat) (zero:List AV) (places:List Nat) (s:St) (dst:Option Nat) (xs:List AV):Option St :=
 match wb sz (List.replicate n zero) places xs,dst with
 | some rows,some d=>if zero.length=sz∧0<sz∧(lk s.sto (s.base+d)).isNone=true then
   some (((s.dg (s.base+d)).put (some d) (.us (s.base+d) sz 0 n)).new (some d) (some (.uarr sz (zR (s.base+d) rows)))) else none
 | _,_=>none
abbrev CI:=FuncId→List AV→St→Option (AV × St)
def Eu (P:Program) (ci:CI) (f:FuncId) (xs:List AV) (s:St) (dst:Option Nat):Option St :=
 if yR P f=true then (match ci f xs s with
  | some (r,s')=>if s'.base=s.base then some (s'.put dst r) else none
  | none=>none) else none
def ach (sz bytes:Nat) (s:St) (dst:Option Nat):List AV→Option St
 | [.list sz1 m rows1,x]=>match Uk (lk s.sto) sz x with
  | some rows2=>if 0<sz∧(rows1.length+rows2.length)*bytes≤140737488355328∧rows1.length+rows2.length≤9223372036854775807 then
    (match m,dst with
    | .full,some d=>if (rows1.isEmpty=true∨sz1=sz)∧(lk s.sto (s.base+d)).isNone=true then some ((s.dg (s.base+d)).put (some d) (.list sz (.own (s.base+d)) (rows1++rows2))) else none
    | .own l,some d=>if sz1=sz∧(lk s.sto l).isNone=true then some ((s.dg l).put (some d) (.list sz (.own l) (rows1++rows2))) else none
    | _,_=>none) else none
  | none=>none
 | _=>none
def acz (σ:Nat→Option ze) (sz:Nat):AV→Option (List (List AV))
 | .val _=>none
 | x=>Uk σ sz x
def agF (sz:Nat) (s:St) (dst:Option Nat):List AV→Option St
 | [.sl j sz1 off len,x]=>if sz1=sz∧0<sz then (match acz (lk s.sto) sz x with
  | some rows2=>match lk s.sto j with
   | some (.arr sz' rows)=>if sz'=sz∧off+len≤rows.length∧rows2.length≤len then
     some (({s with sto:=pt s.sto j (.arr sz (rows.take off++rows2++rows.drop (off+rows2.length)))}).put dst (.val (.int .i64 (rows2.length:Nat)))) else none
   | _=>none
  | none=>none) else none
 | _=>none
section
variable {P:Program} {call:FuncId→List AV→Option AV} {ci:CI} {K:St→Prop} {s s':St} {xs:List AV} {dst:Option Nat}
def vEq:Value→Value→Bool
 | .bool a,.bool b=>a == b
 | .int k a,.int k' b=>decide (k=k')&&decide (a=b)
 | .string a,.string b=>decide (a=b)
 | .pointer none,.pointer none=>true
 | .slice none a b,.slice none c d=>decide (a=c)&&decide (b=d)
 | _,_=>false
def mEq:Mode→Mode→Bool
 | .plain,.plain=>true
 | .full,.full=>true
 | .own a,.own b=>decide (a=b)
 | _,_=>false
def fEq:Fn→Fn→Bool
 | .func a,.func b=>decide (a=b)
 | _,_=>false
mutual
def BI:AV→AV→Bool
 | .undef,y=>match y with
  | .undef=>true
  | _=>false
 | .val a,y=>match y with
  | .val b=>vEq a b
  | _=>false
 | .agg a,y=>match y with
  | .agg b=>alq a b
  | _=>false
 | .tuple a,y=>match y with
  | .tuple b=>alq a b
  | _=>false
 | .list n m r,y=>match y with
  | .list n' m' r'=>decide (n=n')&&(mEq m m'&&PG r r')
  | _=>false
 | .ro a,y=>match y with
  | .ro b=>alq a b
  | _=>false
 | .ptr a b,y=>match y with
  | .ptr c d=>decide (a=c)&&decide (b=d)
  | _=>false
 | .eptr a b c d,y=>match y with
  | .eptr a' b' c' d'=>decide (a=a')&&decide (b=b')&&decide (c=c')&&decide (d=d')
  | _=>false
 | .sl a b c d,y=>match y with
  | .sl a' b' c' d'=>decide (a=a')&&decide (b=b')&&decide (c=c')&&decide (d=d')
  | _=>false
 | .us a b c d,y=>match y with
  | .us a' b' c' d'=>decide (a=a')&&decide (b=b')&&decide (c=c')&&decide (d=d')
  | _=>false
 | .up a b c d,y=>match y with
  | .up a' b' c' d'=>decide (a=a')&&decide (b=b')&&decide (c=c')&&decide (d=d')
  | _=>false
 | .fn f c,y=>match y with
  | .fn f' c'=>fEq f f'&&alq c c'
  | _=>false
 | .iface t x,y=>match y with
  | .iface t' x'=>decide (t=t')&&BI x x'
  | _=>false
 | .mp a,y=>match y with
  | .mp b=>decide (a=b)
  | _=>false
 | .lit n r,y=>match y with
  | .lit n' r'=>decide (n=n')&&PG r r'
  | _=>false
 | .raw a,y=>match y with
  | .raw b=>alq a b
  | _=>false
def alq:List AV→List AV→Bool
 | [],y=>match y with
  | []=>true
  | _=>false
 | x::l,y=>match y with
  | z::m=>BI x z&&alq l m
  | _=>false
def PG:List (List AV)→List (List AV)→Bool
 | [],y=>match y with
  | []=>true
  | _=>false
 | x::l,y=>match y with
  | z::m=>alq x z&&PG l m
  | _=>false
end
def aim:Option ze→Option ze→Bool
 | none,none=>true
 | some (.var a),some (.var b)=>alq a b
 | some (.arr n a),some (.arr m b)=>decide (n=m)&&PG a b
 | some (.map a n),some (.map b m)=>a.isEmpty&&b.isEmpty&&decide (n=m)
 | _,_=>false
def aij (P:Program) (call:FuncId→List AV→Option AV) (op:AOp) (s:St) (dst:Option Nat) (xs:List AV):Option St :=
 match dst with
 | some d=>match abP P call (s.base+d) op xs (lk (del [s.base+d] s.sto)),lk s.env d with
  | some (x,e),some y=>if BI y x&&aim (lk s.sto (s.base+d)) e then some s else none
  | _,_=>none
 | none=>none
def Db (σ:List (Nat × ze)) (base:Nat):List Nat→Bool
 | []=>true
 | d::ds=>(lk σ (base+d)).isNone&&Db σ base ds
def agh (ds:List Nat) (s:St):Option St:=if Db s.sto s.base ds=true then some {s with env:=del ds s.env} else none
def ac8 (P:Program) (t:TypeId) (s:St) (dst:Option Nat):List AV→Option St
 | [.mp j,y,x]=>match lk s.sto j,toV y,toV x with
  | some (.map es clock),some kv,some v=>match setM P t kv v es clock with
   | some (es',clock')=>if dst.isNone=true then some {s with sto:=pt s.sto j (.map es' clock')} else none
   | none=>none
  | _,_,_=>none
 | _=>none
def execOp (P:Program) (call:FuncId→List AV→Option AV) (ci:CI) (dst:Option Nat) (op:AOp) (xs:List AV) (s:St):Option St :=
 match op with
 | .store n=>agj n s dst xs
 | .append sz b=>ach sz b s dst xs
 | .copy sz=>agF sz s dst xs
 | .appendU sz b=>BH sz b s dst xs
 | .mksliceU sz n z ps=>DE sz n z ps s dst xs
 | .callI f=>Eu P ci f xs s dst
 | .mapset t=>ac8 P t s dst xs
 | .chk op=>aij P call op s dst xs
 | .start ds=>agh ds s
 | .callvI=>match xs with
  | .fn (.func f) caps::ys=>Eu P ci f (ys++caps) s dst
  | _=>none
 | .nilS neg=>match xs with
  | [x]=>match Mj x with
   | some (_+1)=>some (s.put dst (.val (.bool neg)))
   | _=>none
  | _=>none
 | .callM _ _=>none
 | .chkG _ _ _=>none
 | op=>match abP P call (s.base+dst.getD 0) op xs (lk s.sto) with
  | some (x,e)=>some ((s.put dst x).new dst e)
  | none=>none
end
abbrev aid:=FuncId→Option (zc × List zu × Nat)
def Tp (P:Program) (tbl:aid):Prop:=∀ f ac ras N,tbl f=some (ac,ras,N)→zj P f=some (bare ac,ras,N)
theorem Tp.nil {P:Program}:Tp P (lk []):=fun _ _ _ _ h=>by cases h
theorem Tp.cons {P:Program} {f:FuncId} {ac:zc} {ras:List zu} {N:Nat} {l:List (Nat × (zc × List zu × Nat))} (h:zj P f=some (bare ac,ras,N)) (hl:Tp P (lk l)) :
  Tp P (lk ((f,(ac,ras,N))::l)):=fun g a r n hg=>by
 simp only[lk] at hg
 split at hg
 ·rename_i e; subst e; cases hg; exact h
 ·exact hl _ _ _ _ hg
@[simp] theorem aiH {b:Bool}:ofV (.bool b)=.val (.bool b):=rfl
@[simp] theorem adm {k:IntKind} {n:Int}:ofV (.int k n)=.val (.int k n):=rfl
@[simp] theorem aha {s:ByteArray}:ofV (.string s)=.val (.string s):=rfl
@[congr] theorem agx {P:Program} {f:FuncId} {σ:Nat→Option ze} {xs xs':List AV} {k:AV→Option ze→Prop} (h:Unit→xs=xs'):we P f σ xs k=we P f σ xs' k:=by rw[h ()]
@[congr] theorem aeX {P:Program} {os:List zi} {s s':St} {K:St→Prop} (h:Unit→s=s'):zl P os s K=zl P os s' K:=by rw[h ()]
@[simp] theorem ajl {c:Prop} [Decidable c]:stm (if c then Mode.full else Mode.plain)=if c then Mode.full else Mode.plain:=by split<;>rfl
def Gx (len esz:Nat) (n:Option Nat) (x y:AV) (k:AV→Option ze→Prop):Prop :=
 match x,y with
 | .agg cells,.val (.int _ i)=>0≤i∧i<len∧xT (vJ cells (i.toNat * esz) n) k
 | _,_=>False
@[simp] theorem ahJ {len esz:Nat} {n:Option Nat} {cells:List AV} {ik:IntKind} {i:Int} {k:AV→Option ze→Prop} :
  Gx len esz n (.agg cells) (.val (.int ik i)) k=(0≤i∧i<len∧xT (vJ cells (i.toNat * esz) n) k):=rfl
@[simp] theorem aiI {P:Program} {s:St} {KS:St→Prop} {os:List zi} {d:Nat} {len esz:Nat} {n:Option Nat} {x y:Opd} :
  zl P (⟨some d,.idxA len esz n,[x,y],none⟩::os) s KS=Gx len esz n (ev s x) (ev s y) (xt P os s (some d) KS):=by
 show zL P (s.base+d) (.idxA len esz n) [ev s x,ev s y] (lk s.sto) (xt P os s (some d) KS)=_
 simp only[zL,Gx]
 cases ev s x<;>try rfl
 cases ev s y<;>try rfl
 rename_i v
 cases v<;>rfl
@[simp] theorem ahd {cells:List AV} {off:Nat}:vJ cells off none=cells[off]?:=rfl
open Go.ChangeShapes Go.WideShapes
inductive Ty where
 | bool
 | int (k:IntKind)
 | str
 | slice (e:Ty)
 | arr (n:Nat) (e:Ty)
 | st (fs:List Ty)
mutual
def Ty.sz:Ty→Nat
 | .bool=>1
 | .int _=>1
 | .str=>1
 | .slice _=>1
 | .arr n e=>n*e.sz
 | .st fs=>Ty.szs fs
def Ty.szs:List Ty→Nat
 | []=>0
 | t::ts=>t.sz+Ty.szs ts
end
def ll (P:Program) (f:TypeId→Option Ty):Nat→List Field→Option (List Ty)
 | _,[]=>some []
 | off,g::gs=>match f g.type with
  | some τ=>if g.offset=off∧P.cellsOf g.type=τ.sz then (ll P f (off+τ.sz) gs).map (τ::·) else none
  | none=>none
def fK (P:Program):Nat→TypeId→Option Ty
 | 0,_=>none
 | m+1,t=>match P.underlying t with
  | some .bool=>some .bool
  | some (.int k)=>some (.int k)
  | some .string=>some .str
  | some (.slice e)=>match fK P m e with
   | some τ=>if 0<τ.sz∧P.cellsOf e=τ.sz∧0<P.bytesOf e then some (.slice τ) else none
   | none=>none
  | some (.array n e)=>match fK P m e with
   | some τ=>if P.cellsOf e=τ.sz∧P.cellsOf t=n*τ.sz then some (.arr n τ) else none
   | none=>none
  | some (.struct fs)=>match ll P (fK P m) 0 fs.toList with
   | some τs=>if P.cellsOf t=Ty.szs τs then some (.st τs) else none
   | none=>none
  | _=>none
mutual

def TyC:Ty→List AV→Prop
 | .bool,cs=>∃ b,cs=[.val (.bool b)]
 | .int k,cs=>∃ n,cs=[.val (.int k n)]∧(Lit.int k n).wf=true
 | .str,cs=>∃ s:ByteArray,cs=[.val (.string s)]∧s.size≤reachBytes
 | .slice e,cs=>∃ rows:List (List AV),cs=[.list e.sz .plain rows]∧rows.length≤reachBytes∧∀ r∈rows,TyC e r
 | .arr n e,cs=>∃ rows:List (List AV),cs=rows.flatten∧rows.length=n∧∀ r∈rows,TyC e r
 | .st fs,cs=>PX fs cs
def PX:List Ty→List AV→Prop
 | [],cs=>cs=[]
 | τ::τs,cs=>∃ a b,cs=a++b∧TyC τ a∧PX τs b
end
theorem XU {α:Type} {n:Nat}:∀ {rows:List (List α)},(∀ r∈rows,r.length=n)→rows.flatten.length=rows.length*n
 | [],_=>by simp
 | r::rows,h=>by
  simp only[List.flatten_cons,List.length_append,List.length_cons,Nat.succ_mul]
  rw[XU (rows:=rows) (fun r hr=>h r (by simp[hr])),h r (by simp)]
  omega
mutual
theorem YT:∀ {τ:Ty} {cs:List AV},TyC τ cs→cs.length=τ.sz
 | .bool,_,h=>by obtain ⟨b,rfl⟩:=h; rfl
 | .int _,_,h=>by obtain ⟨b,rfl,_⟩:=h; rfl
 | .str,_,h=>by obtain ⟨b,rfl,_⟩:=h; rfl
 | .slice _,_,h=>by obtain ⟨b,rfl,_⟩:=h; rfl
 | .arr n e,_,h=>by
  obtain ⟨rows,rfl,rfl,h⟩:=h
  rw[XU (fun r hr=>YT (h r hr))]; rfl
 | .st fs,_,h=>PY (show PX fs _ from h)
theorem PY:∀ {τs:List Ty} {cs:List AV},PX τs cs→cs.length=Ty.szs τs
 | [],_,h=>by rw[show _=[] from h]; rfl
 | τ::τs,_,h=>by
  obtain ⟨a,b,rfl,h1,h2⟩:=h
  rw[List.length_append,YT h1,PY h2]; rfl
end
section
variable {H:Type} {enc:TypeId × Value→H} {P:Program} {w:World}
abbrev PI (ps:List MemPlace):Nat→Nat→Prop:=fun b o=>MemPlace.cell b o∈ps
def xL (w:World) (ps:List MemPlace) (xs:List AV) (cs:List Value):Prop :=
 xs.length=cs.length∧∀ (i:Nat) x,xs[i]?=some x→R0 (PI ps) w x (cs.getD i undef)∧single (cs.getD i undef)=true
theorem xL.mono {ps qs:List MemPlace} {xs:List AV} {cs:List Value} (h:xL w ps xs cs) (hs:∀ p∈ps,p∈qs):xL w qs xs cs :=
 ⟨h.1,fun i x hx=>⟨(h.2 i x hx).1.mono (fun _ _ hp=>hs _ hp) (fun _ _ _ _ h=>h),(h.2 i x hx).2⟩⟩
theorem xL.append {ps:List MemPlace} {xs ys:List AV} {cs ds:List Value} (h:xL w ps xs cs) (k:xL w ps ys ds):xL w ps (xs++ys) (cs++ds):=by
 refine ⟨by simp[h.1,k.1],fun i x hx=>?_⟩
 by_cases hi:i<xs.length
 ·rw[List.getElem?_append_left hi] at hx
  have:(cs++ds).getD i undef=cs.getD i undef:=by simp only[List.getD]; rw[List.getElem?_append_left (by rw[← h.1]; exact hi)]
  rw[this]; exact h.2 i x hx
 ·rw[List.getElem?_append_right (by omega)] at hx
  have:(cs++ds).getD i undef=ds.getD (i-xs.length) undef:=by simp only[List.getD]; rw[List.getElem?_append_right (by rw[← h.1]; omega),h.1]
  rw[this]; exact k.2 _ x hx
theorem xL.one {ps:List MemPlace} {x:AV} {v:Value} (h:R0 (PI ps) w x v) (hs:single v=true):xL w ps [x] [v]:=by
 refine ⟨rfl,fun i y hy=>?_⟩
 cases i with
 | zero=>simp at hy; subst hy; exact ⟨h,hs⟩
 | succ i=>simp at hy
theorem xL.nil {ps:List MemPlace}:xL w ps [] []:=⟨rfl,fun i x h=>by simp at h⟩
theorem SW {ps:List MemPlace} {n:Nat}:∀ {rows:List (List AV)} {cs:List Value},cs.length=rows.length*n →
  (∀ i r,rows[i]?=some r→xL w ps r ((cs.drop (i*n)).take n))→xL w ps rows.flatten cs
 | [],cs,hl,_=>by
  have:cs=[]:=List.eq_nil_of_length_eq_zero (by simpa using hl)
  subst this
  exact xL.nil
 | r::rows,cs,hl,h=>by
  simp only[List.length_cons,Nat.succ_mul] at hl
  have h0:=h 0 r rfl
  simp only[Nat.zero_mul,List.drop_zero] at h0
  have ih:=SW (ps:=ps) (n:=n) (rows:=rows) (cs:=cs.drop n) (by simp; omega) (fun i q hq=>by
   have:=h (i+1) q (by simpa using hq)
   rw[List.drop_drop]
   rwa [Nat.succ_mul,Nat.add_comm] at this)
  have:=h0.append ih
  rwa [List.take_append_drop] at this
theorem Ur {base:Nat} {a:Addr} {n:Nat} {cs:List Value} (h:w.cells? base a n=some cs):cs.length=n∧∀ i,i<n→w.cell? (a.add i)=cs[i]?:=by
 unfold World.cells? at h
 split at h
 ·refine ⟨by simpa using mapM_some_length h,fun i hi=>mapM_some_get h i i (by simp[hi])⟩
 ·cases h
abbrev lP (P:Program) (t:TypeId) (d:DataW H):Prop:=(d.weights P t).all (·≤reachBytes)=true
theorem Yq {P:Program} {e:TypeId}:∀ {ds:List (DataW H)},(DataW.weightsAll P e ds).all (·≤reachBytes)=true→∀ d∈ds,lP P e d
 | [],_,_,h=>by cases h
 | d::ds,h,q,hq=>by
  simp only[DataW.weightsAll,List.all_append,Bool.and_eq_true] at h
  rcases List.mem_cons.1 hq with rfl | hq
  ·exact h.1
  ·exact Yq h.2 q hq
theorem az {P:Program}:∀ {ts:List TypeId} {ds:List (DataW H)},(DataW.weightsEach P ts ds).all (·≤reachBytes)=true→∀ (i:Nat) t d,ts[i]?=some t→ds[i]?=some d→lP P t d
 | [],_,_,i,t,d,h1,_=>by simp at h1
 | t::ts,[],_,i,_,_,_,h2=>by simp at h2
 | t::ts,d::ds,h,i,t',d',h1,h2=>by
  simp only[DataW.weightsEach,List.all_append,Bool.and_eq_true] at h
  cases i with
  | zero=>simp at h1 h2; subst h1; subst h2; exact h.1
  | succ i=>simp at h1 h2; exact az h.2 i _ _ h1 h2
theorem dz {α β:Type} {Q:Nat→α→β→Prop}:∀ {l:List α} (k:Nat),(∀ i a,l[i]?=some a→∃ b,Q (k+i) a b)→∃ m:List β,m.length=l.length∧∀ i a b,l[i]?=some a→m[i]?=some b→Q (k+i) a b
 | [],_,_=>⟨[],rfl,fun i a b h=>by simp at h⟩
 | a::l,k,h=>by
  obtain ⟨b,hb⟩:=h 0 a rfl
  obtain ⟨m,h1,h2⟩:=dz (l:=l) (k+1) (fun i a ha=>by
   have:=h (i+1) a (by simpa using ha)
   rwa [show k+1+i=k+(i+1) by omega])
  refine ⟨b::m,by simp[h1],fun i a' b' ha hb'=>?_⟩
  cases i with
  | zero=>simp at ha hb'; subst ha; subst hb'; exact hb
  | succ i =>
   simp at ha hb'
   have:=h2 i a' b' ha hb'
   rwa [show k+1+i=k+(i+1) by omega] at this
theorem YB {ps:List MemPlace} {n:Nat} {f:TypeId→Option Ty} {cs:List Value}:∀ {fs:List Field} {τs:List Ty} {off:Nat} {xs:List (DataW H × List MemPlace)},ll P f off fs=some τs→xs.length=fs.length→cs.length=off+Ty.szs τs →
  (∀ (i:Nat) (g:Field) x,fs[i]?=some g→xs[i]?=some x→(∀ p∈x.2,p∈ps)∧∀ τ,f g.type=some τ→∃ ys,TyC τ ys∧xL w x.2 ys ((cs.drop g.offset).take (P.cellsOf g.type))) →
  ∃ ys,PX τs ys∧xL w ps ys (cs.drop off)
 | [],τs,off,xs,h,_,hl,_=>by
  simp only[ll,Option.some.injEq] at h
  subst h
  simp only[Ty.szs,Nat.add_zero] at hl
  rw[List.drop_of_length_le (by omega)]
  exact ⟨[],rfl,xL.nil⟩
 | g::fs,τs,off,xs,h,hx,hl,hf=>by
  simp only[ll] at h
  split at h
  ·rename_i τ hτ
   split at h
   ·rename_i hc
    cases hr:ll P f (off+τ.sz) fs with
    | none=>simp[hr] at h
    | some τr =>
     simp only[hr,Option.map_some,Option.some.injEq] at h
     subst h
     cases xs with
     | nil=>simp at hx
     | cons x xs =>
      simp only[Ty.szs] at hl
      obtain ⟨h1,h2⟩:=hf 0 g x rfl rfl
      obtain ⟨ys,hy1,hy2⟩:=h2 τ hτ
      obtain ⟨zs,hz1,hz2⟩:=YB (ps:=ps) (n:=n) hr (by simpa using hx) (by omega) (fun i g' x' hg hx'=>hf (i+1) g' x' (by simpa using hg) (by simpa using hx'))
      refine ⟨ys++zs,⟨ys,zs,rfl,hy1,hz1⟩,?_⟩
      have:=(hy2.mono h1).append hz2
      rw[hc.1,hc.2,← List.drop_drop] at this
      rwa [List.take_append_drop] at this
   ·cases h
  ·cases h
theorem aG {held:Bool}:∀ (n m:Nat) (t:TypeId) (τ:Ty) (cs:List Value) (d:DataW H) (ps:List MemPlace),fK P m t=some τ →
  DataW.trod enc P w 0 (fun _=>true) held n t cs=some (d,ps)→lP P t d→∃ xs,TyC τ xs∧xL w ps xs cs
 | 0,_,_,_,_,_,_,_,h,_=>by simp[DataW.trod] at h
 | n+1,0,_,_,_,_,_,h,_,_=>by cases h
 | n+1,m+1,t,τ,cs,d,ps,hτ,h,hw=>by
  simp only[fK] at hτ
  split at hτ<;>rename_i hu
  ·cases hτ
   obtain ⟨b,rfl,hx⟩:=DataW.trod_bool hu h
   exact ⟨[.val (.bool b)],⟨b,rfl⟩,xL.one (.val _) rfl⟩
  ·cases hτ
   obtain ⟨k,rfl,hx,hwf⟩:=DataW.trod_int hu h
   exact ⟨[.val (.int _ k)],⟨k,rfl,hwf⟩,xL.one (.val _) rfl⟩
  ·cases hτ
   obtain ⟨s,rfl,hx,_⟩:=DataW.trod_string hu h
   simp only[Prod.mk.injEq] at hx
   obtain ⟨rfl,rfl⟩:=hx
   refine ⟨[.val (.string s)],⟨s,rfl,?_⟩,xL.one (.val _) rfl⟩
   simp[lP,DataW.weights] at hw
   exact hw
  ·rename_i e
   split at hτ
   ·rename_i σ hσ
    split at hτ
    ·rename_i hc
     cases hτ
     rcases DataW.trod_slice hu h with ⟨rfl,hx⟩ | ⟨a,len,cap,elems,rest,n',hn,rfl,hx,_,hlc,hcm,hlen,hel,_,_⟩
     ·exact ⟨[.list σ.sz .plain []],⟨[],rfl,by simp,by simp⟩,xL.one (.listNil _ _ _ _ (fun h=>by cases h) (fun _ h=>by cases h)) rfl⟩
     ·cases hn
      simp only[Prod.mk.injEq] at hx
      obtain ⟨rfl,rfl⟩:=hx
      simp only[lP,DataW.weights,hu,List.all_cons,List.all_append,Bool.and_eq_true,decide_eq_true_eq] at hw
      obtain ⟨hw1,hw2,_⟩:=hw
      have hsz:=Yq hw2
      obtain ⟨rows,hr1,hr2⟩:=dz (l:=elems) (Q:=fun i y r=>TyC σ r∧∃ c,w.cells? 0 (a.add (i*P.cellsOf e)) (P.cellsOf e)=some c∧xL w y.2 r c) 0 (fun i y hy=>by
       have hi:i<len:=by have:=(List.getElem?_eq_some_iff.1 hy).1; omega
       have:=hel i hi
       rw[hy,Option.bind_eq_some_iff] at this
       obtain ⟨c,hc1,hc2⟩:=this
       obtain ⟨xs,hx1,hx2⟩:=aG n m e σ c y.1 y.2 hσ hc2 (hsz y.1 (List.mem_map.2 ⟨y,List.mem_of_getElem? hy,rfl⟩))
       exact ⟨xs,hx1,c,by rw[Nat.zero_add]; exact hc1,hx2⟩)
      simp only[Nat.zero_add] at hr2
      have hlr:rows.length=len:=by omega
      refine ⟨[.list σ.sz .plain rows],⟨rows,rfl,?_,fun r hr=>?_⟩,xL.one ?_ rfl⟩
      ·have h1:(elems.length+rest.length)*P.bytesOf e≤reachBytes:=by simpa using hw1
       have h2:elems.length+rest.length≤(elems.length+rest.length)*P.bytesOf e:=Nat.le_mul_of_pos_right _ hc.2.2
       omega
      ·obtain ⟨i,hi⟩:=List.mem_iff_getElem?.1 hr
       have hil:i<elems.length:=by have:=(List.getElem?_eq_some_iff.1 hi).1; omega
       exact (hr2 i elems[i] r (by simp[hil]) hi).1
      ·by_cases h0:len=0
       ·have:rows=[]:=List.eq_nil_of_length_eq_zero (by omega)
        subst this
        subst h0
        exact .listNil _ _ _ _ (fun h=>by cases h) (fun _ h=>by cases h)
       ·have get:∀ (i:Nat) (r:List AV),rows[i]?=some r→∃ y c,elems[i]?=some y∧TyC σ r∧w.cells? 0 (a.add (i*P.cellsOf e)) (P.cellsOf e)=some c∧xL w y.2 r c:=fun i r hi=>by
         have hil:i<elems.length:=by have:=(List.getElem?_eq_some_iff.1 hi).1; omega
         obtain ⟨g1,c,g2,g3⟩:=hr2 i elems[i] r (by simp[hil]) hi
         exact ⟨elems[i],c,by simp[hil],g1,g2,g3⟩
        obtain ⟨b,o,spot⟩:=a
        have hspot:spot=none:=by
         obtain ⟨y,c,g1,g2,g3,g4⟩:=get 0 rows[0] (List.getElem?_eq_getElem (by omega))
         have g5:=(Ur g3).2 0 (by omega)
         have g6:=(Ur g3).1
         rw[List.getElem?_eq_getElem (by omega)] at g5
         simpa [Addr.add] using World.cell?_spot g5
        subst hspot
        have hget:∀ (i:Nat) (r:List AV) (j:Nat) (x:AV),rows[i]?=some r→r[j]?=some x→∃ y v,elems[i]?=some y∧i<len∧j<σ.sz∧w.cell? ⟨b,o+i*σ.sz+j,none⟩=some v∧R0 (PI y.2) w x v∧single v=true:=fun i r j x hi hj=>by
         obtain ⟨y,c,g1,g2,g3,g4⟩:=get i r hi
         obtain ⟨g5,g6⟩:=Ur g3
         have hjl:j<σ.sz:=by have:=(List.getElem?_eq_some_iff.1 hj).1; have:=YT g2; omega
         have g7:=g6 j (by omega)
         have hjc:j<c.length:=by omega
         rw[List.getElem?_eq_getElem hjc] at g7
         obtain ⟨k1,k2⟩:=g4.2 j x hj
         have:c.getD j undef=c[j]:=by simp[hjc]
         rw[this] at k1 k2
         refine ⟨y,c[j],g1,?_,hjl,?_,k1,k2⟩
         ·have:=(List.getElem?_eq_some_iff.1 hi).1; omega
         ·rw[← g7,hc.2.1,addr_add,addr_add]
        rw[← hlr]
        refine .list _ _ _ _ _ _ (fun i j=>((w.cell? ⟨b,o+i*σ.sz+j,none⟩).getD undef)) (by omega) (fun h=>by cases h) (fun _ h=>by cases h) (fun i r hi=>?_) (fun i r j x hi hj=>?_) (fun i r j x hi hj=>?_)
        ·obtain ⟨_,_,_,g2,_⟩:=get i r hi
         exact YT g2
        ·obtain ⟨y,v,g1,gi,gj,g2,g3,g4⟩:=hget i r j x hi hj
         rw[g2]
         refine ⟨?_,rfl,g4⟩
         refine List.mem_append_left _ (MemPlace.mem_row.2 ⟨i*σ.sz+j,?_,?_⟩)
         ·rw[hc.2.1]
          have h1:i+1≤elems.length+rest.length:=by omega
          have h2:=Nat.mul_le_mul_right σ.sz h1
          rw[Nat.succ_mul] at h2
          omega
         ·simp only[MemPlace.cell.injEq,true_and]; omega
        ·obtain ⟨y,v,g1,gi,gj,g2,g3,g4⟩:=hget i r j x hi hj
         rw[g2]
         refine g3.mono (fun b' o' hp=>?_) (fun _ _ _ _ h=>h)
         exact List.mem_append_right _ (List.mem_flatMap.2 ⟨y,List.mem_append_left _ (List.mem_of_getElem? g1),hp⟩)
    ·cases hτ
   ·cases hτ
  ·rename_i k e
   split at hτ
   ·rename_i σ hσ
    split at hτ
    ·rename_i hc
     cases hτ
     obtain ⟨xs,n',hn,hx,hcl,hxl,hel⟩:=DataW.trod_array hu h
     cases hn
     simp only[Prod.mk.injEq] at hx
     obtain ⟨rfl,rfl⟩:=hx
     simp only[lP,DataW.weights,hu] at hw
     have hsz:=Yq hw
     obtain ⟨rows,hr1,hr2⟩:=dz (l:=xs) (Q:=fun i y r=>TyC σ r∧xL w y.2 r ((cs.drop (i*P.cellsOf e)).take (P.cellsOf e))) 0 (fun i y hy=>by
      have hi:i<k:=by have:=(List.getElem?_eq_some_iff.1 hy).1; omega
      have:=hel i hi
      rw[hy] at this
      rw[Nat.zero_add]
      exact aG n m e σ _ y.1 y.2 hσ this (hsz y.1 (List.mem_map.2 ⟨y,List.mem_of_getElem? hy,rfl⟩)))
     simp only[Nat.zero_add] at hr2
     refine ⟨rows.flatten,⟨rows,rfl,by omega,fun r hr=>?_⟩,?_⟩
     ·obtain ⟨i,hi⟩:=List.mem_iff_getElem?.1 hr
      have hil:i<xs.length:=by have:=(List.getElem?_eq_some_iff.1 hi).1; omega
      exact (hr2 i xs[i] r (by simp[hil]) hi).1
     ·refine SW (n:=σ.sz) (by rw[hcl,hc.2,hr1,hxl]) (fun i r hi=>?_)
      have hil:i<xs.length:=by have:=(List.getElem?_eq_some_iff.1 hi).1; omega
      have:=(hr2 i xs[i] r (by simp[hil]) hi).2
      rw[hc.1] at this
      exact this.mono (fun p hp=>List.mem_flatMap.2 ⟨xs[i],List.getElem_mem _,hp⟩)
    ·cases hτ
   ·cases hτ
  ·rename_i fs
   split at hτ
   ·rename_i τs hσ
    split at hτ
    ·rename_i hc
     cases hτ
     obtain ⟨xs,n',hn,hx,hcl,hxl,hel⟩:=DataW.trod_struct hu h
     cases hn
     simp only[Prod.mk.injEq] at hx
     obtain ⟨rfl,rfl⟩:=hx
     simp only[lP,DataW.weights,hu] at hw
     have:=YB (P:=P) (w:=w) (ps:=xs.flatMap (·.2)) (n:=n) (cs:=cs) hσ (by simpa using hxl) (by rw[hcl,hc]; omega) (fun i g x hg hx=>by
      have hg':fs[i]?=some g:=by simpa using hg
      have h1:=hel i g hg'
      rw[hx] at h1
      refine ⟨fun p hp=>List.mem_flatMap.2 ⟨x,List.mem_of_getElem? hx,hp⟩,fun τ hτ=>?_⟩
      exact aG n m g.type τ _ x.1 x.2 hτ h1 (az hw i g.type x.1 (by simp[hg']) (by simp[hx])))
     obtain ⟨ys,h1,h2⟩:=this
     exact ⟨ys,h1,by simpa using h2⟩
    ·cases hτ
   ·cases hτ
  ·cases hτ
end
def jh:Ty→AV→Prop
 | .arr n e,x=>∃ cs,x=.agg cs∧TyC (.arr n e) cs
 | .st fs,x=>∃ cs,x=.agg cs∧TyC (.st fs) cs
 | τ,x=>TyC τ [x]
def fX:List Ty→List AV→Prop
 | [],[]=>True
 | τ::τs,x::xs=>jh τ x∧fX τs xs
 | _,_=>False
section
variable {H:Type} {enc:TypeId × Value→H} {P:Program} {W:World}
theorem Q7 {ps:List MemPlace} {xs:List AV} {cs:Array Value} (h:xL W ps xs cs.toList):R0 (PI ps) W (.agg xs) (.agg cs):=by
 obtain ⟨h1,h2⟩:=h
 simp only[Array.length_toList] at h1
 have hg:∀ i,cs.toList.getD i undef=cs.getD i undef:=fun i=>by simp[List.getD,Array.getD_eq_getD_getElem?]
 refine .agg _ _ h1.symm ?_ (fun i x hx=>?_)
 ·rw[Array.all_eq_true]
  intro i hi
  obtain ⟨_,h4⟩:=h2 i xs[i] (by simp[h1,hi])
  rw[hg] at h4
  simpa [hi] using h4
 ·obtain ⟨h3,_⟩:=h2 i x hx
  rw[hg] at h3
  exact h3
theorem El {m:Nat} {t:TypeId} {τ:Ty} {v:Value} {d:DataW H} {ps:List MemPlace} {r:Reach} {base:Nat} (hτ:fK P m t=some τ) (hok:Value.okWide P W r base t v)
  (h:DataW.Trod enc P W 0 (fun _=>true) true t v d ps) (hw:lP P t d):∃ x,jh τ x∧R0 (PI ps) W x v:=by
 obtain ⟨n,hn⟩:=h
 obtain ⟨xs,h1,h2⟩:=aG n m t τ _ d ps hτ hn hw
 have one:v.cells=#[v]→(∃ x,xs=[x])→∃ x,TyC τ [x]∧R0 (PI ps) W x v:=by
  rintro hv ⟨x,rfl⟩
  obtain ⟨h3,_⟩:=h2.2 0 x rfl
  rw[hv] at h3
  exact ⟨x,h1,h3⟩
 cases m with
 | zero=>cases hτ
 | succ m =>
  simp only[fK] at hτ
  split at hτ<;>rename_i hu
  ·cases hτ
   obtain ⟨b,rfl⟩:=h1
   refine one ?_ ⟨_,rfl⟩
   simp only[Value.okWide,hu,Cell.okWide,Cell.ok] at hok
   cases v<;>first | rfl | exact hok.elim
  ·cases hτ
   obtain ⟨b,rfl,hb⟩:=h1
   have:=one ?_ ⟨_,rfl⟩
   ·exact this
   simp only[Value.okWide,hu,Cell.okWide,Cell.ok] at hok
   cases v<;>first | rfl | exact hok.elim
  ·cases hτ
   obtain ⟨b,rfl,hb⟩:=h1
   have:=one ?_ ⟨_,rfl⟩
   ·exact this
   simp only[Value.okWide,hu,Cell.okWide,Cell.ok] at hok
   cases v<;>first | rfl | exact hok.elim
  ·split at hτ
   ·split at hτ
    ·cases hτ
     obtain ⟨rows,rfl,hb⟩:=h1
     have:=one ?_ ⟨_,rfl⟩
     ·exact this
     simp only[Value.okWide,hu,Cell.okWide,Cell.ok] at hok
     cases v<;>first | rfl | exact hok.elim
    ·cases hτ
   ·cases hτ
  ·split at hτ
   ·split at hτ
    ·cases hτ
     simp only[Value.okWide,hu] at hok
     obtain ⟨cs,rfl,_⟩:=hok
     exact ⟨.agg xs,⟨xs,rfl,h1⟩,Q7 h2⟩
    ·cases hτ
   ·cases hτ
  ·split at hτ
   ·split at hτ
    ·cases hτ
     simp only[Value.okWide,hu] at hok
     obtain ⟨cs,rfl,_⟩:=hok
     exact ⟨.agg xs,⟨xs,rfl,h1⟩,Q7 h2⟩
    ·cases hτ
   ·cases hτ
  ·cases hτ
theorem Tq {m:Nat} {r:Reach} {base:Nat}:∀ {ts:List TypeId} {τs:List Ty} {vs:List Value} {ds:List (DataW H)} {ps:List MemPlace},yv (fK P m) ts=some τs →
  (∀ (j:Nat) t v,ts[j]?=some t→vs[j]?=some v→Value.okWide P W r base t v)→DataW.TrodAll enc P W 0 (fun _=>true) true ts vs ds ps →
  (∀ (j:Nat) t d,ts[j]?=some t→ds[j]?=some d→lP P t d) →
  ∃ xs,fX τs xs∧xs.length=vs.length∧ds.length=ts.length∧∀ (i:Nat) x,xs[i]?=some x→R0 (PI ps) W x (vs.getD i undef)
 | [],τs,vs,ds,ps,h,_,hA,_=>by
  simp only[yv,Option.some.injEq] at h
  subst h
  match vs,ds,hA with
  | [],[],_=>exact ⟨[],trivial,rfl,rfl,fun i x hx=>by simp at hx⟩
 | t::ts,τs,vs,ds,ps,h,hv,hA,hs=>by
  simp only[yv] at h
  split at h
  ·rename_i τ hτ
   cases hr:yv (fK P m) ts with
   | none=>simp[hr] at h
   | some σs =>
    simp only[hr,Option.map_some,Option.some.injEq] at h
    subst h
    match vs,ds,hA with
    | v::vs,d::ds,⟨p,q,h1,h2,e⟩ =>
     obtain ⟨x,a1,a2⟩:=El hτ (hv 0 t v rfl rfl) h1 (hs 0 t d rfl rfl)
     obtain ⟨xs,b1,b2,b3,b4⟩:=Tq hr (fun j t' v' ht hv'=>hv (j+1) t' v' (by simpa using ht) (by simpa using hv')) h2 (fun j t' d' ht hd=>hs (j+1) t' d' (by simpa using ht) (by simpa using hd))
     subst e
     refine ⟨x::xs,⟨a1,b1⟩,by simp[b2],by simp[b3],fun i y hy=>?_⟩
     cases i with
     | zero =>
      simp at hy
      subst hy
      simp only[List.getD_cons_zero]
      exact a2.mono (fun _ _ hp=>List.mem_append_left _ hp) (fun _ _ _ _ h=>h)
     | succ i =>
      simp at hy
      simp only[List.getD_cons_succ]
      exact (b4 i y hy).mono (fun _ _ hp=>List.mem_append_right _ hp) (fun _ _ _ _ h=>h)
  ·cases h
theorem Zl {W':World} (hl:laidOutB P=true) (hb:Below W.heap.size W W'):∀ {ts:List TypeId} {vs:List Value} {ds:List (DataW H)} {ps:List MemPlace},
  (∀ t∈ts,P.readableRec t=true∧t<P.types.size)→DataW.TrodAll enc P W 0 (fun _=>true) true ts vs ds ps→(∀ x∈ps,x.block<W.heap.size) →
  DataW.TrodAll enc P W' 0 (fun b=>decide (b<W.heap.size)) true ts vs ds ps
 | [],[],[],_,_,h,_=>h
 | t::ts,v::vs,d::ds,_,ht,⟨p,q,h1,h2,e⟩,hlt=>by
  subst e
  exact ⟨p,q,Below.trod hl (ht t (by simp)).1 (ht t (by simp)).2 h1 hb (fun x hx=>hlt x (List.mem_append_left _ hx)),
   Zl hl hb (fun t h=>ht t (by simp[h])) h2 (fun x hx=>hlt x (List.mem_append_right _ hx)),rfl⟩
theorem Dn {f:FuncId} {fn:Func} {s:ChangeSpec} {tb:TypeId} {τs:List Ty} (hl:laidOutB P=true) (hty:yv (fK P 20) fn.params.toList=some τs)
  (hread:(fn.params.toList.all fun t=>P.readableRec t&&decide (t<P.types.size))=true) (hres:fn.resultTypes=#[tb]) (hub:P.underlying tb=some .bool) (hvars:s.vars=[])
  (hfn:∀ ds:List (DataW H),ds.length=fn.params.toList.length→(s.fn H (ds++[])).results=[.lit (.bool true)]∧(s.fn H (ds++[])).args=ds∧(s.fn H (ds++[])).vars=[])
  (hcall:∀ xs,fX τs xs→zd P f xs (bv true)) {base:Nat} {args:Array Value} {ds gs:List (DataW H)} {before:List MemPlace}
  (hval:∀ (j:Nat) t v,fn.params[j]?=some t→args[j]?=some v→Value.okWide P W .any base t v)
  (hW:DataW.Whole enc P fn.params.toList s.vars false W args.toList ds gs before)
  (hsz:(DataW.weightsEach P (fn.params.toList++s.plain.varTypes P) (ds++gs)).all (·≤reachBytes)=true) :
  Calls P f args W fun e W'=>∃ v,e=.returned v∧s.post enc P fn false true false false W args v W':=by
 have hW':=hW
 obtain ⟨p,q,hA,hV,rfl,_,_⟩:=hW
 rw[hvars] at hV
 obtain ⟨rfl,rfl⟩:=trodVars_none hV
 have hsz':∀ (j:Nat) t d,fn.params.toList[j]?=some t→ds[j]?=some d→lP P t d:=fun j t d ht hd=>by
  refine az hsz j t d ?_ ?_
  ·rw[List.getElem?_append_left (List.getElem?_eq_some_iff.1 ht).1]; exact ht
  ·rw[List.getElem?_append_left (List.getElem?_eq_some_iff.1 hd).1]; exact hd
 obtain ⟨xs,h1,h2,h3,h4⟩:=Tq (r:=.any) (base:=base) hty (fun j t v ht hv=>hval j t v (by simpa using ht) (by simpa using hv)) hA hsz'
 have hlt:∀ x∈p,x.block<W.heap.size:=fun x hx=>by simpa using hW'.lt x (List.mem_append_left _ hx)
 refine (hcall xs h1 (PI p) args W (fun b o hb=>hlt _ hb) (by simp[h2]) (fun i x hx=>?_)).mono fun e W' ⟨v,he,hb,hR⟩=>?_
 ·have:=h4 i x hx
  have e:args.toList.getD i undef=args.getD i undef:=by simp[List.getD,Array.getD_eq_getD_getElem?]
  rwa [e] at this
 ·have hv:v=.bool true:=R0.val_eq hR
  subst hv
  obtain ⟨f1,f2,f3⟩:=hfn ds h3
  have hread':∀ t∈fn.params.toList,P.readableRec t=true∧t<P.types.size:=fun t ht=>by
   have:=List.all_eq_true.1 hread t ht
   simpa using this
  refine ⟨_,he,ds,[],p++[],[]++[],p,[],hW',?_,?_,?_,hb.frame _,fun h=>by cases h⟩
  ·rw[f1,hres]
   exact trodAll_mk1 (shut_bool hub _)
  ·rw[f2]; exact Zl hl hb hread' hA hlt
  ·rw[f3,hvars]; rfl
end
theorem lL {α:Type} {τ:Ty} (f:α→List AV) (Q:α→Prop) (one:∀ r,TyC τ r→∃ x,r=f x∧Q x):∀ {rows:List (List AV)},(∀ r∈rows,TyC τ r)→∃ a:List α,rows=a.map f∧∀ x∈a,Q x
 | [],_=>⟨[],rfl,by simp⟩
 | r::rows,h=>by
  obtain ⟨a,rfl,h2⟩:=lL f Q one (rows:=rows) (fun r hr=>h r (by simp[hr]))
  obtain ⟨x,rfl,h3⟩:=one r (h r (by simp))
  exact ⟨x::a,rfl,by simpa using ⟨h3,h2⟩⟩
theorem Qk {a b:Ty} {xs:List AV} (h:fX [a,b] xs):∃ x y,xs=[x,y]∧jh a x∧jh b y:=by
 match xs,h with
 | [x,y],h=>exact ⟨x,y,rfl,h.1,h.2.1⟩
theorem alK {a b c d:Ty} {xs:List AV} (h:fX [a,b,c,d] xs):∃ x y z u,xs=[x,y,z,u]∧jh a x∧jh b y∧jh c z∧jh d u:=by
 match xs,h with
 | [x,y,z,u],h=>exact ⟨x,y,z,u,rfl,h.1,h.2.1,h.2.2.1,h.2.2.2.1⟩
theorem AV.imp_nil {sz sz':Nat} {m':Mode} (hm:m'=.plain):AV.imp (.list sz .full []) (.list sz' m' []):=fun I w v h=>by
 subst hm
 cases h with
 | listNil _ _ a cap hm ho=>exact .listNil _ _ _ _ (by simp) (by simp)
 | list _ _ _ b o cap g h1 h2 h3 h4 h5 h6 =>
  exact .listNil _ _ _ _ (by simp) (by simp)
theorem AV.imp_tuple2 {x x' y:AV} (h:AV.imp x x'):AV.imp (.tuple [x,y]) (.tuple [x',y]):=fun I w v hv=>by
 cases hv with
 | tuple cells vs hs hc =>
  refine .tuple _ _ (by simpa using hs) fun i c hi=>?_
  match i,hi with
  | 0,hi=>simp at hi; subst hi; exact h _ _ _ (hc 0 x rfl)
  | 1,hi=>simp at hi; subst hi; exact hc 1 y rfl
  | i+2,hi=>simp at hi
attribute [simp] K8
@[simp] theorem ahB {σ:Nat→Option ze} {s:St}:jf σ [] s=true:=rfl
@[simp] theorem afe {sz by_ d n sz':Nat} {m:Mode} {rows:List (List AV)} {s:St} {K:St→Prop} :
  xl sz by_ s (some d) K [.list n .full [],.list sz' m rows]=((rows=[]∨sz'=sz)∧0<sz∧rows.length*by_≤140737488355328∧rows.length≤9223372036854775807∧lk s.sto (s.base+d)=none ∧
   K (((s.dg (s.base+d)).put (some d) (.us (s.base+d) sz 0 rows.length)).new (some d) (some (.uarr sz (zR (s.base+d) rows))))):=by
 simp[xl,xj,yZ]
@[simp] theorem aeR {sz by_ d l sz1 off len sz':Nat} {m:Mode} {rows1 rows:List (List AV)} {s:St} {K:St→Prop} (h:lk s.sto l=some (.uarr sz rows1)) :
  xl sz by_ s (some d) K [.us l sz1 off len,.list sz' m rows]=((rows=[]∨sz'=sz)∧0<sz∧(len+rows.length)*by_≤140737488355328∧len+rows.length≤9223372036854775807∧sz1=sz∧off=0∧len=rows1.length ∧
   K ({(s.dg l) with sto:=pt (s.dg l).sto l (.uarr sz (zR l (rows1++rows)))}.put (some d) (.us l sz 0 (len+rows.length)))):=by
 simp[xl,xj,yZ,h]
@[simp] theorem aiD {s:St} {d:Nat} {e:ze}:s.new (some d) (some e)=⟨s.env,pt s.sto (s.base+d) e,s.out,s.base⟩:=rfl
attribute [simp] lI tup
def U1 (ras:List zu) (b:Nat) (K:AV→St→Prop):Exit→St→Prop:=fun e s'=>(e=.normal∨e=.ret)∧∃ xs e0 o0,yv (lI s') ras=some xs∧s'.out=e0::o0∧K (tup xs) {env:=e0,sto:=s'.sto,out:=o0,base:=b}
@[simp] theorem aiL {ras:List zu} {b:Nat} {K:AV→St→Prop} {env e0:List (Nat × AV)} {sto:List (Nat × ze)} {o0:List (List (Nat × AV))} {B:Nat} :
  U1 ras b K .ret ⟨env,sto,e0::o0,B⟩=∃ xs,yv (lI ⟨env,sto,e0::o0,B⟩) ras=some xs∧K (tup xs) ⟨e0,sto,o0,b⟩:=by
 simp only[U1,eq_iff_iff]
 constructor
 ·rintro ⟨_,xs,e1,o1,h1,h2,h3⟩
  cases h2
  exact ⟨xs,h1,h3⟩
 ·rintro ⟨xs,h1,h2⟩
  exact ⟨.inr trivial,xs,_,_,h1,rfl,h2⟩
@[simp] theorem agA {ras:List zu} {b:Nat} {K:AV→St→Prop} {env e0:List (Nat × AV)} {sto:List (Nat × ze)} {o0:List (List (Nat × AV))} {B:Nat} :
  U1 ras b K .normal ⟨env,sto,e0::o0,B⟩=∃ xs,yv (lI ⟨env,sto,e0::o0,B⟩) ras=some xs∧K (tup xs) ⟨e0,sto,o0,b⟩:=by
 simp only[U1,eq_iff_iff]
 constructor
 ·rintro ⟨_,xs,e1,o1,h1,h2,h3⟩
  cases h2
  exact ⟨xs,h1,h3⟩
 ·rintro ⟨xs,h1,h2⟩
  exact ⟨.inl trivial,xs,_,_,h1,rfl,h2⟩
theorem va {P:Program} {f:FuncId} {ac:zc} {ras:List zu} {N:Nat} {args:List AV} {s:St} {K:AV→St→Prop} (B:Nat) (ht:zj P f=some (bare ac,ras,N)) (hn:args.length≤N)
  (h:awp P ac ⟨ve 0 args,s.sto,s.env::s.out,B⟩ (U1 ras s.base K)):z5 P f args s K:=age B ht hn h
@[simp] theorem Nx {sz by_ d sz1 sz':Nat} {m:Mode} {rows1 rows:List (List AV)} {s:St} {K:St→Prop} :
  yM sz by_ s (some d) K [.list sz1 .full rows1,.list sz' m rows]=((rows=[]∨sz'=sz)∧0<sz∧(rows1.length+rows.length)*by_≤140737488355328∧rows1.length+rows.length≤9223372036854775807 ∧
   (rows1=[]∨sz1=sz)∧lk s.sto (s.base+d)=none∧K ((s.dg (s.base+d)).put (some d) (.list sz (.own (s.base+d)) (rows1++rows)))):=by
 simp[yM,yZ]
@[simp] theorem LQ {sz by_ d l sz1 sz':Nat} {m:Mode} {rows1 rows:List (List AV)} {s:St} {K:St→Prop} :
  yM sz by_ s (some d) K [.list sz1 (.own l) rows1,.list sz' m rows]=((rows=[]∨sz'=sz)∧0<sz∧(rows1.length+rows.length)*by_≤140737488355328∧rows1.length+rows.length≤9223372036854775807 ∧
   sz1=sz∧lk s.sto l=none∧K ((s.dg l).put (some d) (.list sz (.own l) (rows1++rows)))):=by
 simp[yM,yZ]
@[simp] theorem TS {l k sz:Nat} {rows:List (List AV)}:dg l (.list sz (.own k) rows)=if k=l then .list sz .plain rows else .list sz (.own k) rows:=rfl
@[simp] theorem akj {l:Nat}:dg l∘iv=iv:=rfl
section
variable {P:Program} {t:TypeId} {ox oy:Operand} {k k':IntKind} {a b:Int} {K:AV→Option ze→Prop}
theorem tf (h:b≠0):yd P .quo t ox oy [.val (.int k a),.val (.int k b)] K=K (.val (.int k (k.wrap (a.tdiv b)))) none:=by
 simp[yd,toV,zr,eqGuard,binOp,Op.intDiv,h,yS,ofV,y9,bind,Sem.bind,pure]
theorem qo (h:b≠0):yd P .rem t ox oy [.val (.int k a),.val (.int k b)] K=K (.val (.int k (a.tmod b))) none:=by
 simp[yd,toV,zr,eqGuard,binOp,Op.intDiv,h,yS,ofV,y9,bind,Sem.bind,pure]
def r4 (op:BinOp) (k:IntKind) (a b:Int):Int :=
 match op with
 | .and=>k.wrap (BitVec.ofInt k.bits a &&& BitVec.ofInt k.bits b).toNat
 | .or=>k.wrap (BitVec.ofInt k.bits a ||| BitVec.ofInt k.bits b).toNat
 | .xor=>k.wrap (BitVec.ofInt k.bits a ^^^ BitVec.ofInt k.bits b).toNat
 | _=>k.wrap (BitVec.ofInt k.bits a &&& ~~~BitVec.ofInt k.bits b).toNat
theorem Aj:yd P .and t ox oy [.val (.int k a),.val (.int k b)] K=K (.val (.int k (r4 .and k a b))) none:=by
 simp[yd,toV,zr,eqGuard,binOp,Op.intBits,r4,yS,ofV,y9,bind,Sem.bind,pure]
theorem acN:yd P .or t ox oy [.val (.int k a),.val (.int k b)] K=K (.val (.int k (r4 .or k a b))) none:=by
 simp[yd,toV,zr,eqGuard,binOp,Op.intBits,r4,yS,ofV,y9,bind,Sem.bind,pure]
theorem At:yd P .xor t ox oy [.val (.int k a),.val (.int k b)] K=K (.val (.int k (r4 .xor k a b))) none:=by
 simp[yd,toV,zr,eqGuard,binOp,Op.intBits,r4,yS,ofV,y9,bind,Sem.bind,pure]
theorem LR:yd P .andNot t ox oy [.val (.int k a),.val (.int k b)] K=K (.val (.int k (r4 .andNot k a b))) none:=by
 simp[yd,toV,zr,eqGuard,binOp,Op.intBits,r4,yS,ofV,y9,bind,Sem.bind,pure]
theorem vP (h:¬ b<0):yd P .shl t ox oy [.val (.int k a),.val (.int k' b)] K=K (.val (.int k (k.wrap (a*2^(min b.toNat k.bits))))) none:=by
 simp[yd,toV,zr,eqGuard,binOp,Op.shift,h,yS,ofV,y9,bind,Sem.bind,pure]
theorem wE (h:¬ b<0):yd P .shr t ox oy [.val (.int k a),.val (.int k' b)] K=K (.val (.int k (a.fdiv (2^(min b.toNat k.bits))))) none:=by
 simp[yd,toV,zr,eqGuard,binOp,Op.shift,h,yS,ofV,y9,bind,Sem.bind,pure]
theorem Jt {x y:ByteArray}:(x.toList == y.toList)=decide (x=y):=by
 have:x.toList=y.toList↔x=y:=by
  constructor
  ·intro h
   have h1:x.data.toList=y.data.toList:=by simpa [ByteArray.toList_eq] using h
   cases x; cases y
   congr 1
   exact Array.ext' h1
  ·rintro rfl; rfl
 by_cases h:x=y
 ·subst h; simp
 ·have:¬ x.toList=y.toList:=fun e=>h (this.1 e)
  simp[h,this]
theorem EW {x y:ByteArray}:yd P .eql t ox oy [.val (.string x),.val (.string y)] K=K (bv (decide (x=y))) none:=by
 simp only[yd,toV,eqGuard,binOp,Op.stringOp,yS,ofV,y9,bind,pure,Jt]
 rfl
theorem EX {x y:ByteArray}:yd P .neq t ox oy [.val (.string x),.val (.string y)] K=K (bv (!decide (x=y))) none:=by
 simp only[yd,toV,eqGuard,binOp,Op.stringOp,yS,ofV,y9,bind,pure,Jt]
 rfl
end
section
variable {P:Program} {s:St} {KS:St→Prop} {os:List zi} {d:Nat} {k k':IntKind}
theorem EK {ta tb:TypeId} {u:TypeDesc} {n:Int} (ha:P.underlying ta=some u) (hb:P.underlying tb=some (.int k')):YZ P ta tb (.val (.int k n))=some (.val (.int k' (k'.wrap n))):=by
 simp only[YZ,convert,zP,yq,ha,hb,Option.bind_some]
 rfl
theorem aeJ {n:Int}:unA P .neg (.val (.int k n))=some (.val (.int k (k.wrap (0-n)))):=rfl
theorem aeK {n:Int}:unA P .xor (.val (.int k n))=some (.val (.int k (r4 .xor k (if k.signed then -1 else k.max) n))):=rfl
def Nc (x:ByteArray) (k:Nat):Nat:=(x.data[k]?.getD 0).toNat
def idxA (P:Program) (t:TypeId) (x:AV) (y:AV):Option AV :=
 match toV x,y with
 | some a,.val i=>(zr P (Instr.index t a i)).map ofV
 | _,_=>none
theorem aaa {t:TypeId} {x y:Opd}:zl P (⟨some d,.idxV t,[x,y],none⟩::os) s KS=nz (idxA P t (ev s x) (ev s y)) P os s d KS:=by
 show zL P (s.base+d) (.idxV t) [ev s x,ev s y] (lk s.sto) (xt P os s (some d) KS)=_
 cases hy:ev s y<;>cases hx:toV (ev s x)<;>simp only[zL,idxA,hx,nz]
 rename_i v a
 cases zr P (Instr.index t a v)<;>rfl
theorem AE {t:TypeId} (ht:P.underlying t=some .string) {xs:ByteArray} {ik:IntKind} {i:Int} (h0:0≤i) (h1:i<xs.size):idxA P t (.val (.string xs)) (.val (.int ik i))=some (.val (.int .u8 (Nc xs i.toNat))):=by
 have h2:i.toNat<xs.size:=by omega
 simp only[idxA,toV,Instr.index,asIntOf,zP,yq,ht,zW,Option.bind_some,if_pos h0]
 rw[getElem?_pos xs i.toNat h2]
 have:Nc xs i.toNat=(xs[i.toNat]'h2).toNat:=by
  unfold Nc
  rw[Array.getElem?_eq_getElem (show i.toNat<xs.data.size from h2)]
  rfl
 rw[this]
 rfl
def Rt (lo hi mx:Bool) (x:AV) (ys:List AV) (k:AV→Option ze→Prop):Prop :=
 match x with
 | .val (.string s)=>wW s.size lo hi mx ys fun l h _=>mx=false∧k (.val (.string (s.extract l h))) none
 | _=>False
theorem Fb {t:TypeId} {lo hi mx:Bool} {x:Opd} {xs:List Opd}:zl P (⟨some d,.sliceV t lo hi mx,x::xs,none⟩::os) s KS=Rt lo hi mx (ev s x) (xs.map (ev s)) (xt P os s (some d) KS):=by
 show zL P (s.base+d) (.sliceV t lo hi mx) (ev s x::xs.map (ev s)) (lk s.sto) (xt P os s (some d) KS)=_
 simp only[zL,Rt]
 cases ev s x<;>try rfl
 rename_i v
 cases v<;>rfl
theorem LS {lo hi mx:Bool} {x:ByteArray} {ys:List AV} {k:AV→Option ze→Prop}:Rt lo hi mx (.val (.string x)) ys k=wW x.size lo hi mx ys fun l h _=>mx=false∧k (.val (.string (x.extract l h))) none:=rfl
theorem DX {xs:List Opd} {x:Opd} {d:Option Nat} {n:String}:zl P (⟨d,.callm n,x::xs,none⟩::os) s KS=(match ev s x with | .iface t r=>(match bW P t n with | some f=>yR P f=true∧we P f (lk s.sto) (r::xs.map (ev s)) (xt P os s d KS) | none=>False) | _=>False):=by
 show zL P (s.base+d.getD 0) (.callm n) (ev s x::xs.map (ev s)) (lk s.sto) (xt P os s d KS)=_
 simp only[zL]
 cases ev s x<;>try rfl
theorem DY {xs:List Opd} {x:Opd} {d:Option Nat}:zl P (⟨d,.callv,x::xs,none⟩::os) s KS=(match ev s x with | .fn (.func f) caps=>yR P f=true∧we P f (lk s.sto) (xs.map (ev s)++caps) (xt P os s d KS) | .fn (.via _ _ f _) rs=>yR P f=true∧we P f (lk s.sto) (rs++xs.map (ev s)) (xt P os s d KS) | _=>False):=by
 show zL P (s.base+d.getD 0) .callv (ev s x::xs.map (ev s)) (lk s.sto) (xt P os s d KS)=_
 simp only[zL]
 cases ev s x<;>try rfl
 rename_i f caps
 cases f<;>rfl
theorem ae3 {n:Nat} {k:Nat→Nat→Bool→Prop}:wW n false false false [] k=k 0 n false:=rfl
theorem ae2 {n:Nat} {ik:IntKind} {l:Int} {k:Nat→Nat→Bool→Prop}:wW n true false false [.val (.int ik l)] k=(0≤l∧l≤n∧k l.toNat n false):=rfl
theorem ae1 {n:Nat} {ik:IntKind} {h:Int} {k:Nat→Nat→Bool→Prop}:wW n false true false [.val (.int ik h)] k=(0≤h∧h≤n∧k 0 h.toNat false):=rfl
theorem acn {n:Nat} {ik jk:IntKind} {l h:Int} {k:Nat→Nat→Bool→Prop}:wW n true true false [.val (.int ik l),.val (.int jk h)] k=(0≤l∧l≤h∧h≤n∧k l.toNat h.toNat false):=rfl
theorem acm {n:Nat} {ik jk:IntKind} {h m:Int} {k:Nat→Nat→Bool→Prop}:wW n false true true [.val (.int ik h),.val (.int jk m)] k=(0≤h∧h=m∧m≤n∧k 0 h.toNat true):=rfl
theorem BR {n:Nat} {ik jk kk:IntKind} {l h m:Int} {k:Nat→Nat→Bool→Prop}:wW n true true true [.val (.int ik l),.val (.int jk h),.val (.int kk m)] k=(0≤l∧l≤h∧h=m∧m≤n∧k l.toNat h.toNat true):=rfl
theorem LU {sz sz':Nat} {lo hi mx:Bool} {m:Mode} {rows:List (List AV)} {xs:List AV} {k:AV→Option ze→Prop} :
  pO sz lo hi mx (.list sz' m rows::xs) k=((rows=[]∨sz'=sz)∧wW rows.length lo hi mx xs fun l h f=>k (.list sz' (if f=true then .full else .plain) ((rows.take h).drop l)) none):=rfl
theorem E0 {j sz sz' off len:Nat} {lo hi mx:Bool} {xs:List AV} {k:AV→Option ze→Prop} :
  pO sz lo hi mx (.sl j sz' off len::xs) k=(sz'=sz∧wW len lo hi mx xs fun l h _=>k (.sl j sz (off+l) (h-l)) none):=rfl
theorem E1 {j sz sz' off len:Nat} {lo hi mx:Bool} {xs:List AV} {k:AV→Option ze→Prop} :
  pO sz lo hi mx (.us j sz' off len::xs) k=(sz'=sz∧wW len lo hi mx xs fun l h _=>k (.us j sz (off+l) (h-l)) none):=rfl
end
theorem G0 {α:Type} {l:List (Nat × α)} {n:Nat} {x:α}:lk (pt l n x) n=some x:=by rw[wg,if_pos rfl]
theorem Fe {α:Type} {l:List (Nat × α)} {n:Nat} {x y:α}:pt (pt l n x) n y=pt l n y:=by
 induction l with
 | nil=>simp[pt]
 | cons p l ih =>
  obtain ⟨q,z⟩:=p
  by_cases h:q=n
  ·subst h; simp[pt]
  ·simp[pt,h,ih]
section
variable {k:Nat} {e:ze}
theorem De:frz k e .undef=.undef:=rfl
theorem acU {v:Value}:frz k e (.val v)=.val v:=rfl
theorem acT {c:List AV}:frz k e (.agg c)=.agg c:=rfl
theorem afp {c:List AV}:frz k e (.ro c)=.ro c:=rfl
theorem Dc {t:TypeId} {x:AV}:frz k e (.iface t x)=.iface t x:=rfl
theorem afo {f:Fn} {c:List AV}:frz k e (.fn f c)=.fn f c:=rfl
theorem Dd {c:List AV}:frz k e (.tuple c)=.tuple c:=rfl
theorem Uz {sz:Nat} {m:Mode} {r:List (List AV)} (h:stm m=m):frz k e (.list sz m r)=.list sz m r:=by
 cases m with
 | plain=>rfl
 | full=>rfl
 | own l=>cases h
theorem t5 {sz:Nat} {r:List (List AV)}:frz k e (.list sz .plain r)=.list sz .plain r:=rfl
theorem AA {sz:Nat} {r:List (List AV)}:frz k e (.list sz .full r)=.list sz .full r:=rfl
theorem ln {j off:Nat}:frz k e (.ptr j off)=if j=k then (match e with
   | .var cells=>if (cells.drop off).all rf=true then .ro ((cells.drop off).map strip) else .undef
   | _=>.undef) else .ptr j off:=rfl
theorem Az {j sz i off:Nat}:frz k e (.eptr j sz i off)=if j=k then .undef else .eptr j sz i off:=rfl
theorem afr {j sz i off:Nat}:frz k e (.up j sz i off)=if j=k then .undef else .up j sz i off:=rfl
theorem afq {j sz off len:Nat}:frz k e (.sl j sz off len)=if j=k then (match e with
   | .arr sz' rows=>if sz'=sz∧off+len≤rows.length then .list sz .plain ((rows.drop off).take len) else .undef
   | _=>.undef) else .sl j sz off len:=rfl
theorem kT {j sz off len:Nat}:frz k e (.us j sz off len)=if j=k then (match e with
   | .uarr sz' rows=>if sz'=sz∧off+len≤rows.length∧yn ((rows.drop off).take len)=true then .list sz .plain (zN ((rows.drop off).take len)) else .undef
   | _=>.undef) else .us j sz off len:=rfl
theorem NQ {x:Nat} {ks:List Nat} {s:St} {K:St→Prop}:re (x::ks) s K=xA (s.base+x) s (fun s'=>re ks s' K):=rfl
end
attribute [simp] G0 Fe
attribute [simp] De acU acT afp Dc afo Dd t5 AA ln Az afr afq kT NQ
attribute [simp high] Ua JY aH Q4
attribute [simp] Aj acN At LR EW EX EK aeJ aeK aaa AE Fb LS DY DX ae3 ae2 ae1 acn acm BR LU E0 E1
section
variable {P:Program} {t:Nat} {ox oy:Operand} {a b:List AV} {K:AV→Option ze→Prop}
theorem NB {ks:List Kd} {xs ys:List Value} (hk:kds P Op.maxDepth t=some ks) (hg:P.eqGuardType P.depth t=false) (hA:agT P t=true)
  (ha:sM a=some xs) (hb:sM b=some ys) (fx:uF ks xs=true) (fy:uF ks ys=true):yd P .eql t ox oy [.agg a,.agg b] K=K (bv (eqL xs ys)) none:=by
 have e:=qw Op.maxDepth t _ xs ys hk fx fy
 simp only[valOf,hA,if_true] at e
 have e2:zr P (Op.equal t (.agg xs.toArray) (.agg ys.toArray))=some (eqL xs ys):=e
 have e1:binOp .eql t (.agg xs.toArray) (.agg ys.toArray)=(do pure (.bool (← Op.equal t (.agg xs.toArray) (.agg ys.toArray)))):=rfl
 simp only[yd,toV,ha,hb,Option.map_some,zP,TV hg,e1,e2,Option.bind_some,zW,yS,ofV,y9]
end
end Go.Am
