/- What the proof rests on, part 5: Am22 Am23 Am24 Am25 Am26 Am27 Am28 Am39 Am40. -/
import Derived.Test.YtbgnkodhpbkdoaaP4
import Derived.Scope
import Derived.ScopeJumps
import Derived.Deep.LoopGhost
import Derived.OpenShut
import Derived.SizedLaws
import Derived.Carry
import Derived.ProofKit
set_option maxRecDepth 100000
set_option maxHeartbeats 4000000
namespace Go.Am
open Go.RowKit
section
variable {P:Program} {F:z9}
def cc (c:Code):Exit→Bool
 | .normal=>true
 | .exit _=>true
 | .ret=>true
 | .goto _=>ul c
 | _=>false
theorem RG {p:Nat→Prop}:∀ n,p n→∃ m,p m∧∀ k,p k→m≤k:=by
 intro n
 induction n using Nat.strongRecOn with
 | ind n ih =>
  intro hn
  by_cases h:∃ m,m<n∧p m
  ·obtain ⟨m,hm,hp⟩:=h; exact ih m hm hp
  ·exact ⟨n,hn,fun k hk=>Nat.le_of_not_lt fun hlt=>h ⟨k,hlt,hk⟩⟩
open Classical in
noncomputable def YM (J:Nat→Act→World→Prop) (a:Act) (w:World):Nat:=if h:∃ n,J n a w then Classical.choose (RG (p:=fun n=>J n a w) h.choose h.choose_spec) else 0
theorem aI {J:Nat→Act→World→Prop} {a:Act} {w:World} (h:∃ n,J n a w):J (YM J a w) a w∧∀ k,J k a w→YM J a w≤k:=by
 unfold YM
 rw[dif_pos h]
 exact Classical.choose_spec (RG (p:=fun n=>J n a w) h.choose h.choose_spec)
theorem al {ac:ze} {draw:Bool} {l:List zi} (h:ze.region draw [] l [] []=bare ac):∃ FK D DK l',ac=.region draw FK l' D DK∧l=l'.map (yl draw):=by
 cases ac<;>simp only[bare,reduceCtorEq,ze.region.injEq] at h
 obtain ⟨rfl,_,rfl,_,_⟩:=h
 exact ⟨_,_,_,_,rfl,rfl⟩
def lm (P:Program) (F:z9) (c:Code):Prop:=∀ (ac:ze),ym P F.N c=some (bare ac)→∀ {s:St} {a:Act} {w:World} {K:Exit→St→Prop} {Q:Exit→Act→World→Prop},Holds F s a w→awp P ac s K →
  (∀ e s' a' w',cc c e=true→K e s'→Holds F s' a' w'→Q e a' w')→c.wp P Q a w
theorem Pg:∀ (c:Code),lm P F c∧∀ l r,c=.seq (.label l) r→lm P F (.seq .skip r)∧lm P F r:=by
 intro c
 induction c with
 | skip =>
  refine ⟨?_,fun l r e=>by cases e⟩
  intro ac htr s a w K Q hH h hk
  simp only[ym,Option.some.injEq] at htr
  cases ac<;>simp only[bare,reduceCtorEq] at htr
  exact wp_skip (hk _ _ _ _ rfl h hH)
 | region id ops draw =>
  refine ⟨?_,fun l r e=>by cases e⟩
  intro ac htr s a w K Q hH h hk
  simp only[ym] at htr
  split at htr
  ·rename_i l hl
   split at htr
   ·rename_i hd
    simp only[Option.some.injEq] at htr
    obtain ⟨FK,D,DK,l',rfl,rfl⟩:=al htr
    simp only[awp] at h
    obtain ⟨s0,h,hH⟩:=da FK hH h
    have hk':∀ s' a' w',(bs (s'.drop D) DK fun s''=>K .normal s'')→Holds F s' a' w'→Q .normal a' w':=by
     intro s' a' w' hK hH'
     obtain ⟨s'',h1,h2⟩:=aH (fI hH') hK
     exact hk _ _ _ _ rfl h1 h2
    cases draw with
    | false=>exact wp_region_list (LB ops ops.toList _ hl hH h hk')
    | true=>exact S7 hl (by simp only[Bool.true_eq_false,false_or] at hd; exact hd.1) hH h hk'
   ·rename_i hnd
    split at htr
    ·rename_i hm
     simp only[Option.some.injEq] at htr
     obtain ⟨FK,D,DK,l',rfl,he⟩:=al htr
     simp only[awp] at h
     obtain ⟨s0,h,hH⟩:=da FK hH h
     have hk':∀ s' a' w',(bs (s'.drop D) DK fun s''=>K .normal s'')→Holds F s' a' w'→Q .normal a' w':=by
      intro s' a' w' hK hH'
      obtain ⟨s'',h1,h2⟩:=aH (fI hH') hK
      exact hk _ _ _ _ rfl h1 h2
     cases draw with
     | false=>exact absurd (.inl rfl) hnd
     | true=>exact RR (BQ hl) (fun i f ds e=>(BG hl e).trans Ej.symm) hm he hH h hk'
    ·cases htr
  ·cases htr
 | seq x y ihx ihy =>
  refine ⟨?_,?_⟩
  ·intro ac htr s a w K Q hH h hk
   simp only[ym] at htr
   split at htr
   ·rename_i bx by_ hx hy
    simp only[Option.some.injEq] at htr
    cases ac<;>simp only[bare,reduceCtorEq,ze.seq.injEq] at htr
    rename_i ax ay
    obtain ⟨rfl,rfl⟩:=htr
    simp only[awp] at h
    refine wp_seq (ihx.1 ax hx hH h fun e s' a' w' hne hK hH'=>?_)
    cases e with
    | normal=>exact ihy.1 ay hy hH' hK fun e s' a' w' hne=>hk e s' a' w' (by cases e<;>simp_all [cc,ul])
    | exit id=>exact hk _ _ _ _ rfl hK hH'
    | ret=>exact hk _ _ _ _ rfl hK hH'
    | goto l=>exact hk _ _ _ _ (by simp only[cc,ul,Bool.or_eq_true] at hne ⊢; exact .inl hne) hK hH'
    | panic ch=>cases hne
    | outgrown=>cases hne
   ·cases htr
  ·intro l r e
   cases e
   refine ⟨?_,ihy.1⟩
   intro ac htr s a w K Q hH h hk
   simp only[ym] at htr
   split at htr
   ·rename_i bx by_ hx hy
    simp only[Option.some.injEq] at hx
    subst hx
    simp only[Option.some.injEq] at htr
    cases ac<;>simp only[bare,reduceCtorEq,ze.seq.injEq] at htr
    rename_i ax ay
    obtain ⟨hx,rfl⟩:=htr
    cases ax<;>simp only[bare,reduceCtorEq] at hx
    simp only[awp,Qs] at h
    exact wp_seq (wp_skip (ihy.1 ay hy hH h fun e s' a' w' hne=>hk e s' a' w' (by cases e<;>simp_all [cc,ul])))
   ·cases htr
 | cond c x y ihx ihy =>
  refine ⟨?_,fun l r e=>by cases e⟩
  intro ac htr s a w K Q hH h hk
  simp only[ym] at htr
  split at htr
  ·rename_i bx by_ hx hy
   simp only[Option.some.injEq] at htr
   cases ac<;>simp only[bare,reduceCtorEq,ze.cond.injEq] at htr
   rename_i c' ax ay
   obtain ⟨rfl,rfl,rfl⟩:=htr
   simp only[awp] at h
   split at h
   ·rename_i b hb
    have hc:a.eval c=.bool b:=by
     obtain ⟨I,β,lam,hI⟩:=hH
     have:=hI.opd c
     rw[hb] at this
     exact this.val_eq
    exact wp_cond_split hc (fun e=>ihx.1 ax hx hH (h.1 e) fun e s' a' w' hne=>hk e s' a' w' (by cases e<;>simp_all [cc,ul])) (fun e=>ihy.1 ay hy hH (h.2 e) fun e s' a' w' hne=>hk e s' a' w' (by cases e<;>simp_all [cc,ul]))
   ·exact h.elim
  ·cases htr
 | block id c ih =>
  refine ⟨?_,fun l r e=>by cases e⟩
  intro ac htr s a w K Q hH h hk
  simp only[ym,Option.map_eq_some_iff] at htr
  obtain ⟨bc,hc,htr⟩:=htr
  cases ac<;>simp only[bare,reduceCtorEq,ze.block.injEq] at htr
  rename_i id' ac'
  obtain ⟨rfl,rfl⟩:=htr
  simp only[awp] at h
  refine wp_block (ih.1 ac' hc hH h fun e s' a' w' hne hK hH'=>?_)
  cases e with
  | normal=>exact hk _ _ _ _ rfl hK hH'
  | exit i =>
   simp only[Ye] at hK
   simp only[Exit.inBlock]
   split
   ·rename_i e; rw[if_pos e] at hK; exact hk _ _ _ _ rfl hK hH'
   ·rename_i e; rw[if_neg e] at hK; exact hk _ _ _ _ rfl hK hH'
  | ret=>exact hk _ _ _ _ rfl hK hH'
  | goto l=>exact hk _ _ _ _ hne hK hH'
  | panic ch=>cases hne
  | outgrown=>cases hne
 | loop c ih =>
  refine ⟨?_,fun l r e=>by cases e⟩
  intro ac htr s a w K Q hH h hk
  simp only[ym,Option.map_eq_some_iff] at htr
  obtain ⟨bc,hc,htr⟩:=htr
  cases ac<;>simp only[bare,reduceCtorEq,ze.loop.injEq] at htr
  rename_i ac'
  subst htr
  simp only[awp] at h
  obtain ⟨J,n,s0,hi,h0,h⟩:=h
  refine wp_loop_ghost (fun n a w=>∃ s,Holds F s a w∧J n s) n ⟨s0,hi F a w hH,h0⟩ fun n a w ⟨s,hH,hJ⟩=>?_
  refine ih.1 ac' hc hH (h n s hJ) fun e s' a' w' hne hK hH'=>?_
  cases e with
  | normal =>
   obtain ⟨m,s2,hm,hi2,hJ'⟩:=hK
   exact ⟨m,hm,s2,hi2 F a' w' hH',hJ'⟩
  | exit id=>exact hk _ _ _ _ rfl hK hH'
  | ret=>exact hk _ _ _ _ rfl hK hH'
  | goto l=>exact hk _ _ _ _ hne hK hH'
  | panic ch=>cases hne
  | outgrown=>cases hne
 | rangeFunc f ps x y =>
  refine ⟨?_,fun l r e=>by cases e⟩
  intro ac htr; simp[ym] at htr
 | exit id =>
  refine ⟨?_,fun l r e=>by cases e⟩
  intro ac htr s a w K Q hH h hk
  simp only[ym,Option.some.injEq] at htr
  cases ac<;>simp only[bare,reduceCtorEq,ze.exit.injEq] at htr
  subst htr
  exact wp_exit (hk _ _ _ _ rfl h hH)
 | scope c ih =>
  refine ⟨?_,fun l r e=>by cases e⟩
  have straight:∀ ac,ul c=false→ym P F.N c=some (bare ac)→∀ {s:St} {a:Act} {w:World} {K:Exit→St→Prop} {Q:Exit→Act→World→Prop},Holds F s a w→awp P ac s K →
    (∀ e s' a' w',cc (.scope c) e=true→K e s'→Holds F s' a' w'→Q e a' w')→(Code.scope c).wp P Q a w:=by
   intro ac hg htr s a w K Q hH h hk
   refine wp_scope_straight (ih.1 ac htr hH h fun e s' a' w' hne hK hH'=>?_)
   cases e with
   | normal=>exact hk _ _ _ _ rfl hK hH'
   | exit i=>exact hk _ _ _ _ rfl hK hH'
   | ret=>exact hk _ _ _ _ rfl hK hH'
   | goto l=>simp only[cc,hg] at hne; cases hne
   | panic ch=>cases hne
   | outgrown=>cases hne
  have other:(∀ l r,c≠.seq (.label l) r)→lm P F (.scope c):=by
   intro hne ac htr
   rw[ym.eq_def] at htr
   split at htr<;>first | (rename_i heq; cases heq; done) | skip
   all_goals first
    | (cases htr; done)
    | (rename_i l r heq; cases heq; exact absurd rfl (hne _ _))
    | (
      rename_i c' _ heq
      cases heq
      split at htr
      ·cases htr
      ·rename_i hg
       exact straight ac (by simpa using hg) htr)
  cases c with
  | seq x r =>
   cases x with
   | label l =>
    intro ac htr s a w K Q hH h hk
    simp only[ym] at htr
    split at htr
    ·rename_i hg
     simp only[Option.map_eq_some_iff] at htr
     obtain ⟨br,hr,htr⟩:=htr
     cases ac<;>simp only[bare,reduceCtorEq,ze.again.injEq] at htr
     rename_i l' ar
     obtain ⟨rfl,rfl⟩:=htr
     simp only[awp] at h
     obtain ⟨J,n,s0,hi,h0,h⟩:=h
     have ihr:=ih.2 _ _ rfl
     have step:∀ n s a w,Holds F s a w→J n s→∀ {c:Code} {ac:ze},lm P F c→ym P F.N c=some (bare ac)→(∀ K,awp P ar s K→awp P ac s K) →
       c.wp P (Exit.jump l (fun a' w'=>∃ m,m<n∧∃ s',Holds F s' a' w'∧J m s') Q) a w:=by
      intro n s a w hH hJ c ac hS htr hto
      refine hS ac htr hH (hto _ (h n s hJ)) fun e s' a' w' hne hK hH'=>?_
      cases e with
      | normal=>exact hk _ _ _ _ rfl hK hH'
      | exit i=>exact hk _ _ _ _ rfl hK hH'
      | ret=>exact hk _ _ _ _ rfl hK hH'
      | goto i =>
       obtain ⟨rfl,m,s2,hm,hi2,hJ'⟩:=hK
       exact ⟨rfl,m,hm,s2,hi2 F a' w' hH',hJ'⟩
      | panic ch=>cases hne
      | outgrown=>cases hne
     let J':Nat→Act→World→Prop:=fun m a w=>∃ s,Holds F s a w∧J m s
     refine wp_scope_jumps (rest:=.seq .skip r) l (fun a w=>∃ m,J' m a w) (YM J') (by simp[findLabel]) ?_ ?_
     ·have:=step n s0 a w (hi F a w hH) h0 (c:=.seq (.label l) r) (ac:=.seq .skip ar) ih.1 (by simp only[ym,hr]; rfl) (fun K h=>by simpa only[awp,Qs] using h)
      refine wp_mono this ?_
      intro e a' w' hq
      cases e with
      | goto i=>obtain ⟨e1,m,_,s',h1,h2⟩:=hq; exact ⟨e1,m,s',h1,h2⟩
      | _=>exact hq
     ·intro a w hJ
      obtain ⟨⟨s1,h1,h2⟩,hmin⟩:=aI hJ
      have:=step _ s1 a w h1 h2 (c:=.seq .skip r) (ac:=.seq .skip ar) ihr.1 (by simp only[ym,hr]; rfl) (fun K h=>by simpa only[awp,Qs] using h)
      refine wp_mono this ?_
      intro e a' w' hq
      cases e with
      | goto i =>
       obtain ⟨e1,m,hm,s',h3,h4⟩:=hq
       refine ⟨e1,⟨m,s',h3,h4⟩,?_⟩
       have:=(aI (J:=J') ⟨m,s',h3,h4⟩).2 m ⟨s',h3,h4⟩
       omega
      | _=>exact hq
    ·rename_i hg
     have htr':ym P F.N (.seq (.label l) r)=some (bare ac):=by
      simp only[Option.map_eq_some_iff] at htr
      obtain ⟨br,hr,htr⟩:=htr
      simp only[ym,hr,htr]
     exact straight ac (by simpa [ul] using hg) htr' hH h hk
   | _=>exact other (by intros; simp)
  | _=>exact other (by intros; simp)
 | label l =>
  refine ⟨?_,fun l r e=>by cases e⟩
  intro ac htr s a w K Q hH h hk
  simp only[ym,Option.some.injEq] at htr
  cases ac<;>simp only[bare,reduceCtorEq] at htr
  exact wp_label (hk _ _ _ _ rfl h hH)
 | goto l =>
  refine ⟨?_,fun l r e=>by cases e⟩
  intro ac htr s a w K Q hH h hk
  simp only[ym,Option.some.injEq] at htr
  cases ac<;>simp only[bare,reduceCtorEq,ze.goto.injEq] at htr
  subst htr
  exact wp_goto (hk _ _ _ _ rfl h hH)
 | ret =>
  refine ⟨?_,fun l r e=>by cases e⟩
  intro ac htr s a w K Q hH h hk
  simp only[ym,Option.some.injEq] at htr
  cases ac<;>simp only[bare,reduceCtorEq] at htr
  exact wp_ret (hk _ _ _ _ rfl h hH)
 | refuse why =>
  refine ⟨?_,fun l r e=>by cases e⟩
  intro ac htr; simp[ym] at htr
theorem Yz (c:Code):lm P F c:=(Pg c).1
inductive zE where
 | t (n:Nat)
 | cell (n:Nat) (k:Option Nat)
def t5 (P:Program):ResultVar→Option zE
 | .tmp t=>some (.t t)
 | .cell a t=>(ldT P t).map (.cell a)
def Uw (s:St):zE→Option AV
 | .t n=>wu (lk s.sto) (s.get n)
 | .cell n k=>match s.get n with
  | .ptr j off=>match lk s.sto j with
   | some (.var cells)=>match zP cells off k with
    | some x=>wu (lk s.sto) x
    | none=>none
   | _=>none
  | _=>none
def r9 (l:List zE) (s:St):Option AV :=
 match yD (Uw s) l with
 | some [x]=>some x
 | some xs=>some (.tuple xs)
 | none=>none
def th:Nat→List AV→List (Nat × AV)
 | _,[]=>[]
 | i,x::xs=>(i,x)::th (i+1) xs
theorem RI:∀ (xs:List AV) (i t:Nat) (x:AV),lk (th i xs) t=some x→∃ j,t=i+j∧xs[j]?=some x:=by
 intro xs
 induction xs with
 | nil=>intro i t x h; simp[th,lk] at h
 | cons y xs ih =>
  intro i t x h
  simp only[th,lk] at h
  split at h
  ·rename_i e
   exact ⟨0,by omega,by simpa using h⟩
  ·obtain ⟨j,h1,h2⟩:=ih _ _ _ h
   exact ⟨j+1,by omega,by simpa using h2⟩
def mB (tmps:Array Value):ResultVar→Sem Value
 | .tmp t=>pure (tmps.getD t undef)
 | .cell p t=>do loadVar t (← asAddr (tmps.getD p undef))
def nI (s:St):zE→Option AV
 | .t n=>some (strip (s.get n))
 | .cell n k=>match s.get n with
  | .ptr j off=>match lk s.sto j with
   | some (.var cells)=>(zP cells off k).map strip
   | _=>none
  | _=>none
def tup:List AV→AV
 | [x]=>x
 | xs=>.tuple xs
theorem Dr {l:List zE} {s:St} {r:AV} (h:r9 l s=some r):∃ xs,yD (Uw s) l=some xs∧r=tup xs:=by
 unfold r9 at h
 split at h
 ·rename_i x hx
  simp only[Option.some.injEq] at h
  exact ⟨[x],hx,h.symm⟩
 ·rename_i xs hne hx
  simp only[Option.some.injEq] at h
  refine ⟨xs,hx,?_⟩
  match xs,hne with
  | [],_=>exact h.symm
  | [x],hne=>exact absurd rfl (hne x)
  | _::_::_,_=>exact h.symm
 ·cases h
theorem Aq {s:St} {a:Act} {w:World} {I:Nat→Nat→Prop} {β:zR} {lam:ya} (hI:Inv F s.look (lk s.sto) I β lam a w) {rv:ResultVar} {ra:zE} {x:AV} (htr:t5 P rv=some ra) (hx:nI s ra=some x) :
  ∃ v,(mB a.tmps rv).run P w=.ok v w∧R I w β lam x v∧∃ y,x=strip y:=by
 have hget:∀ n,R I w β lam (s.get n) (a.tmps.getD n undef):=fun n=>hI.opd (.tmp n)
 cases rv with
 | tmp t =>
  simp only[t5,Option.some.injEq] at htr
  subst htr
  simp only[nI,Option.some.injEq] at hx
  subst hx
  exact ⟨_,rfl,(hget t).strip,_,rfl⟩
 | cell p t =>
  simp only[t5,Option.map_eq_some_iff] at htr
  obtain ⟨k,hk,rfl⟩:=htr
  simp only[nI] at hx
  split at hx
  ·rename_i j off hp
   split at hx
   ·rename_i cells hs
    simp only[Option.map_eq_some_iff] at hx
    obtain ⟨y,hy,rfl⟩:=hx
    have hR:=hget p
    rw[hp] at hR
    obtain ⟨b,hb,hv⟩:=hR.ptr_inv
    have hE:=hI.hread _ _ _ hs hb
    obtain ⟨v,hr,hRv⟩:=Zy (o:=0) hk hy (fun j c hj=>by
     obtain ⟨v,h1,_,h3,h4⟩:=hE j c hj
     exact ⟨v,by rw[Nat.zero_add]; exact h1,h3,h4⟩)
    rw[Nat.zero_add] at hr
    refine ⟨v,?_,hRv.strip,_,rfl⟩
    simp only[Instr.loadAt,Instr.sureAddr,Sem.run_bind,Sem.run_pure,Result.andThen_ok] at hr
    simp only[mB,hv,asAddr,Sem.run_bind,Sem.run_pure,Result.andThen_ok]
    exact hr
   ·cases hx
  ·cases hx
theorem Av {s:St} {a:Act} {w:World} {I:Nat→Nat→Prop} {β:zR} {lam:ya} (hI:Inv F s.look (lk s.sto) I β lam a w) {rv:ResultVar} {ra:zE} {x:AV} (htr:t5 P rv=some ra) (hx:Uw s ra=some x) :
  ∃ v,(mB a.tmps rv).run P w=.ok v w∧R0 (Seen I β lam) w x v:=by
 have hget:∀ n,R I w β lam (s.get n) (a.tmps.getD n undef):=fun n=>hI.opd (.tmp n)
 cases rv with
 | tmp t =>
  simp only[t5,Option.some.injEq] at htr
  subst htr
  exact ⟨_,rfl,(lF hI.hread hI.usto hx (hget t)).1⟩
 | cell p t =>
  simp only[t5,Option.map_eq_some_iff] at htr
  obtain ⟨k,hk,rfl⟩:=htr
  simp only[Uw] at hx
  split at hx
  ·rename_i j off hp
   split at hx
   ·rename_i cells hs
    split at hx
    ·rename_i y hy
     have hR:=hget p
     rw[hp] at hR
     obtain ⟨b,hb,hv⟩:=hR.ptr_inv
     have hE:=hI.hread _ _ _ hs hb
     obtain ⟨v,hr,hRv⟩:=Zy (o:=0) hk hy (fun j c hj=>by
      obtain ⟨v,h1,_,h3,h4⟩:=hE j c hj
      exact ⟨v,by rw[Nat.zero_add]; exact h1,h3,h4⟩)
     rw[Nat.zero_add] at hr
     refine ⟨v,?_,(lF hI.hread hI.usto hx hRv).1⟩
     simp only[Instr.loadAt,Instr.sureAddr,Sem.run_bind,Sem.run_pure,Result.andThen_ok] at hr
     simp only[mB,hv,asAddr,Sem.run_bind,Sem.run_pure,Result.andThen_ok]
     exact hr
    ·cases hx
   ·cases hx
  ·cases hx
theorem PJ {rd:zE→Option AV} {Rel:AV→Value→Prop} {tmps:Array Value} {w:World} (hrd:∀ rv ra x,t5 P rv=some ra→rd ra=some x→∃ v,(mB tmps rv).run P w=.ok v w∧Rel x v) :
  ∀ (rvs:List ResultVar) (ras:List zE) (xs:List AV),
  yD (t5 P) rvs=some ras→yD rd ras=some xs →
  ∃ vs:List Value,(rvs.mapM (mB tmps)).run P w=.ok vs w ∧
   vs.length=xs.length∧∀ (i:Nat) (x:AV),xs[i]?=some x→∃ v,vs[i]?=some v∧Rel x v:=by
 intro rvs
 induction rvs with
 | nil =>
  intro ras xs h1 h2
  simp only[yD,Option.some.injEq] at h1
  subst h1
  simp only[yD,Option.some.injEq] at h2
  subst h2
  exact ⟨[],rfl,rfl,fun i x h=>by simp at h⟩
 | cons rv rvs ih =>
  intro ras xs h1 h2
  simp only[yD] at h1
  split at h1
  ·rename_i ra hra
   simp only[Option.map_eq_some_iff] at h1
   obtain ⟨ras',h1,rfl⟩:=h1
   simp only[yD] at h2
   split at h2
   ·rename_i x hx
    simp only[Option.map_eq_some_iff] at h2
    obtain ⟨xs',h2,rfl⟩:=h2
    obtain ⟨v,hv,hR⟩:=hrd rv ra x hra hx
    obtain ⟨vs,g1,g2,g3⟩:=ih ras' xs' h1 h2
    refine ⟨v::vs,?_,by simp[g2],fun i x' hi=>?_⟩
    ·rw[List.mapM_cons,Sem.run_bind,hv]
     simp only[Result.andThen_ok,Sem.run_bind,g1,Sem.run_pure]
    ·cases i with
     | zero=>simp at hi; subst hi; exact ⟨v,rfl,hR⟩
     | succ i=>simp at hi; simpa using g3 i x' hi
   ·cases h2
  ·cases h1
theorem aY {fn:Func} {rd:zE→Option AV} {Rel:AV→Value→Prop} {tmps:Array Value} {w:World} (hrd:∀ rv ra x,t5 P rv=some ra→rd ra=some x→∃ v,(mB tmps rv).run P w=.ok v w∧Rel x v)
  (htup:∀ (xs:List AV) (vs:Array Value),yD rd (Option.getD (yD (t5 P) fn.results.toList) [])=some xs→vs.size=xs.length→(∀ i x,xs[i]?=some x→Rel x (vs.getD i undef))→Rel (.tuple xs) (.tuple vs))
  {ras:List zE} {xs:List AV} (h1:yD (t5 P) fn.results.toList=some ras) (h2:yD rd ras=some xs):∃ v,(results fn tmps).run P w=.ok v w∧Rel (tup xs) v:=by
 obtain ⟨vl,g1,g2,g3⟩:=PJ hrd fn.results.toList ras xs h1 h2
 rw[h1] at htup
 simp only[Option.getD_some] at htup
 refine ⟨if h:vl.toArray.size=1 then vl.toArray[0] else .tuple vl.toArray,?_,?_⟩
 ·have e:results fn tmps=(fn.results.mapM (mB tmps) >>= fun vs=>pure (if h:vs.size=1 then vs[0] else .tuple vs)):=by
   unfold results
   congr 1
   first | done | (congr 1; funext x; cases x<;>rfl)
  rw[e,Array.mapM_eq_mapM_toList,Sem.run_bind,Sem.run_map,g1]
  rfl
 ·have gt:∀ i x,xs[i]?=some x→Rel x (vl.toArray.getD i undef):=fun i x hi=>by
   obtain ⟨v,hv,hRv⟩:=g3 i x hi
   have:vl.toArray.getD i undef=v:=by simp[hv]
   rw[this]
   exact hRv
  match xs,g2,g3,h2,gt with
  | [x],g2,g3,h2,gt =>
   obtain ⟨v,hv,hRv⟩:=g3 0 x rfl
   have hvl:vl=[v]:=by
    match vl,g2,hv with
    | [v'],_,hv=>simp at hv; rw[hv]
   subst hvl
   simp only[List.size_toArray,List.length_cons,List.length_nil,dite_true]
   exact hRv
  | [],g2,g3,h2,gt =>
   have hvl:vl=[]:=by simpa using g2
   subst hvl
   exact htup [] #[] h2 rfl (fun i c h=>by simp at h)
  | x::y::xs,g2,g3,h2,gt =>
   have hne:¬ vl.toArray.size=1:=by simp at g2 ⊢; omega
   rw[dif_neg hne]
   exact htup _ _ h2 (by simpa using g2) gt
theorem EP {α γ:Type} {f:α→Option γ}:∀ {l:List α} {l':List γ},yD f l=some l'→∀ y∈l',∃ x∈l,f x=some y:=by
 intro l
 induction l with
 | nil=>intro l' h; simp only[yD,Option.some.injEq] at h; subst h; simp
 | cons x l ih =>
  intro l' h
  simp only[yD] at h
  split at h
  ·rename_i y hy
   simp only[Option.map_eq_some_iff] at h
   obtain ⟨l2,h2,rfl⟩:=h
   intro z hz
   rcases List.mem_cons.1 hz with rfl | hz
   ·exact ⟨x,by simp,hy⟩
   ·obtain ⟨x',h3,h4⟩:=ih h2 z hz
    exact ⟨x',by simp[h3],h4⟩
  ·cases h
theorem T0 {x:AV} {sz l:Nat} {rows:List (List AV)}:strip x≠.list sz (.own l) rows:=by
 cases x<;>simp only[strip,ne_eq,reduceCtorEq,not_false_eq_true]
 rename_i sz' m rows'
 cases m<;>simp
theorem Lt {s:St} {ra:zE} {x:AV} (h:nI s ra=some x):∃ y,x=strip y:=by
 cases ra with
 | t n =>
  simp only[nI,Option.some.injEq] at h
  exact ⟨_,h.symm⟩
 | cell n k =>
  simp only[nI] at h
  split at h
  ·split at h
   ·simp only[Option.map_eq_some_iff] at h
    obtain ⟨y,_,rfl⟩:=h
    exact ⟨_,rfl⟩
   ·cases h
  ·cases h
theorem FU {f:FuncId} {fn:Func} {code:Code} {ac:ze} {ras:List zE} {args:List AV} {s:St} {K:AV→St→Prop} (B:Nat) (hf:P.funcs[f]?=some fn) (hb:fn.body=some code)
  (htr:ym P fn.ntmps code=some (bare ac)) (hres:yD (t5 P) fn.results.toList=some ras) (hn:args.length≤fn.ntmps)
  (h:awp P ac {env:=th 0 args,sto:=s.sto,out:=s.env::s.out,base:=B} fun e s'=>(e=.normal∨e=.ret)∧∃ xs e0 o0,yD (nI s') ras=some xs∧s'.out=e0::o0∧K (tup xs) {env:=e0,sto:=s'.sto,out:=o0,base:=s.base}):afN P f args s K:=by
 intro F a w I β lam hI vs hs hR
 refine calls_of_wp hf hb ?_
 have hH:Holds {w0:=F.w0,I0:=F.I0,N:=fn.ntmps,outs:=a.tmps::F.outs} {env:=th 0 args,sto:=s.sto,out:=s.env::s.out,base:=B} {tmps:=vs++Array.replicate (fn.ntmps-vs.size) undef,defers:=[]} w:=by
  refine ⟨I,β,lam,?_⟩
  refine {hI with defers:=rfl,size:=by simp; omega,env:=fun t x ht=>?_}
  obtain ⟨d,t⟩:=t
  cases d with
  | zero =>
   obtain ⟨j,rfl,hj⟩:=RI _ _ _ _ ht
   have hlt:j<vs.size:=by
    have:=(List.getElem?_eq_some_iff.1 hj).1
    omega
   refine ⟨vs.getD j undef,?_,hR j x hj⟩
   simp only[z9.val]
   rw[Nat.zero_add,Array.getElem?_append_left hlt]
   simp[hlt]
  | succ d =>
   cases d with
   | zero =>
    obtain ⟨v,h1,h2⟩:=hI.env (0,t) x ht
    exact ⟨v,h1,h2⟩
   | succ d =>
    obtain ⟨v,h1,h2⟩:=hI.env (d+1,t) x ht
    exact ⟨v,h1,h2⟩
 refine Yz (F:={w0:=F.w0,I0:=F.I0,N:=fn.ntmps,outs:=a.tmps::F.outs}) code ac htr hH h fun e s' a' w' _ hK hH'=>?_
 obtain ⟨he,xs,e0,o0,hxs,hout,hK⟩:=hK
 obtain ⟨I',β',lam',hI'⟩:=hH'
 obtain ⟨v,hrun,hRv⟩:=aY (fn:=fn) (rd:=nI s') (Rel:=R I' w' β' lam') (fun rv ra x h1 h2=>by
   obtain ⟨v,g1,g2,_⟩:=Aq hI' h1 h2
   exact ⟨v,g1,g2⟩) (fun xs vs h1 h2 h3=>by
   refine .tuple xs vs h2 (fun sz l rows hm=>?_) h3
   obtain ⟨ra,_,hra⟩:=EP h1 _ hm
   obtain ⟨y,hy⟩:=Lt hra
   exact T0 hy.symm) hres hxs
 have hpop:Inv F (St.look {env:=e0,sto:=s'.sto,out:=o0,base:=s.base}) (lk s'.sto) I' β' lam' a w':=by
  refine {hI' with defers:=hI.defers,size:=hI.size,env:=fun t x ht=>?_}
  have key:s'.look (t.1+1,t.2)=some x:=by
   obtain ⟨d,t⟩:=t
   simp only[St.look,hout] at ht ⊢
   cases d with
   | zero=>exact ht
   | succ d=>exact ht
  obtain ⟨v,h1,h2⟩:=hI'.env _ x key
  refine ⟨v,?_,h2⟩
  obtain ⟨d,t⟩:=t
  cases d with
  | zero=>exact h1
  | succ d=>exact h1
 have hpost:a'.defers=[]∧∃ v,(results fn a'.tmps).run P w'=.ok v w'∧∃ u,Ending.returned v=.returned u∧∃ r s' I' β' lam',K r s'∧Inv F s'.look (lk s'.sto) I' β' lam' a w'∧R I' w' β' lam' r u :=
  ⟨hI'.defers,v,hrun,v,rfl,tup xs,_,I',β',lam',hK,hpop,hRv⟩
 rcases he with rfl | rfl
 ·exact hpost
 ·exact hpost
def AV.imp (x y:AV):Prop:=∀ (I:Nat→Nat→Prop) (w:World) (v:Value),R0 I w x v→R0 I w y v
theorem AV.imp.refl {x:AV}:AV.imp x x:=fun _ _ _ h=>h
theorem D8 {f:FuncId} {fn:Func} {code:Code} {ac:ze} {ras:List zE} {args:List AV} {r:AV} {K:Exit→St→Prop} (hK0:∀ e s,K e s→(e=.normal∨e=.ret)∧∃ r0,r9 ras s=some r0∧AV.imp r0 r) (hf:P.funcs[f]?=some fn) (hb:fn.body=some code)
  (htr:ym P fn.ntmps code=some (bare ac)) (hres:yD (t5 P) fn.results.toList=some ras) (hn:args.length≤fn.ntmps)
  (h:awp P ac {env:=th 0 args,sto:=[]} K):zc P f args r:=by
 intro I vs w hI hs hR
 refine calls_of_wp hf hb ?_
 have hH:Holds {w0:=w,I0:=I,N:=fn.ntmps} {env:=th 0 args,sto:=[]} {tmps:=vs++Array.replicate (fn.ntmps-vs.size) undef,defers:=[]} w:=by
  refine ⟨I,fun _=>none,fun _=>none,?_⟩
  refine
   {defers:=rfl
    size:=by simp; omega
    below:=Below.refl _ _
    env:=fun t x ht=>?_
    sto:=fun k en hk=>by simp[lk] at hk
    usto:=fun l sz rows hk=>by simp[lk] at hk
    bdom:=fun k b hk=>by cases hk
    binj:=fun k k' b hk=>by cases hk
    bnew:=fun k b hk=>by cases hk
    Isub:=hI
    I0sub:=fun _ _ h=>h
    Inew:=fun _ _ h=>.inl h
    spare:=fun l a len cap sz hl=>by cases hl
    ldis:=fun l l' b o o' len len' cap cap' sz sz' _ h1=>by cases h1}
  obtain ⟨d,t⟩:=t
  cases d with
  | succ d=>simp[St.look] at ht
  | zero=>?_
  obtain ⟨j,rfl,hj⟩:=RI _ _ _ _ ht
  have hlt:j<vs.size:=by
   have:=(List.getElem?_eq_some_iff.1 hj).1
   omega
  refine ⟨vs.getD j undef,?_,.base (hR j x hj)⟩
  simp only[z9.val]
  rw[Nat.zero_add,Array.getElem?_append_left hlt]
  simp[hlt]
 refine Yz (F:={w0:=w,I0:=I,N:=fn.ntmps}) code ac htr hH h fun e s a' w' _ hK hH'=>?_
 obtain ⟨he,r0,hr,himp⟩:=hK0 _ _ hK
 obtain ⟨I',β,lam,hI'⟩:=hH'
 obtain ⟨xs,hxs,rfl⟩:=Dr hr
 have hJ:∀ b o,Seen I' β lam b o→(I b o∨w.heap.size≤b)∧b<w'.heap.size:=by
  intro b o hb
  rcases hb with hb | ⟨k,hb⟩ | ⟨l,p,cap,sz,hl,h0⟩
  ·exact ⟨hI'.Inew b o hb,hI'.Isub b o hb⟩
  ·exact ⟨.inr (hI'.bnew k b hb).1,(hI'.bnew k b hb).2.1⟩
  ·obtain ⟨g1,g2,_⟩:=hI'.ublock hl h0
   exact ⟨.inr g1,g2⟩
 obtain ⟨v,hrun,hRv⟩:=aY (fn:=fn) (rd:=Uw s) (Rel:=R0 (fun b o=>(I b o∨w.heap.size≤b)∧b<w'.heap.size) w') (fun rv ra x h1 h2=>by
   obtain ⟨v,g1,g2⟩:=Av hI' h1 h2
   exact ⟨v,g1,g2.mono hJ (fun _ _ _ _ h=>h)⟩) (fun xs vs _ h2 h3=>.tuple xs vs h2 h3) hres hxs
 have hpost:a'.defers=[]∧∃ v,(results fn a'.tmps).run P w'=.ok v w'∧∃ u,Ending.returned v=.returned u∧Below w.heap.size w w'∧R0 (fun b o=>(I b o∨w.heap.size≤b)∧b<w'.heap.size) w' r u :=
  ⟨hI'.defers,v,hrun,v,rfl,hI'.below,himp _ _ _ hRv⟩
 rcases he with rfl | rfl
 ·exact hpost
 ·exact hpost
end
def zt (P:Program) (f:FuncId):Option (ze × List zE × Nat) :=
 match P.funcs[f]? with
 | some fn=>match fn.body with
  | some c=>match ym P fn.ntmps c,yD (t5 P) fn.results.toList with
   | some a,some r=>some (a,r,fn.ntmps)
   | _,_=>none
  | none=>none
 | none=>none
theorem GY {P:Program} {f:FuncId} {ac:ze} {ras:List zE} {N:Nat} {args:List AV} {r:AV} {K:Exit→St→Prop} (hK0:∀ e s,K e s→(e=.normal∨e=.ret)∧∃ r0,r9 ras s=some r0∧AV.imp r0 r) (ht:zt P f=some (bare ac,ras,N)) (hn:args.length≤N)
  (h:awp P ac {env:=th 0 args,sto:=[]} K):zc P f args r:=by
 unfold zt at ht
 split at ht
 ·rename_i fn hf
  split at ht
  ·rename_i c hb
   split at ht
   ·rename_i a r' ha hr
    simp only[Option.some.injEq,Prod.mk.injEq] at ht
    obtain ⟨rfl,rfl,rfl⟩:=ht
    exact D8 hK0 hf hb ha hr hn h
   ·cases ht
  ·cases ht
 ·cases ht
theorem sound {P:Program} {f:FuncId} {ac:ze} {ras:List zE} {N:Nat} {args:List AV} {r:AV} (ht:zt P f=some (bare ac,ras,N)) (hn:args.length≤N)
  (h:awp P ac {env:=th 0 args,sto:=[]} fun e s=>(e=.normal∨e=.ret)∧r9 ras s=some r):zc P f args r :=
 GY (fun _ _ h=>⟨h.1,r,h.2,AV.imp.refl⟩) ht hn h
theorem abK {P:Program} {f:FuncId} {ac:ze} {ras:List zE} {N:Nat} {args:List AV} {s:St} {K:AV→St→Prop} (B:Nat) (ht:zt P f=some (bare ac,ras,N)) (hn:args.length≤N)
  (h:awp P ac {env:=th 0 args,sto:=s.sto,out:=s.env::s.out,base:=B} fun e s'=>(e=.normal∨e=.ret)∧∃ xs e0 o0,yD (nI s') ras=some xs∧s'.out=e0::o0∧K (tup xs) {env:=e0,sto:=s'.sto,out:=o0,base:=s.base}):afN P f args s K:=by
 unfold zt at ht
 split at ht
 ·rename_i fn hf
  split at ht
  ·rename_i c hb
   split at ht
   ·rename_i a r' ha hr
    simp only[Option.some.injEq,Prod.mk.injEq] at ht
    obtain ⟨rfl,rfl,rfl⟩:=ht
    exact FU B hf hb ha hr hn h
   ·cases ht
  ·cases ht
 ·cases ht
abbrev iv (n:Int):AV:=.val (.int .i64 n)
abbrev bv (b:Bool):AV:=.val (.bool b)
def Rg (D DK:List Nat) (K:Exit→St→Prop):St→Prop:=fun s=>bs (s.drop D) DK fun s=>K .normal s
def abq (P:Program) (ops:List zi) (D DK:List Nat) (K:Exit→St→Prop):St→Prop:=fun s=>zj P ops s (Rg D DK K)
def sP (P:Program) (b:ze) (K:Exit→St→Prop):Exit→St→Prop:=Qs (awp P b) K
def wN (id:Nat) (K:Exit→St→Prop):Exit→St→Prop:=Ye id K
def kP (P:Program) (os:List zi) (K:St→Prop):St→Prop:=fun s=>zj P os s K
def xl (P:Program) (os:List zi) (s:St) (d:Option Nat) (K:St→Prop):AV→Option zb→Prop:=fun x e=>zj P os ((s.put d x).new d e) K
def r6 (x:AV) (A B:Prop):Prop :=
 match x with
 | .val (.bool c)=>(c=true→A)∧(c=false→B)
 | _=>False
def sG (x:AV) (b:Bool) (A B:Prop):Prop :=
 match x with
 | .val (.bool c)=>(c=b→A)∧(c=!b→B)
 | .val _=>B
 | _=>False
theorem adr {s:St} {n:Nat}:ev s (.t n)=(lk s.env n).getD .undef:=congrArg (fun x=>x) rfl
theorem adq {s:St} {x:AV}:ev s (.c x)=x:=congrArg (fun x=>x) rfl
theorem aa9 {s:St} {n:Nat}:s.get n=(lk s.env n).getD .undef:=congrArg (fun x=>x) rfl
@[congr] theorem ab0 {x x':AV} {A B:Prop} (h:Unit→x=x'):r6 x A B=r6 x' A B:=by rw[h ()]
@[congr] theorem aba {x x':AV} {b:Bool} {A B:Prop} (h:Unit→x=x'):sG x b A B=sG x' b A B:=by rw[h ()]
section
variable {P:Program} {s:St} {K:Exit→St→Prop} {KS:St→Prop} {os:List zi}
theorem MF {A B:Prop}:r6 (bv true) A B=A:=by simp[r6]
theorem Ph {A B:Prop}:r6 (bv false) A B=B:=by simp[r6]
theorem ME {c:Bool} {A B:Prop}:r6 (bv c) A B=((c=true→A)∧(c=false→B)):=propext Iff.rfl
theorem MZ {b:Bool} {A B:Prop}:sG (bv b) b A B=A:=by cases b<;>simp[sG]
theorem Rv {A B:Prop}:sG (bv true) false A B=B:=by simp[sG]
theorem Rw {A B:Prop}:sG (bv false) true A B=B:=by simp[sG]
theorem Pu {b:Bool} {A B:Prop}:sG (.val undef) b A B=B:=propext Iff.rfl
theorem FN:awp P .skip s K=K .normal s:=propext Iff.rfl
theorem Mv {d:Bool} {FK:List Nat} {D DK:List Nat} {ops:List zi}:awp P (.region d FK ops D DK) s K=tF FK s (abq P ops D DK K):=propext Iff.rfl
theorem C5 {a b:ze}:awp P (.seq a b) s K=awp P a s (sP P b K):=propext Iff.rfl
theorem FJ {c:Opd} {a b:ze}:awp P (.cond c a b) s K=r6 (ev s c) (awp P a s K) (awp P b s K):=propext Iff.rfl
theorem Ks {id:Nat} {a:ze}:awp P (.block id a) s K=awp P a s (wN id K):=propext Iff.rfl
theorem FM {l:Nat}:awp P (.goto l) s K=K (.goto l) s:=propext Iff.rfl
theorem FL {id:Nat}:awp P (.exit id) s K=K (.exit id) s:=propext Iff.rfl
theorem C4:awp P .ret s K=K .ret s:=propext Iff.rfl
theorem As {D DK:List Nat} {ops:List zi}:abq P ops D DK K s=zj P ops s (Rg D DK K):=propext Iff.rfl
theorem NA {D DK:List Nat}:Rg D DK K s=(mE (lk s.sto) (DK.map (s.base+·)) ⟨del D s.env,del (DK.map (s.base+·)) s.sto,s.out,s.base⟩=true∧K .normal ⟨del D s.env,del (DK.map (s.base+·)) s.sto,s.out,s.base⟩):=propext Iff.rfl
theorem Nv {α:Type} (l:List (Nat × α)):del [] l=l:=by
 induction l with
 | nil=>rfl
 | cons p l ih=>simp[del,ih]
theorem Ey {D:List Nat}:Rg D [] K s=K .normal ⟨del D s.env,s.sto,s.out,s.base⟩:=by
 rw[NA]
 simp[mE,Nv]
theorem PO {b:ze}:sP P b K .normal s=awp P b s K:=propext Iff.rfl
theorem Gy {b:ze} {i:Nat}:sP P b K (.exit i) s=K (.exit i) s:=propext Iff.rfl
theorem DL {b:ze}:sP P b K .ret s=K .ret s:=propext Iff.rfl
theorem TR {i:Nat}:wN i K .normal s=K .normal s:=propext Iff.rfl
theorem Pb {i j:Nat}:wN i K (.exit j) s=if j=i then K .normal s else K (.exit j) s:=propext Iff.rfl
theorem Mx {i:Nat}:wN i K .ret s=K .ret s:=propext Iff.rfl
theorem Gz {b:ze} {i:Nat}:sP P b K (.goto i) s=K (.goto i) s:=propext Iff.rfl
theorem Pc {i j:Nat}:wN i K (.goto j) s=K (.goto j) s:=propext Iff.rfl
theorem Pq:tF [] s KS=KS s:=propext Iff.rfl
theorem Ae:zj P [] s KS=KS s:=propext Iff.rfl
theorem J3 {d:Option Nat} {op:AOp} {xs:List Opd} {g:Nat} {b:Bool}:zj P (⟨d,op,xs,some (g,b)⟩::os) s KS =
  sG (s.get g) b (zj P (⟨d,op,xs,none⟩::os) s KS) (zj P os (s.put d (.val undef)) KS):=propext Iff.rfl
variable {d:Nat}
theorem Ad {x:Opd}:zj P (⟨some d,.mov,[x],none⟩::os) s KS=zj P os ⟨pt s.env d (ev s x),s.sto,s.out,s.base⟩ KS:=propext Iff.rfl
theorem Dc {c a b:Opd}:zj P (⟨some d,.pick,[c,a,b],none⟩::os) s KS=r6 (ev s c) (zj P os ⟨pt s.env d (ev s a),s.sto,s.out,s.base⟩ KS) (zj P os ⟨pt s.env d (ev s b),s.sto,s.out,s.base⟩ KS):=by
 show (match [ev s c,ev s a,ev s b] with | [.val (.bool t),a,b]=>(t=true→xl P os s (some d) KS a none)∧(t=false→xl P os s (some d) KS b none) | _=>False)=_
 unfold r6
 cases ev s c<;>try rfl
 rename_i v
 cases v<;>rfl
theorem JW {cells:List AV}:zj P (⟨some d,.alloc cells,[],none⟩::os) s KS=(lk s.sto (s.base+d)=none∧zj P os ⟨pt s.env d (.ptr (s.base+d) 0),pt s.sto (s.base+d) (.var cells),s.out,s.base⟩ KS):=propext Iff.rfl
def agP (x:Option AV) (P:Program) (os:List zi) (s:St) (d:Nat) (KS:St→Prop):Prop :=
 match x with
 | some v=>zj P os ⟨pt s.env d v,s.sto,s.out,s.base⟩ KS
 | none=>False
theorem J8 {v:AV}:agP (some v) P os s d KS=zj P os ⟨pt s.env d v,s.sto,s.out,s.base⟩ KS:=propext Iff.rfl
theorem B9 {d:Option Nat} {o:BinOp} {t:TypeId} {ox oy:Operand} {x y:Opd}:zj P (⟨d,.bin o t ox oy,[x,y],none⟩::os) s KS=yi P o t ox oy [ev s x,ev s y] (xl P os s d KS):=propext Iff.rfl
theorem E8 {d:Option Nat} {n:Option Nat} {x:Opd}:zj P (⟨d,.load n,[x],none⟩::os) s KS=n6 (lk s.sto) n [ev s x] (xl P os s d KS):=propext Iff.rfl
theorem Li {d:Option Nat} {n m:Nat} {x y:Opd}:zj P (⟨d,.iaddrA n m,[x,y],none⟩::os) s KS=qK n m [ev s x,ev s y] (xl P os s d KS):=propext Iff.rfl
theorem Lj {d:Option Nat} {n:Nat} {x y:Opd}:zj P (⟨d,.iaddrS n,[x,y],none⟩::os) s KS=qL n [ev s x,ev s y] (xl P os s d KS):=propext Iff.rfl
theorem J5 {d:Option Nat} {n:Nat} {a b c:Bool} {xs:List Opd}:zj P (⟨d,.slice n a b c,xs,none⟩::os) s KS=rP n a b c (xs.map (ev s)) (xl P os s d KS):=propext Iff.rfl
theorem abj {d:Option Nat} {n m:Nat} {z:List AV} {x y:Opd}:zj P (⟨d,.mk n m z,[x,y],none⟩::os) s KS=eMk n m z (s.base+d.getD 0) (lk s.sto) [ev s x,ev s y] (xl P os s d KS):=propext Iff.rfl
theorem Ab {d:Option Nat} {b:Bool} {x:Opd}:zj P (⟨d,.len b,[x],none⟩::os) s KS=nh b [ev s x] (xl P os s d KS):=propext Iff.rfl
theorem E5 {d:Option Nat} {f:FuncId} {xs:List Opd}:zj P (⟨d,.call f,xs,none⟩::os) s KS=xY P f (lk s.sto) (xs.map (ev s)) (xl P os s d KS):=propext Iff.rfl
theorem Ac {d:Nat} {f:FuncId} {xs:List Opd}:zj P (⟨some d,.mkb f,xs,none⟩::os) s KS=zj P os ⟨pt s.env d (.fn (.via 0 #[] f false) ((xs.map (ev s)).map strip)),s.sto,s.out,s.base⟩ KS:=propext Iff.rfl
theorem E9 {d:Nat} {f:FuncId} {xs:List Opd}:zj P (⟨some d,.mkfn f,xs,none⟩::os) s KS=zj P os ⟨pt s.env d (.fn (.func f) ((xs.map (ev s)).map strip)),s.sto,s.out,s.base⟩ KS:=propext Iff.rfl
theorem Da {d:Nat} {t:TypeId} {x:Opd}:zj P (⟨some d,.mkif t,[x],none⟩::os) s KS=(rf (ev s x)=true∧zj P os ⟨pt s.env d (.iface t (strip (ev s x))),s.sto,s.out,s.base⟩ KS):=propext Iff.rfl
def unA (P:Program) (op:UnOp):AV→Option AV
 | .val v=>(zr P (Op.unary op v)).map ofV
 | _=>none
def jq (P:Program) (a b:TypeId):AV→Option AV
 | .val v=>(zr P (convert a b v)).map ofV
 | .list _ _ rows=>match qZ rows with
  | some ns=>if bB P a b=true then some (.val (.string (strOfNums ns))) else none
  | none=>none
 | _=>none
def kE (off:Nat) (n:Option Nat):AV→Option AV
 | .agg cells=>vS cells off n
 | .raw cells=>zP cells off n
 | _=>none
def Ri (off:Nat):AV→Option AV
 | .ptr j o=>some (.ptr j (o+off))
 | .eptr j sz i o=>some (.eptr j sz i (o+off))
 | .up j sz i o=>some (.up j sz i (o+off))
 | .ro cells=>some (.ro (cells.drop off))
 | _=>none
def YD (i:Nat):AV→Option AV
 | .tuple vs=>vs[i]?
 | _=>none
def zK:AV→Option AV
 | .ptr j off=>some (.ptr j off)
 | .eptr j sz i off=>some (.eptr j sz i off)
 | .up j sz i off=>some (.up j sz i off)
 | .ro cells=>some (.ro cells)
 | .fn f caps=>some (.fn f caps)
 | _=>none
theorem abl {o:UnOp} {x:Opd}:zj P (⟨some d,.un o,[x],none⟩::os) s KS=agP (unA P o (ev s x)) P os s d KS:=by
 show zN P (s.base+d) (.un o) [ev s x] (lk s.sto) (xl P os s (some d) KS)=_
 simp only[zN]
 cases ev s x<;>try rfl
 rename_i v
 simp only[unA]
 cases zr P (Op.unary o v)<;>rfl
theorem E6 {a b:TypeId} {x:Opd}:zj P (⟨some d,.conv a b,[x],none⟩::os) s KS=agP (jq P a b (ev s x)) P os s d KS:=by
 show zN P (s.base+d) (.conv a b) [ev s x] (lk s.sto) (xl P os s (some d) KS)=_
 simp only[zN]
 cases ev s x<;>try rfl
 ·rename_i v
  simp only[jq]
  cases zr P (convert a b v)<;>rfl
 ·rename_i sz m rows
  simp only[jq]
  cases qZ rows with
  | none=>rfl
  | some ns =>
   by_cases h:bB P a b=true
   ·simp only[h,if_true,true_and]; rfl
   ·simp only[h,Bool.false_eq_true,if_false,false_and]; rfl
theorem J2 {off:Nat} {n:Option Nat} {x:Opd}:zj P (⟨some d,.field off n,[x],none⟩::os) s KS=agP (kE off n (ev s x)) P os s d KS:=by
 show zN P (s.base+d) (.field off n) [ev s x] (lk s.sto) (xl P os s (some d) KS)=_
 simp only[zN]
 cases ev s x<;>try rfl
 ·rename_i v
  simp only[kE]
  cases vS v off n<;>rfl
 ·rename_i v
  simp only[kE]
  cases zP v off n<;>rfl
theorem J1 {off:Nat} {x:Opd}:zj P (⟨some d,.faddr off,[x],none⟩::os) s KS=agP (Ri off (ev s x)) P os s d KS:=by
 show zN P (s.base+d) (.faddr off) [ev s x] (lk s.sto) (xl P os s (some d) KS)=_
 simp only[zN]
 cases ev s x<;>rfl
theorem PB {i:Nat} {x:Opd}:zj P (⟨some d,.extract i,[x],none⟩::os) s KS=agP (YD i (ev s x)) P os s d KS:=by
 show zN P (s.base+d) (.extract i) [ev s x] (lk s.sto) (xl P os s (some d) KS)=_
 simp only[zN]
 cases ev s x<;>try rfl
 rename_i v
 simp only[YD]
 cases v[i]?<;>rfl
theorem Lm {x:Opd}:zj P (⟨some d,.nilChk,[x],none⟩::os) s KS=agP (zK (ev s x)) P os s d KS:=by
 show zN P (s.base+d) .nilChk [ev s x] (lk s.sto) (xl P os s (some d) KS)=_
 simp only[zN]
 cases ev s x<;>rfl
theorem JX {z:List AV} {ps:List (Nat × Nat)} {xs:List Opd}:zj P (⟨some d,.build z ps,xs,none⟩::os) s KS=agP (orR (uj z ps (xs.map (ev s))) (v3 z ps (xs.map (ev s)))) P os s d KS:=by
 show zN P (s.base+d) (.build z ps) (xs.map (ev s)) (lk s.sto) (xl P os s (some d) KS)=_
 simp only[zN]
 cases orR (uj z ps (xs.map (ev s))) (v3 z ps (xs.map (ev s)))<;>rfl
def orL (sz:Nat):Option (List (List AV))→Option (List (List AV))→Option AV
 | some rows,_=>some (.list sz .full rows)
 | none,some rows=>some (.lit sz rows)
 | none,none=>none
@[congr] theorem adc {a a' b:Option (List AV)} (h:a=a'):orR a b=orR a' b:=by rw[h]
@[congr] theorem adb {sz:Nat} {a a' b:Option (List (List AV))} (h:a=a'):orL sz a b=orL sz a' b:=by rw[h]
theorem Dk {cs:List AV} {b:Option (List AV)}:orR (some cs) b=some (.agg cs):=by cases b<;>exact congrArg (fun x=>x) rfl
theorem Dj {b:Option (List AV)}:orR none b=b.map .raw:=by cases b<;>exact congrArg (fun x=>x) rfl
theorem Di {sz:Nat} {rows:List (List AV)} {b:Option (List (List AV))}:orL sz (some rows) b=some (.list sz .full rows):=by cases b<;>exact congrArg (fun x=>x) rfl
theorem Dh {sz:Nat} {b:Option (List (List AV))}:orL sz none b=b.map (.lit sz):=by cases b<;>exact congrArg (fun x=>x) rfl
theorem R6 {sz n:Nat} {z:List AV} {ps:List Nat} {xs:List Opd} (h1:z.length=sz) (h2:0<sz) :
  zj P (⟨some d,.mksliceL sz n z ps,xs,none⟩::os) s KS=agP ((xM sz (List.replicate n z) ps (xs.map (ev s))).map (.lit sz)) P os s d KS:=by
 show zN P (s.base+d) (.mksliceL sz n z ps) (xs.map (ev s)) (lk s.sto) (xl P os s (some d) KS)=_
 simp only[zN]
 cases xM sz (List.replicate n z) ps (xs.map (ev s)) with
 | none=>rfl
 | some rows=>simp only[h1,h2,true_and]; rfl
theorem J4:zj P (⟨some d,.mkmap,[],none⟩::os) s KS=(lk s.sto (s.base+d)=none∧zj P os ⟨pt s.env d (.mp (s.base+d)),pt s.sto (s.base+d) (.map #[] 0),s.out,s.base⟩ KS):=propext Iff.rfl
theorem Lk {d:Option Nat} {t:TypeId} {ok:Bool} {x y:Opd}:zj P (⟨d,.lookup t ok,[x,y],none⟩::os) s KS=rk P t ok (lk s.sto) [ev s x,ev s y] (xl P os s d KS):=propext Iff.rfl
theorem Ll {d:Option Nat} {t:TypeId} {x y z:Opd}:zj P (⟨d,.mapset t,[x,y,z],none⟩::os) s KS=qM P t s d (kP P os KS) [ev s x,ev s y,ev s z]:=propext Iff.rfl
theorem PC {sz n:Nat} {z:List AV} {ps:List Nat} {xs:List Opd} (h1:z.length=sz) (h2:0<sz) :
  zj P (⟨some d,.mkslice sz n z ps,xs,none⟩::os) s KS=agP (orL sz (vT sz (List.replicate n z) ps (xs.map (ev s))) (xM sz (List.replicate n z) ps (xs.map (ev s)))) P os s d KS:=by
 show zN P (s.base+d) (.mkslice sz n z ps) (xs.map (ev s)) (lk s.sto) (xl P os s (some d) KS)=_
 simp only[zN]
 cases vT sz (List.replicate n z) ps (xs.map (ev s)) with
 | none =>
  cases xM sz (List.replicate n z) ps (xs.map (ev s)) with
  | none=>rfl
  | some rows=>simp only[h1,h2,true_and]; rfl
 | some rows=>simp only[h1,h2,true_and]; rfl
def ZL (ras:List zE) (r:AV):Exit→St→Prop:=fun e s=>(e=.normal∨e=.ret)∧r9 ras s=some r
theorem Ds {ras:List zE} {r:AV}:ZL ras r .ret s=(r9 ras s=some r):=by simp[ZL]
theorem PK {ras:List zE} {r:AV}:ZL ras r .normal s=(r9 ras s=some r):=by simp[ZL]
theorem zG {f:FuncId} {ac:ze} {ras:List zE} {N:Nat} {args:List AV} {r:AV} (ht:zt P f=some (bare ac,ras,N)) (hn:args.length≤N)
  (h:awp P ac ⟨th 0 args,[],[],0⟩ (ZL ras r)):zc P f args r:=sound ht hn h
def eg (ras:List zE) (r:AV):Exit→St→Prop:=fun e s=>(e=.normal∨e=.ret)∧∃ r0,r9 ras s=some r0∧AV.imp r0 r
theorem ajN {ras:List zE} {r:AV}:eg ras r .ret s=∃ r0,r9 ras s=some r0∧AV.imp r0 r:=by simp[eg]
theorem PL {ras:List zE} {r:AV}:eg ras r .normal s=∃ r0,r9 ras s=some r0∧AV.imp r0 r:=by simp[eg]
theorem uN {f:FuncId} {ac:ze} {ras:List zE} {N:Nat} {args:List AV} {r:AV} (ht:zt P f=some (bare ac,ras,N)) (hn:args.length≤N)
  (h:awp P ac ⟨th 0 args,[],[],0⟩ (eg ras r)):zc P f args r:=GY (fun _ _ h=>h) ht hn h
def aaI (x:Option (List AV)) (P:Program) (os:List zi) (s:St) (d:Nat) (KS:St→Prop):Prop :=
 match x with
 | some cs=>lk s.sto (s.base+d)=none∧zj P os ⟨pt s.env d (.ptr (s.base+d) 0),pt s.sto (s.base+d) (.var cs),s.out,s.base⟩ KS
 | none=>False
theorem Ky {cs:List AV}:aaI (some cs) P os s d KS=(lk s.sto (s.base+d)=none∧zj P os ⟨pt s.env d (.ptr (s.base+d) 0),pt s.sto (s.base+d) (.var cs),s.out,s.base⟩ KS):=propext Iff.rfl
theorem Aa {x:Opd}:zj P (⟨some d,.box,[x],none⟩::os) s KS=aaI (cellsOf (ev s x)) P os s d KS:=propext Iff.rfl
theorem De {x:Option AV}:xI x (xl P os s (some d) KS)=agP x P os s d KS:=by cases x<;>rfl
theorem R7 {x:Option Value}:yX x (xl P os s (some d) KS)=agP (x.map ofV) P os s d KS:=by cases x<;>rfl
theorem Gg {v:AV}:xl P os s (some d) KS v none=zj P os ⟨pt s.env d v,s.sto,s.out,s.base⟩ KS:=propext Iff.rfl
theorem Lq {v:AV}:xl P os s none KS v none=zj P os s KS:=propext Iff.rfl
theorem Gh {v:AV} {e:zb}:xl P os s (some d) KS v (some e)=zj P os ⟨pt s.env d v,pt s.sto (s.base+d) e,s.out,s.base⟩ KS:=propext Iff.rfl
theorem J7 {n:Nat} {a b:Opd}:zj P (⟨none,.store n,[a,b],none⟩::os) s KS=pB n s none [ev s a,ev s b] (kP P os KS):=propext Iff.rfl
theorem PA {sz by_:Nat} {a b:Opd} {d:Option Nat}:zj P (⟨d,.appendU sz by_,[a,b],none⟩::os) s KS=yQ sz by_ s d (kP P os KS) [ev s a,ev s b]:=propext Iff.rfl
theorem JY {f:FuncId} {xs:List Opd} {d:Option Nat}:zj P (⟨d,.callI f,xs,none⟩::os) s KS=(yM P f=true∧uF P f (xs.map (ev s)) s d (kP P os KS)):=propext Iff.rfl
theorem Db {neg:Bool} {x:Opd} {d:Option Nat}:zj P (⟨d,.nilS neg,[x],none⟩::os) s KS=jt neg s d (kP P os KS) [ev s x]:=propext Iff.rfl
theorem MM {neg:Bool} {d:Option Nat} {sz:Nat} {m:Mode} {rows:List (List AV)} {K:St→Prop}:jt neg s d K [.list sz m rows]=((rows=[]→K (s.put d (bv true))∧K (s.put d (bv false)))∧(rows≠[]→K (s.put d (bv neg)))):=by
 simp only[jt,RX,List.length_eq_zero_iff,ne_eq]
theorem B8:kP P os KS s=zj P os s KS:=propext Iff.rfl
theorem Lh {sz by_:Nat} {a b:Opd} {d:Option Nat}:zj P (⟨d,.append sz by_,[a,b],none⟩::os) s KS=xH sz by_ s d (kP P os KS) [ev s a,ev s b]:=propext Iff.rfl
end
section
variable {P:Program} {t:TypeId} {ox oy:Operand} {k:IntKind} {a b:Int} {K:AV→Option zb→Prop}
theorem El:yi P .add t ox oy [.val (.int k a),.val (.int k b)] K=K (.val (.int k (k.wrap (a+b)))) none:=by
 simp[yi,toV,zr,eqGuard,binOp,Op.intArith,yX,ofV,xc,bind,Sem.bind,pure]
theorem Ev:yi P .sub t ox oy [.val (.int k a),.val (.int k b)] K=K (.val (.int k (k.wrap (a-b)))) none:=by
 simp[yi,toV,zr,eqGuard,binOp,Op.intArith,yX,ofV,xc,bind,Sem.bind,pure]
theorem Et:yi P .mul t ox oy [.val (.int k a),.val (.int k b)] K=K (.val (.int k (k.wrap (a*b)))) none:=by
 simp[yi,toV,zr,eqGuard,binOp,Op.intArith,yX,ofV,xc,bind,Sem.bind,pure]
theorem Es:yi P .lss t ox oy [.val (.int k a),.val (.int k b)] K=K (bv (decide (a<b))) none:=by
 simp[yi,toV,zr,eqGuard,binOp,Op.intCmp,yX,ofV,xc,bind,Sem.bind,pure]
theorem Er:yi P .leq t ox oy [.val (.int k a),.val (.int k b)] K=K (bv (decide (a≤b))) none:=by
 simp[yi,toV,zr,eqGuard,binOp,Op.intCmp,yX,ofV,xc,bind,Sem.bind,pure]
theorem Ep:yi P .gtr t ox oy [.val (.int k a),.val (.int k b)] K=K (bv (decide (b<a))) none:=by
 simp[yi,toV,zr,eqGuard,binOp,Op.intCmp,yX,ofV,xc,bind,Sem.bind,pure]
theorem Eo:yi P .geq t ox oy [.val (.int k a),.val (.int k b)] K=K (bv (decide (b≤a))) none:=by
 simp[yi,toV,zr,eqGuard,binOp,Op.intCmp,yX,ofV,xc,bind,Sem.bind,pure]
theorem En:yi P .eql t ox oy [.val (.int k a),.val (.int k b)] K=K (bv (decide (a=b))) none:=by
 simp[yi,toV,zr,eqGuard,binOp,Op.intCmp,yX,ofV,xc,bind,Sem.bind,pure]
 rfl
theorem Eu:yi P .neq t ox oy [.val (.int k a),.val (.int k b)] K=K (bv (decide (a≠b))) none:=by
 simp[yi,toV,zr,eqGuard,binOp,Op.intCmp,yX,ofV,xc,bind,Sem.bind,pure]
 rfl
theorem abV {c:Bool}:zr P (Op.unary .not (.bool c))=some (.bool !c):=by
 simp[zr,Op.unary,pure]
theorem wrap64 {n:Int} (h1:-9223372036854775808≤n) (h2:n≤9223372036854775807):IntKind.i64.wrap n=n:=IntWalk.i64_in n ⟨h1,h2⟩
end
theorem LW {cells:List AV} {off:Nat} {x:AV} (h:off<cells.length):splice cells off [x]=cells.set off x:=by
 unfold splice
 rw[List.set_eq_take_append_cons_drop,if_pos h]
 simp
theorem LV {cells cs:List AV} (h:cs.length=cells.length):splice cells 0 cs=cs:=by
 unfold splice
 simp[h]
theorem Kl (k:Nat) (l:List Int):wM k (l.map iv)=false:=by
 induction l with
 | nil=>rfl
 | cons x l ih=>simp[ih,wM,zT]
theorem QU:strip∘iv=iv:=rfl
theorem Th {l:List Int} {n:Nat} (h:l.length=n):zP (l.map iv) 0 (some n)=some (.agg (l.map iv)):=by
 have h1:(l.map iv).all rf=true:=by simp[rf]
 have h2:(l.map iv).map strip=l.map iv:=by simp[QU]
 simp only[zP,List.drop_zero]
 rw[List.take_of_length_le (by simp; omega),if_pos ⟨by simp; omega,h1⟩,h2]
theorem Pt (cells:List AV) (off:Nat):zP cells off none=cells[off]?:=by simp[zP]
section
variable {σ:Nat→Option zb}
theorem LR:wu σ .undef=some .undef:=rfl
theorem D6 {v:Value}:wu σ (.val v)=some (.val v):=rfl
theorem D3 {c:List AV}:wu σ (.agg c)=some (.agg c):=rfl
theorem LQ {c:List AV}:wu σ (.tuple c)=if c.all rf=true then some (.tuple (c.map strip)) else none:=rfl
theorem GW {sz:Nat} {m:Mode} {r:List (List AV)}:wu σ (.list sz m r)=some (strip (.list sz m r)):=rfl
theorem AO {c:List AV}:wu σ (.ro c)=some (.ro c):=rfl
theorem D5 {k off:Nat}:wu σ (.ptr k off)=(match σ k with
  | some (.var cells)=>if (cells.drop off).all rf=true then some (.ro ((cells.drop off).map strip)) else (yD (xK σ) (cells.drop off)).map .ro
  | _=>none):=rfl
theorem GS {v:Value}:xK σ (.val v)=some (.val v):=rfl
theorem GR {c:List AV}:xK σ (.agg c)=some (.agg c):=rfl
theorem LM {sz:Nat} {m:Mode} {r:List (List AV)}:xK σ (.list sz m r)=some (strip (.list sz m r)):=rfl
theorem DZ {c:List AV}:xK σ (.ro c)=some (.ro c):=rfl
theorem D1 {k sz off n:Nat}:xK σ (.us k sz off n)=(match σ k with
  | some (.uarr sz' rows)=>if sz'=sz∧off+n≤rows.length∧xB ((rows.drop off).take n)=true then some (.list sz .plain (zQ ((rows.drop off).take n))) else none
  | _=>none):=rfl
theorem D0 {k sz off n:Nat}:xK σ (.sl k sz off n)=(match σ k with
  | some (.arr sz' rows)=>if sz'=sz∧off+n≤rows.length then some (.list sz .plain ((rows.drop off).take n)) else none
  | _=>none):=rfl
theorem GV {k sz i off:Nat}:wu σ (.eptr k sz i off)=(match σ k with
  | some (.arr sz' rows)=>if sz'=sz then (rows[i]?).map fun r=>.ro (r.drop off) else none
  | _=>none):=rfl
theorem AP {k sz off n:Nat}:wu σ (.sl k sz off n)=(match σ k with
  | some (.arr sz' rows)=>if sz'=sz∧off+n≤rows.length then some (.list sz .plain ((rows.drop off).take n)) else none
  | _=>none):=rfl
theorem AR {k sz off n:Nat}:wu σ (.us k sz off n)=(match σ k with
  | some (.uarr sz' rows)=>if sz'=sz∧off+n≤rows.length∧xB ((rows.drop off).take n)=true then some (.list sz .plain (zQ ((rows.drop off).take n))) else none
  | _=>none):=rfl
theorem AQ {k sz i off:Nat}:wu σ (.up k sz i off)=(match σ k with
  | some (.uarr sz' rows)=>match rows[i]? with
   | some r=>if sz'=sz∧(r.drop off).all rf=true then some (.ro ((r.drop off).map strip)) else none
   | none=>none
  | _=>none):=rfl
theorem LO {t:TypeId} {x:AV}:wu σ (.iface t x)=some (.iface t x):=rfl
theorem AN {f:Fn} {caps:List AV}:wu σ (.fn f caps)=(yD (lg σ) caps).map (.fn f):=rfl
theorem GU {v:Value}:lg σ (.val v)=some (.val v):=rfl
theorem GT {c:List AV}:lg σ (.agg c)=some (.agg c):=rfl
theorem LN {sz:Nat} {m:Mode} {r:List (List AV)}:lg σ (.list sz m r)=some (strip (.list sz m r)):=rfl
theorem D2 {c:List AV}:lg σ (.ro c)=some (.ro c):=rfl
end
theorem PV:strip .undef=.undef:=rfl
theorem G5 {v:Value}:strip (.val v)=.val v:=rfl
theorem G3 {c:List AV}:strip (.agg c)=.agg c:=rfl
theorem PU {c:List AV}:strip (.tuple c)=.tuple c:=rfl
theorem Cd {c:List AV}:strip (.ro c)=.ro c:=rfl
theorem G4 {k o:Nat}:strip (.ptr k o)=.ptr k o:=rfl
theorem L9 {k sz i o:Nat}:strip (.eptr k sz i o)=.eptr k sz i o:=rfl
theorem Ce {k sz o n:Nat}:strip (.sl k sz o n)=.sl k sz o n:=rfl
theorem Cg {k sz o n:Nat}:strip (.us k sz o n)=.us k sz o n:=rfl
theorem Cf {k sz i o:Nat}:strip (.up k sz i o)=.up k sz i o:=rfl
theorem PT {t:TypeId} {x:AV}:strip (.iface t x)=.iface t x:=rfl
theorem Cc {f:Fn} {c:List AV}:strip (.fn f c)=.fn f c:=rfl
attribute [simp ↓ low] ME
attribute [simp ↓] MF Ph MZ Rv Rw Pu
theorem Ql {k:Nat}:zT k .undef=false:=rfl
theorem Ly {k:Nat} {v:Value}:zT k (.val v)=false:=rfl
theorem Lu {k:Nat} {c:List AV}:zT k (.agg c)=false:=rfl
theorem PH {k sz:Nat} {m:Mode} {r:List (List AV)}:zT k (.list sz m r)=false:=rfl
theorem Gm {k:Nat} {c:List AV}:zT k (.ro c)=false:=rfl
theorem Qj {k:Nat} {t:TypeId} {x:AV}:zT k (.iface t x)=false:=rfl
theorem Lw {k j o:Nat}:zT k (.ptr j o)=(j == k):=rfl
theorem PG {k j a b c:Nat}:zT k (.eptr j a b c)=(j == k):=rfl
theorem Gn {k j a b c:Nat}:zT k (.sl j a b c)=(j == k):=rfl
theorem Gq {k j a b c:Nat}:zT k (.us j a b c)=(j == k):=rfl
theorem Gp {k j a b c:Nat}:zT k (.up j a b c)=(j == k):=rfl
theorem Gk {k:Nat} {f:Fn} {c:List AV}:zT k (.fn f c)=c.any (vR k):=rfl
theorem Qk {k:Nat} {c:List AV}:zT k (.tuple c)=c.any (vR k):=rfl
theorem Dw:rf .undef=true:=rfl
theorem abw {v:Value}:rf (.val v)=true:=rfl
theorem abs {c:List AV}:rf (.agg c)=true:=rfl
theorem AA {sz:Nat} {m:Mode} {r:List (List AV)}:rf (.list sz m r)=true:=rfl
theorem acH {c:List AV}:rf (.ro c)=true:=rfl
theorem Du {t:TypeId} {x:AV}:rf (.iface t x)=true:=rfl
theorem abu {j o:Nat}:rf (.ptr j o)=false:=rfl
theorem Az {j a b c:Nat}:rf (.eptr j a b c)=false:=rfl
theorem acI {j a b c:Nat}:rf (.sl j a b c)=false:=rfl
theorem acK {j a b c:Nat}:rf (.us j a b c)=false:=rfl
theorem acJ {j a b c:Nat}:rf (.up j a b c)=false:=rfl
theorem acF {f:Fn} {c:List AV}:rf (.fn f c)=false:=rfl
theorem Dv {c:List AV}:rf (.tuple c)=false:=rfl
theorem acG {k:Nat}:rf (.mp k)=false:=rfl
theorem abt {n:Nat} {c:List (List AV)}:rf (.lit n c)=false:=rfl
theorem abv {c:List AV}:rf (.raw c)=false:=rfl
theorem Gl {j k:Nat}:zT k (.mp j)=(j == k):=rfl
theorem Lv {k n:Nat} {rows:List (List AV)}:zT k (.lit n rows)=rows.any fun r=>r.any (ZK k):=rfl
theorem Lx {k:Nat} {c:List AV}:zT k (.raw c)=c.any (ZK k):=rfl
attribute [simp] acG abt abv Gl Lv Lx ZK Ss
attribute [simp] Ql Ly Lu PH Gm Qj Lw PG Gn Gq Gp Gk Qk vR Dw abw abs AA acH Du abu Az acI acK acJ acF Dv
attribute [simp] FM Gz Pc
attribute [simp] FN Mv C5 FJ Ks FL C4 As Ey NA PO Gy DL TR Pb Mx Pq Ae J3 Ad Dc JW Ky Aa B9 E8 Li Lj J5 abj Ab E5 E9 Ac Da abl E6 J2 J1 PB Lm JX PC R6 J4 Lk Ll Dk Dj Di Dh Ds PK ajN PL J8 De R7 Gg Lq Gh J7 B8 Lh Db MM PA JY El Ev Et Es Er Ep Eo En Eu Kl QU n6 qK qL nh nZ pB adr adq aa9 lk pt del Th Pt cellsOf th r9 yD Uw LR D6 D3 LQ GW AO D5 GV AP AN GU LN GT D2 GS GR LM DZ D1 D0 PV G5 G3 PU Cd G4 L9 Ce Cc AR AQ LO Cg Cf PT St.unmet mE uI zb.isU rz xk pI wM yN nK unA abV kE Ri YD zK single Value.oneCell' List.getElem?_eq_getElem
def xW (P:Program) (os:List zi) (s:St) (d:Nat) (KS:St→Prop):AV→Option zb→Prop:=fun x e=>lk s.env d=some x∧lk s.sto (s.base+d)=e∧zj P os s KS
def qn (x:Option AV) (P:Program) (os:List zi) (s:St) (d:Nat) (KS:St→Prop):Prop :=
 match x with
 | some v=>lk s.env d=some v∧lk s.sto (s.base+d)=none∧zj P os s KS
 | none=>False
def aaL (x:Option (List AV)) (P:Program) (os:List zi) (s:St) (d:Nat) (KS:St→Prop):Prop :=
 match x with
 | some cs=>lk (del [s.base+d] s.sto) (s.base+d)=none∧lk s.env d=some (.ptr (s.base+d) 0)∧lk s.sto (s.base+d)=some (.var cs)∧zj P os s KS
 | none=>False
section
variable {P:Program} {s:St} {KS:St→Prop} {os:List zi} {d:Nat}
theorem Bc {x:AV} {e:Option zb}:xW P os s d KS x e=(lk s.env d=some x∧lk s.sto (s.base+d)=e∧zj P os s KS):=propext Iff.rfl
theorem KE {x:AV}:qn (some x) P os s d KS=(lk s.env d=some x∧lk s.sto (s.base+d)=none∧zj P os s KS):=propext Iff.rfl
theorem KC {cs:List AV}:aaL (some cs) P os s d KS=(lk (del [s.base+d] s.sto) (s.base+d)=none∧lk s.env d=some (.ptr (s.base+d) 0)∧lk s.sto (s.base+d)=some (.var cs)∧zj P os s KS):=propext Iff.rfl
theorem Dd {x:Option AV}:xI x (xW P os s d KS)=qn x P os s d KS:=by cases x<;>rfl
theorem Df {x:Option Value}:yX x (xW P os s d KS)=qn (x.map ofV) P os s d KS:=by cases x<;>rfl
theorem J6 {ds:List Nat}:zj P (⟨none,.start ds,[],none⟩::os) s KS=(sE s.sto s.base ds∧zj P os ⟨del ds s.env,s.sto,s.out,s.base⟩ KS):=propext Iff.rfl
def CS (P:Program) (os:List zi) (s:St) (d:Nat) (KS:St→Prop):Prop:=lk s.env d=some (.val undef)∧lk s.sto (s.base+d)=none∧zj P os s KS
theorem KJ {op:AOp} {g:Nat} {b:Bool} {xs:List Opd}:zj P (⟨some d,.chkG op g b,xs,none⟩::os) s KS=sG (s.get g) b (zj P (⟨some d,.chk op,xs,none⟩::os) s KS) (CS P os s d KS):=propext Iff.rfl
theorem DI:CS P os s d KS=(lk s.env d=some (.val undef)∧lk s.sto (s.base+d)=none∧zj P os s KS):=propext Iff.rfl
theorem Bh {x:Opd}:zj P (⟨some d,.chk .mov,[x],none⟩::os) s KS=xW P os s d KS (ev s x) none:=propext Iff.rfl
theorem F2 {c a b:Opd}:zj P (⟨some d,.chk .pick,[c,a,b],none⟩::os) s KS=r6 (ev s c) (xW P os s d KS (ev s a) none) (xW P os s d KS (ev s b) none):=by
 show (match [ev s c,ev s a,ev s b] with | [.val (.bool t),a,b]=>(t=true→xW P os s d KS a none)∧(t=false→xW P os s d KS b none) | _=>False)=_
 unfold r6
 cases ev s c<;>try rfl
 rename_i v
 cases v<;>rfl
theorem KF {cells:List AV}:zj P (⟨some d,.chk (.alloc cells),[],none⟩::os) s KS=(lk (del [s.base+d] s.sto) (s.base+d)=none∧xW P os s d KS (.ptr (s.base+d) 0) (some (.var cells))):=propext Iff.rfl
theorem Be {x:Opd}:zj P (⟨some d,.chk .box,[x],none⟩::os) s KS=aaL (cellsOf (ev s x)) P os s d KS:=by
 show zN P (s.base+d) .box [ev s x] (lk (del [s.base+d] s.sto)) (xW P os s d KS)=_
 simp only[zN]
 cases cellsOf (ev s x)<;>rfl
theorem Bd {o:BinOp} {t:TypeId} {ox oy:Operand} {x y:Opd}:zj P (⟨some d,.chk (.bin o t ox oy),[x,y],none⟩::os) s KS=yi P o t ox oy [ev s x,ev s y] (xW P os s d KS):=propext Iff.rfl
theorem F0 {n:Option Nat} {x:Opd}:zj P (⟨some d,.chk (.load n),[x],none⟩::os) s KS=n6 (lk (del [s.base+d] s.sto)) n [ev s x] (xW P os s d KS):=propext Iff.rfl
theorem Mz {n m:Nat} {x y:Opd}:zj P (⟨some d,.chk (.iaddrA n m),[x,y],none⟩::os) s KS=qK n m [ev s x,ev s y] (xW P os s d KS):=propext Iff.rfl
theorem MA {n:Nat} {x y:Opd}:zj P (⟨some d,.chk (.iaddrS n),[x,y],none⟩::os) s KS=qL n [ev s x,ev s y] (xW P os s d KS):=propext Iff.rfl
theorem KK {n:Nat} {a b c:Bool} {xs:List Opd}:zj P (⟨some d,.chk (.slice n a b c),xs,none⟩::os) s KS=rP n a b c (xs.map (ev s)) (xW P os s d KS):=propext Iff.rfl
theorem Bf {b:Bool} {x:Opd}:zj P (⟨some d,.chk (.len b),[x],none⟩::os) s KS=nh b [ev s x] (xW P os s d KS):=propext Iff.rfl
theorem FY {f:FuncId} {xs:List Opd}:zj P (⟨some d,.chk (.call f),xs,none⟩::os) s KS=xY P f (lk (del [s.base+d] s.sto)) (xs.map (ev s)) (xW P os s d KS):=propext Iff.rfl
theorem Bg {f:FuncId} {xs:List Opd}:zj P (⟨some d,.chk (.mkb f),xs,none⟩::os) s KS=xW P os s d KS (.fn (.via 0 #[] f false) ((xs.map (ev s)).map strip)) none:=propext Iff.rfl
theorem F1 {f:FuncId} {xs:List Opd}:zj P (⟨some d,.chk (.mkfn f),xs,none⟩::os) s KS=xW P os s d KS (.fn (.func f) ((xs.map (ev s)).map strip)) none:=propext Iff.rfl
theorem aaN {o:UnOp} {x:Opd}:zj P (⟨some d,.chk (.un o),[x],none⟩::os) s KS=qn (unA P o (ev s x)) P os s d KS:=by
 show zN P (s.base+d) (.un o) [ev s x] (lk (del [s.base+d] s.sto)) (xW P os s d KS)=_
 simp only[zN]
 cases ev s x<;>try rfl
 rename_i v
 simp only[unA]
 cases zr P (Op.unary o v)<;>rfl
theorem FZ {a b:TypeId} {x:Opd}:zj P (⟨some d,.chk (.conv a b),[x],none⟩::os) s KS=qn (jq P a b (ev s x)) P os s d KS:=by
 show zN P (s.base+d) (.conv a b) [ev s x] (lk (del [s.base+d] s.sto)) (xW P os s d KS)=_
 simp only[zN]
 cases ev s x<;>try rfl
 ·rename_i v
  simp only[jq]
  cases zr P (convert a b v)<;>rfl
 ·rename_i sz m rows
  simp only[jq]
  cases qZ rows with
  | none=>rfl
  | some ns =>
   by_cases h:bB P a b=true
   ·simp only[h,if_true,true_and]; rfl
   ·simp only[h,Bool.false_eq_true,if_false,false_and]; rfl
theorem KI {off:Nat} {n:Option Nat} {x:Opd}:zj P (⟨some d,.chk (.field off n),[x],none⟩::os) s KS=qn (kE off n (ev s x)) P os s d KS:=by
 show zN P (s.base+d) (.field off n) [ev s x] (lk (del [s.base+d] s.sto)) (xW P os s d KS)=_
 simp only[zN]
 cases ev s x<;>try rfl
 ·rename_i v
  simp only[kE]
  cases vS v off n<;>rfl
 ·rename_i v
  simp only[kE]
  cases zP v off n<;>rfl
theorem KH {off:Nat} {x:Opd}:zj P (⟨some d,.chk (.faddr off),[x],none⟩::os) s KS=qn (Ri off (ev s x)) P os s d KS:=by
 show zN P (s.base+d) (.faddr off) [ev s x] (lk (del [s.base+d] s.sto)) (xW P os s d KS)=_
 simp only[zN]
 cases ev s x<;>rfl
theorem Pe {i:Nat} {x:Opd}:zj P (⟨some d,.chk (.extract i),[x],none⟩::os) s KS=qn (YD i (ev s x)) P os s d KS:=by
 show zN P (s.base+d) (.extract i) [ev s x] (lk (del [s.base+d] s.sto)) (xW P os s d KS)=_
 simp only[zN]
 cases ev s x<;>try rfl
 rename_i v
 simp only[YD]
 cases v[i]?<;>rfl
theorem MD {x:Opd}:zj P (⟨some d,.chk .nilChk,[x],none⟩::os) s KS=qn (zK (ev s x)) P os s d KS:=by
 show zN P (s.base+d) .nilChk [ev s x] (lk (del [s.base+d] s.sto)) (xW P os s d KS)=_
 simp only[zN]
 cases ev s x<;>rfl
theorem KG {z:List AV} {ps:List (Nat × Nat)} {xs:List Opd}:zj P (⟨some d,.chk (.build z ps),xs,none⟩::os) s KS=qn (orR (uj z ps (xs.map (ev s))) (v3 z ps (xs.map (ev s)))) P os s d KS:=by
 show zN P (s.base+d) (.build z ps) (xs.map (ev s)) (lk (del [s.base+d] s.sto)) (xW P os s d KS)=_
 simp only[zN]
 cases orR (uj z ps (xs.map (ev s))) (v3 z ps (xs.map (ev s)))<;>rfl
theorem S1 {sz n:Nat} {z:List AV} {ps:List Nat} {xs:List Opd} (h1:z.length=sz) (h2:0<sz) :
  zj P (⟨some d,.chk (.mksliceL sz n z ps),xs,none⟩::os) s KS=qn ((xM sz (List.replicate n z) ps (xs.map (ev s))).map (.lit sz)) P os s d KS:=by
 show zN P (s.base+d) (.mksliceL sz n z ps) (xs.map (ev s)) (lk (del [s.base+d] s.sto)) (xW P os s d KS)=_
 simp only[zN]
 cases xM sz (List.replicate n z) ps (xs.map (ev s))<;>simp[qn,h1,h2,xW]
theorem MC {t:TypeId} {ok:Bool} {x y:Opd}:zj P (⟨some d,.chk (.lookup t ok),[x,y],none⟩::os) s KS=rk P t ok (lk (del [s.base+d] s.sto)) [ev s x,ev s y] (xW P os s d KS):=propext Iff.rfl
theorem Pf {sz n:Nat} {z:List AV} {ps:List Nat} {xs:List Opd} (h1:z.length=sz) (h2:0<sz) :
  zj P (⟨some d,.chk (.mkslice sz n z ps),xs,none⟩::os) s KS=qn (orL sz (vT sz (List.replicate n z) ps (xs.map (ev s))) (xM sz (List.replicate n z) ps (xs.map (ev s)))) P os s d KS:=by
 show zN P (s.base+d) (.mkslice sz n z ps) (xs.map (ev s)) (lk (del [s.base+d] s.sto)) (xW P os s d KS)=_
 simp only[zN]
 cases vT sz (List.replicate n z) ps (xs.map (ev s)) with
 | none=>cases xM sz (List.replicate n z) ps (xs.map (ev s))<;>simp[qn,h1,h2,xW,orL]
 | some rows=>simp[qn,h1,h2,xW,orL]
end
attribute [simp] Bc KJ DI KE KC Dd Df J6 sE Bh F2 KF Be Bd F0 Mz MA KK Bf FY F1 Bg aaN FZ KI KH Pe MD KG Pf S1 MC
theorem zZ {α β:Type} (P:Program) (s:Sem α) (f:α→Sem β):zr P (s >>= f)=(zr P s).bind fun a=>zr P (f a):=by
 induction s with
 | pure a=>simp[bind,Sem.bind,zr]
 | program k ih=>simp only[bind,Sem.bind,zr] at *; exact ih P
 | _=>rfl
theorem yb {α:Type} (P:Program) (a:α):zr P (pure a:Sem α)=some a:=rfl
theorem yV {P:Program} {t:TypeId}:zr P (underlying t)=P.underlying t:=by
 simp only[underlying,zZ]
 simp only[program,zr]
 simp only[Option.bind]
 cases P.underlying t<;>rfl
theorem TX {P:Program} {t:TypeId}:zr P (typeInfo t)=P.info? t:=by
 simp only[typeInfo,zZ]
 simp only[program,zr]
 simp only[Option.bind]
 cases P.info? t<;>rfl
theorem aQ {P:Program} {t:TypeId}:zr P (sizeOf t)=szT P t:=by
 simp only[sizeOf,zZ,TX,szT]
 cases P.info? t<;>rfl
theorem Lp {P:Program} {t:TypeId} {d:TypeDesc} (h:P.underlying t=some d):zr P (isAgg t)=some (agT P t):=by
 simp only[isAgg,zZ,yV,h,Option.bind,agT]
 cases d<;>rfl
inductive Kd where
 | b
 | i (k:IntKind)
 | s
def Kd.fit:Kd→Value→Bool
 | .b,.bool _=>true
 | .i k,.int k' _=>decide (k=k')
 | .s,.string _=>true
 | _,_=>false
def uG:List Kd→List Value→Bool
 | [],[]=>true
 | k::ks,v::vs=>k.fit v&&uG ks vs
 | _,_=>false
def eq1:Value→Value→Bool
 | .bool a,.bool b=>a == b
 | .int _ a,.int _ b=>a == b
 | .string a,.string b=>a == b
 | _,_=>false
def eqL:List Value→List Value→Bool
 | [],[]=>true
 | x::xs,y::ys=>eq1 x y&&eqL xs ys
 | _,_=>false
def Ue (P:Program) (kd:TypeId→Option (List Kd)):Nat→List Field→Option (List Kd)
 | _,[]=>some []
 | off,f::fs =>
  if f.name = "_" ∨ f.offset ≠ off then none
  else
   match kd f.type with
   | some ks=>if szT P f.type=some ks.length then (Ue P kd (off+ks.length) fs).map (ks++·) else none
   | none=>none
def kds (P:Program):Nat→TypeId→Option (List Kd)
 | 0,_=>none
 | d+1,t =>
  match P.underlying t with
  | some .bool=>some [.b]
  | some (.int k)=>some [.i k]
  | some .string=>some [.s]
  | some (.array n e) =>
   match kds P d e with
   | some ks=>if szT P e=some ks.length then some (List.replicate n ks).flatten else none
   | none=>none
  | some (.struct fs)=>if P.stoodInHeld t=true then none else Ue P (kds P d) 0 fs.toList
  | _=>none
theorem Zo:∀ {ks:List Kd} {xs:List Value},uG ks xs=true→xs.length=ks.length
 | [],[],_=>rfl
 | [],_::_,h=>by cases h
 | _::_,[],h=>by cases h
 | k::ks,x::xs,h=>by simp only[uG,Bool.and_eq_true] at h; simp[Zo h.2]
theorem kF:∀ {ks ls:List Kd} {xs:List Value},uG (ks++ls) xs=true→uG ks (xs.take ks.length)=true∧uG ls (xs.drop ks.length)=true
 | [],_,_,h=>by simpa [uG] using h
 | k::ks,ls,[],h=>by cases h
 | k::ks,ls,x::xs,h=>by
  simp only[List.cons_append,uG,Bool.and_eq_true] at h
  have:=kF h.2
  simp[uG,h.1,this.1,this.2]
theorem X4:∀ {n:Nat} {xs ys:List Value},xs.length=ys.length→eqL xs ys=(eqL (xs.take n) (ys.take n)&&eqL (xs.drop n) (ys.drop n))
 | 0,_,_,_=>by simp[eqL]
 | _+1,[],[],_=>by simp[eqL]
 | _+1,[],_::_,h=>by cases h
 | _+1,_::_,[],h=>by cases h
 | n+1,x::xs,y::ys,h=>by
  simp only[List.length_cons,Nat.add_right_cancel_iff] at h
  simp only[eqL,List.take_succ_cons,List.drop_succ_cons,Bool.and_assoc]
  rw[X4 (n:=n) h]
def valOf (P:Program) (t:TypeId) (xs:List Value):Value:=if agT P t=true then .agg xs.toArray else xs.headD undef
theorem BK {P:Program} {d:Nat} {t:TypeId} {ks:List Kd} (h:kds P d t=some ks):(∃ u,P.underlying t=some u)∧(agT P t=false→ks.length=1):=by
 cases d with
 | zero=>cases h
 | succ d =>
  simp only[kds] at h
  split at h<;>rename_i hu
  ·exact ⟨⟨_,hu⟩,fun _=>by cases h; rfl⟩
  ·exact ⟨⟨_,hu⟩,fun _=>by cases h; rfl⟩
  ·exact ⟨⟨_,hu⟩,fun _=>by cases h; rfl⟩
  ·exact ⟨⟨_,hu⟩,fun ha=>by simp[agT,hu] at ha⟩
  ·exact ⟨⟨_,hu⟩,fun ha=>by simp[agT,hu] at ha⟩
  ·cases h
theorem jC {P:Program} {d:Nat} {t:TypeId} {ks:List Kd} {xs:List Value} {off:Nat} (h:kds P d t=some ks) (hz:szT P t=some ks.length)
  (hl:off+ks.length≤xs.length):zr P (part t xs.toArray off)=some (valOf P t ((xs.drop off).take ks.length)):=by
 obtain ⟨⟨u,hu⟩,h1⟩:=BK h
 simp only[part,zZ,Lp hu,Option.bind_some]
 by_cases ha:agT P t=true
 ·simp only[ha,if_true,zZ,aQ,hz,Option.bind_some,yb,valOf]
  congr 2
  apply Array.ext'
  simp
 ·have h2:=h1 (by simpa using ha)
  rw[if_neg ha]
  have h3:off<xs.length:=by omega
  simp only[List.getElem?_toArray,List.getElem?_eq_getElem h3,yb,valOf,if_neg ha,h2]
  rw[List.drop_eq_getElem_cons h3]
  rfl
theorem Tx {P:Program} {α:Type} (f:α→Sem Bool):∀ (l:List α) (g:List α→Bool),g []=true→(∀ a m,(∃ h,h++a::m=l)→∃ b,zr P (f a)=some b∧g (a::m)=(b&&g m)) →
  zr P (forIn l ((none,()):Option Bool × Unit) fun a _=>do
   let b ← f a
   if (!b)=true then pure (ForInStep.done (some false,())) else pure (ForInStep.yield (none,())))=some (if g l=true then (none,()) else (some false,()))
 | [],g,h0,_=>by simp[h0,yb]
 | a::l,g,h0,h=>by
  obtain ⟨b,hb,hg⟩:=h a l ⟨[],rfl⟩
  have ih:=Tx f l g h0 (fun x m ⟨p,hp⟩=>h x m ⟨a::p,by simp[hp]⟩)
  rw[List.forIn_cons]
  simp only[zZ,hb,Option.bind_some]
  cases b with
  | false=>simp[hg,yb]
  | true =>
   simp only[hg,Bool.true_and,Bool.not_true,Bool.false_eq_true,if_false,yb,Option.bind_some]
   exact ih
theorem abr {n:Nat} {α:Type} {l:List α}:(List.replicate n l).flatten.length=n*l.length:=by
 induction n with
 | zero=>simp
 | succ n ih=>simp[List.replicate_succ,ih,Nat.succ_mul,Nat.add_comm]
theorem NK {P:Program} {d:Nat}:∀ {fs:List Field} {off:Nat} {ks:List Kd} {xs ys:List Value},Ue P (kds P d) off fs=some ks→xs.length=off+ks.length→ys.length=off+ks.length →
  uG ks (xs.drop off)=true→uG ks (ys.drop off)=true →
  (∀ (t:TypeId) (ks:List Kd) (xs ys:List Value),kds P d t=some ks→uG ks xs=true→uG ks ys=true→zr P (Op.equalIn d t (valOf P t xs) (valOf P t ys))=some (eqL xs ys)) →
  zr P (forIn fs ((none,()):Option Bool × Unit) fun f _ =>
   if f.name ≠ "_" then do
    let x ← part f.type xs.toArray f.offset
    let y ← part f.type ys.toArray f.offset
    let b ← Op.equalIn d f.type x y
    if (!b)=true then pure (ForInStep.done (some false,())) else pure (ForInStep.yield (none,()))
   else pure (ForInStep.yield (none,())))=some (if eqL (xs.drop off) (ys.drop off)=true then (none,()) else (some false,()))
 | [],off,ks,xs,ys,h,hx,hy,_,_,_=>by
  simp only[Ue,Option.some.injEq] at h
  subst h
  simp only[List.length_nil,Nat.add_zero] at hx hy
  rw[List.drop_of_length_le (by omega),List.drop_of_length_le (by omega)]
  simp[yb,eqL]
 | f::fs,off,ks,xs,ys,h,hx,hy,h1,h2,IH=>by
  simp only[Ue] at h
  split at h
  ·cases h
  rename_i hn
  simp only[not_or,Decidable.not_not,ne_eq] at hn
  split at h
  rotate_left
  ·cases h
  rename_i ls hk
  split at h
  rotate_left
  ·cases h
  rename_i hz
  cases hr:Ue P (kds P d) (off+ls.length) fs with
  | none=>simp[hr] at h
  | some ms =>
   simp only[hr,Option.map_some,Option.some.injEq] at h
   subst h
   simp only[List.length_append] at hx hy
   have a1:=kF h1
   have a2:=kF h2
   rw[List.drop_drop] at a1 a2
   have ih:=NK hr (xs:=xs) (ys:=ys) (by omega) (by omega) a1.2 a2.2 IH
   rw[List.forIn_cons]
   have p1:=jC (xs:=xs) (off:=off) hk hz (by omega)
   have p2:=jC (xs:=ys) (off:=off) hk hz (by omega)
   have p3:=IH _ _ _ _ hk a1.1 a2.1
   rw[if_pos hn.1,hn.2]
   simp only[zZ,p1,p2,p3,Option.bind_some]
   rw[X4 (n:=ls.length) (xs:=xs.drop off) (ys:=ys.drop off) (by simp; omega),List.drop_drop,List.drop_drop]
   cases eqL ((xs.drop off).take ls.length) ((ys.drop off).take ls.length) with
   | false=>simp[yb]
   | true =>
    simp only[Bool.true_and,Bool.not_true,Bool.false_eq_true,if_false,yb,Option.bind_some]
    exact ih
theorem fE {ls:List Kd}:∀ {n:Nat} {xs:List Value} {a:Nat},uG (List.replicate n ls).flatten xs=true→a<n→uG ls ((xs.drop (a*ls.length)).take ls.length)=true
 | 0,_,_,_,h=>by omega
 | n+1,xs,0,h,_=>by
  simp only[List.replicate_succ,List.flatten_cons] at h
  simpa using (kF h).1
 | n+1,xs,a+1,h,ha=>by
  simp only[List.replicate_succ,List.flatten_cons] at h
  have:=fE (kF h).2 (a:=a) (by omega)
  rw[List.drop_drop] at this
  rw[Nat.succ_mul,Nat.add_comm (a*ls.length)]
  exact this
theorem kS {P:Program}:∀ (d:Nat) (t:TypeId) (ks:List Kd) (xs ys:List Value),kds P d t=some ks→uG ks xs=true→uG ks ys=true →
  zr P (Op.equalIn d t (valOf P t xs) (valOf P t ys))=some (eqL xs ys)
 | 0,_,_,_,_,h,_,_=>by cases h
 | d+1,t,ks,xs,ys,h,hx,hy=>by
  have lx:=Zo hx
  have ly:=Zo hy
  simp only[kds] at h
  split at h<;>rename_i hu
  ·cases h
   match xs,ys,hx,hy with
   | [.bool a],[.bool b],_,_=>simp[valOf,agT,hu,Op.equalIn,zZ,yV,yb,eqL,eq1]
  ·cases h
   match xs,ys,hx,hy with
   | [.int k a],[.int k' b],hx,hy =>
    simp only[uG,Kd.fit,decide_eq_true_eq,Bool.and_true] at hx hy
    subst hx; subst hy
    simp[valOf,agT,hu,Op.equalIn,zZ,yV,yb,eqL,eq1]
  ·cases h
   match xs,ys,hx,hy with
   | [.string a],[.string b],_,_=>simp[valOf,agT,hu,Op.equalIn,zZ,yV,yb,eqL,eq1]
  ·rename_i n e
   split at h
   rotate_left
   ·cases h
   rename_i ls hk
   split at h
   rotate_left
   ·cases h
   rename_i hz
   cases h
   rw[abr] at lx ly
   simp only[valOf,agT,hu,if_true,Op.equalIn,zZ,yV,Option.bind_some,aQ,hz]
   have hloop:=Tx (P:=P) (fun i=>do
     let x ← part e xs.toArray (i*ls.length)
     let y ← part e ys.toArray (i*ls.length)
     Op.equalIn d e x y) (List.range' 0 n) (fun m=>eqL (xs.drop ((n-m.length)*ls.length)) (ys.drop ((n-m.length)*ls.length)))
    (by
     simp only[List.length_nil,Nat.sub_zero]
     rw[List.drop_of_length_le (by omega),List.drop_of_length_le (by omega)]; rfl)
    (by
     rintro a m ⟨p,hp⟩
     have hlen:p.length+(m.length+1)=n:=by
      have:=congrArg List.length hp
      simpa using this
     have ha:a=p.length:=by
      have:=congrArg (·[p.length]?) hp
      simp only[List.getElem?_append_right (Nat.le_refl _),Nat.sub_self,List.getElem?_cons_zero] at this
      rw[List.getElem?_range' (by omega)] at this
      simpa using this
     have hmul:a*ls.length+ls.length≤n*ls.length:=by
      rw[← Nat.succ_mul]; exact Nat.mul_le_mul_right _ (by omega)
     have e1:n-(a::m).length=a:=by simp only[List.length_cons]; omega
     have e2:(n-m.length)*ls.length=a*ls.length+ls.length:=by
      have:n-m.length=a+1:=by omega
      rw[this,Nat.succ_mul]
     have f1:=fE hx (a:=a) (by omega)
     have f2:=fE hy (a:=a) (by omega)
     have p1:=jC (xs:=xs) (off:=a*ls.length) hk hz (by omega)
     have p2:=jC (xs:=ys) (off:=a*ls.length) hk hz (by omega)
     refine ⟨_,by simp only[zZ,p1,p2,Option.bind_some]; exact kS d _ _ _ _ hk f1 f2,?_⟩
     simp only[e1,e2]
     rw[X4 (n:=ls.length) (by simp; omega),List.drop_drop,List.drop_drop])
   simp only[List.length_range',Nat.sub_self,Nat.zero_mul,List.drop_zero] at hloop
   simp only[bind_assoc] at hloop
   rw[Std.Legacy.Range.forIn_eq_forIn_range']
   simp only[Std.Legacy.Range.size,Nat.sub_zero,Nat.add_sub_cancel,Nat.div_one] at hloop ⊢
   rw[hloop]
   cases eqL xs ys<;>simp[yb]
  ·rename_i fs
   split at h
   ·cases h
   rename_i hs
   simp only[valOf,agT,hu,if_true,Op.equalIn,zZ,yV,Option.bind_some]
   simp only[program,zr,Option.bind_some,hs]
   have:=NK (xs:=xs) (ys:=ys) h (by omega) (by omega) (by simpa using hx) (by simpa using hy) (kS d)
   simp only[Bool.false_eq_true,if_false]
   rw[← Array.forIn_toList,zZ,this]
   simp only[List.drop_zero,Option.bind_some]
   cases eqL xs ys<;>rfl
  ·cases h
def RA (n:Nat) (l:List AV):Bool:=decide (l.length=n)&&l.all fun | .val (.int .i64 _)=>true | _=>false
def Sn:List AV→List Int
 | .val (.int _ x)::r=>x::Sn r
 | _=>[]
theorem Jr (l:List Int):Sn (l.map iv)=l:=by
 induction l with
 | nil=>rfl
 | cons x l ih=>simp[Sn,ih]
theorem M2 (n:Nat) (l:List Int):RA n (l.map iv)=decide (l.length=n):=by simp[RA]
theorem Ud:∀ {l:List AV},(l.all fun | .val (.int .i64 _)=>true | _=>false)=true→∃ xs:List Int,l=xs.map iv
 | [],_=>⟨[],rfl⟩
 | x::l,h=>by
  simp only[List.all_cons,Bool.and_eq_true] at h
  obtain ⟨xs,rfl⟩:=Ud h.2
  match x,h.1 with
  | .val (.int .i64 n),_=>exact ⟨n::xs,rfl⟩
theorem MN {P:Program} {op:BinOp} {t:TypeId} {ox oy:Operand} {xs ys:Array Value} (hg:P.eqGuardType P.depth t=false):zr P (eqGuard op t ox oy (.agg xs) (.agg ys))=some ():=by
 have e:zr P program=some P:=rfl
 unfold eqGuard
 cases op<;>simp[zZ,e,hg,yb]
section
variable {P:Program} {t n:Nat} {ox oy:Operand} {a b:List AV} {K:AV→Option zb→Prop} {σ:Nat→Option zb}
theorem r7 {x y:Bool} (hu:P.underlying t=some .bool):yi P .eql t ox oy [bv x,bv y] K=K (bv (x == y)) none:=by
 have e1:binOp .eql t (.bool x) (.bool y)=(do pure (.bool (← Op.equal t (.bool x) (.bool y)))):=rfl
 have e2:zr P (eqGuard .eql t ox oy (.bool x) (.bool y))=some ():=rfl
 have e3:zr P (Op.equal t (.bool x) (.bool y))=some (x == y):=by
  have e4:∀ d:Nat,zr P (Op.equalIn (d+1) t (.bool x) (.bool y))=some (x == y):=fun d=>by
   simp only[Op.equalIn,zZ,yV,hu,Option.bind_some,yb]
  exact e4 9999
 simp only[yi,toV,zZ,e1,e2,e3,Option.bind_some,yb,yX,ofV,xc]
theorem xD {x y:Bool} (hu:P.underlying t=some .bool):yi P .neq t ox oy [bv x,bv y] K=K (bv (!(x == y))) none:=by
 have e1:binOp .neq t (.bool x) (.bool y)=(do pure (.bool (!(← Op.equal t (.bool x) (.bool y))))):=rfl
 have e2:zr P (eqGuard .neq t ox oy (.bool x) (.bool y))=some ():=rfl
 have e3:zr P (Op.equal t (.bool x) (.bool y))=some (x == y):=by
  have e4:∀ d:Nat,zr P (Op.equalIn (d+1) t (.bool x) (.bool y))=some (x == y):=fun d=>by
   simp only[Op.equalIn,zZ,yV,hu,Option.bind_some,yb]
  exact e4 9999
 simp only[yi,toV,zZ,e1,e2,e3,Option.bind_some,yb,yX,ofV,xc]
theorem za {f:FuncId} {xs args:List AV} {r:AV} (h:zc P f args r) (hs:yD (wu σ) xs=some args) (hp:xs.any sH=false∨pf r=true) (hk:K r none):xY P f σ xs K:=by
 unfold xY
 rw[hs]
 refine ⟨r,h,fun hr=>?_,hk⟩
 rcases hp with hp | hp
 ·rw[hp] at hr; cases hr
 ·exact hp
end
theorem Tt {k k':AV→Option zb→Prop} (hk:∀ x e,k x e→k' x e):∀ {x:Option Value},yX x k→yX x k'
 | some _,h=>hk _ _ h
 | none,h=>h
theorem sO {k k':AV→Option zb→Prop} (hk:∀ x e,k x e→k' x e):∀ {x:Option AV},xI x k→xI x k'
 | some _,h=>hk _ _ h
 | none,h=>h
theorem Yf {n lo hi mx xs} {k k':Nat→Nat→Bool→Prop} (hk:∀ x e f,k x e f→k' x e f):wF n lo hi mx xs k→wF n lo hi mx xs k':=by
 unfold wF
 repeat' split
 all_goals grind
theorem KW {P:Program} {op t ox oy xs} {k k':AV→Option zb→Prop} (hk:∀ x e,k x e→k' x e):yi P op t ox oy xs k→yi P op t ox oy xs k':=by
 match xs with
 | []=>exact id
 | [_]=>exact id
 | [x,y] =>
  simp only[yi]
  cases toV x<;>cases toV y<;>first | exact sO hk | exact Tt hk
 | _::_::_::_=>exact id
theorem ML {σ n xs} {k k':AV→Option zb→Prop} (hk:∀ x e,k x e→k' x e):n6 σ n xs k→n6 σ n xs k':=by
 unfold n6
 split
 ·split
  ·exact sO hk
  ·exact id
 ·split
  ·refine fun ⟨a,b⟩=>⟨a,?_⟩
   revert b
   split
   ·exact sO hk
   ·exact id
  ·exact id
 ·exact sO hk
 ·split
  ·refine fun ⟨a,b⟩=>⟨a,?_⟩
   revert b
   split
   ·exact sO hk
   ·exact id
  ·exact id
 ·exact id
theorem MK {str x} {k k':AV→Option zb→Prop} (hk:∀ x e,k x e→k' x e):nZ str k x→nZ str k' x:=by
 unfold nZ
 split<;>first | exact id | exact fun ⟨a,b⟩=>⟨a,hk _ _ b⟩
theorem YC {P:Program} {f σ xs} {k k':AV→Option zb→Prop} (hk:∀ x e,k x e→k' x e):xY P f σ xs k→xY P f σ xs k':=by
 unfold xY
 cases yD (wu σ) xs with
 | none=>exact id
 | some args=>exact fun ⟨r,h1,h2,h3⟩=>⟨r,h1,h2,hk _ _ h3⟩
theorem Re {P:Program} {t ok σ xs} {k k':AV→Option zb→Prop} (hk:∀ x e,k x e→k' x e):rk P t ok σ xs k→rk P t ok σ xs k':=by
 unfold rk
 repeat' split
 all_goals first | exact id | exact hk _ _
theorem fC {P:Program} {d op xs σ} {k k':AV→Option zb→Prop} (hk:∀ x e,k x e→k' x e):zN P d op xs σ k→zN P d op xs σ k':=by
 unfold zN
 repeat' split
 all_goals first
  | exact id
  | exact hk _ _
  | exact Tt hk
  | exact sO hk
  | exact KW hk
  | exact ML hk
  | exact Re hk
  | exact YC hk
  | (unfold qK; repeat' split<;>first | exact id | grind)
  | (unfold qL; repeat' split<;>first | exact id | grind)
  | (unfold eMk; repeat' split<;>first | exact id | grind)
  | (unfold nh; split<;>first | exact id | exact MK hk)
  | (unfold rP; repeat' split<;>first | exact id | exact fun ⟨h1,h2⟩=>⟨h1,Yf (fun _ _ _=>hk _ _) h2⟩)
  | exact Yf (fun _ _ _ h=>⟨h.1,hk _ _ h.2⟩)
  | exact fun ⟨a,b⟩=>⟨a,YC hk b⟩
  | exact fun ⟨a,b⟩=>⟨a,hk _ _ b⟩
  | exact fun ⟨a,b,c⟩=>⟨a,b,hk _ _ c⟩
  | exact fun ⟨a,b,c⟩=>⟨a,b,sO hk c⟩
  | exact fun ⟨a,b⟩=>⟨fun h=>hk _ _ (a h),fun h=>hk _ _ (b h)⟩
  | skip
theorem lI {σ sz x} {k k':List (List AV)→Prop} (hk:∀ x,k x→k' x):y6 σ sz x k→y6 σ sz x k':=by
 unfold y6
 repeat' split
 all_goals grind
theorem Pp {n s dst xs} {K K':St→Prop} (hk:∀ s,K s→K' s):pB n s dst xs K→pB n s dst xs K':=by
 unfold pB
 repeat' split
 all_goals grind
theorem Rb {n b s dst xs} {K K':St→Prop} (hk:∀ s,K s→K' s):xH n b s dst K xs→xH n b s dst K' xs:=by
 unfold xH
 split
 ·refine lI fun rows h=>⟨h.1,h.2.1,h.2.2.1,?_⟩
  have:=h.2.2.2
  revert this
  repeat' split
  all_goals grind
 ·refine fun ⟨h1,h⟩=>⟨h1,?_⟩
  revert h
  split
  ·exact fun h=>⟨h.1,hk _ h.2⟩
  ·exact id
 ·exact id
theorem MI {n s dst xs} {K K':St→Prop} (hk:∀ s,K s→K' s):fz n s dst K xs→fz n s dst K' xs:=by
 unfold fz
 split
 ·refine fun ⟨a,a2,b⟩=>⟨a,a2,?_⟩
  unfold gu at b ⊢
  revert b
  split
  ·exact id
  ·refine lI fun rows h=>?_
   revert h
   split<;>grind
 ·exact id
theorem eQ {σ sz x} {k k':List (List AV)→Prop} (hk:∀ x,k x→k' x):y9 σ sz x k→y9 σ sz x k':=by
 unfold y9
 split
 ·split
  ·exact fun ⟨a,b,c,d⟩=>⟨a,b,c,hk _ d⟩
  ·exact fun ⟨_,h⟩=>h.elim
 ·exact fun ⟨a,b⟩=>⟨a,hk _ b⟩
 ·exact lI hk
theorem TS {n b s dst xs} {K K':St→Prop} (hk:∀ s,K s→K' s):yQ n b s dst K xs→yQ n b s dst K' xs:=by
 unfold yQ
 split
 ·refine eQ fun rows h=>⟨h.1,h.2.1,h.2.2.1,?_⟩
  have:=h.2.2.2
  revert this
  split
  ·exact fun ⟨a,b,c⟩=>⟨a,b,hk _ c⟩
  ·exact id
 ·refine eQ fun rows h=>⟨h.1,h.2.1,h.2.2.1,?_⟩
  have:=h.2.2.2
  revert this
  split
  ·exact fun ⟨a,b,c,d,e⟩=>⟨a,b,c,d,hk _ e⟩
  ·exact id
 ·exact id
theorem X2 {n b z ps s dst xs} {K K':St→Prop} (hk:∀ s,K s→K' s):qN n b z ps s dst K xs→qN n b z ps s dst K' xs:=by
 unfold qN
 split
 ·exact fun ⟨a,b,c,d⟩=>⟨a,b,c,hk _ d⟩
 ·exact id
theorem Rf {P t s dst xs} {K K':St→Prop} (hk:∀ s,K s→K' s):qM P t s dst K xs→qM P t s dst K' xs:=by
 unfold qM
 repeat' split
 all_goals first | exact id | exact fun ⟨a,b⟩=>⟨a,hk _ b⟩
theorem gN {P f args s} {K K':AV→St→Prop} (hk:∀ r s,K r s→K' r s) (h:afN P f args s K):afN P f args s K' :=
 fun F a w I β lam hI vs hs hR=>(h F a w I β lam hI vs hs hR).mono fun _e _w' ⟨v,he,r,s',I',β',lam',hK,h⟩=>⟨v,he,r,s',I',β',lam',hk _ _ hK,h⟩
theorem aF {P f xs s dst} {K K':St→Prop} (hk:∀ s,K s→K' s):uF P f xs s dst K→uF P f xs s dst K' :=
 gN fun _ _ h=>⟨h.1,hk _ h.2⟩
theorem SK {P o s} {K K':St→Prop} (hk:∀ s,K s→K' s):xo P o s K→xo P o s K':=by
 have hop:yx P o s K→yx P o s K':=by
  unfold yx
  split
  ·unfold dN
   split
   ·exact fC fun _ _ h=>⟨h.1,h.2.1,hk _ h.2.2⟩
   ·exact id
  ·have hc:∀ {op:AOp} {xs:List AV},dN P op s o.dst K xs→dN P op s o.dst K' xs:=by
    unfold dN
    split
    ·exact fC fun _ _ h=>⟨h.1,h.2.1,hk _ h.2.2⟩
    ·exact id
   have hs:fA s o.dst K→fA s o.dst K':=by
    unfold fA
    split
    ·exact fun h=>⟨h.1,h.2.1,hk _ h.2.2⟩
    ·exact id
   split
   ·exact fun h=>⟨fun e=>hc (h.1 e),fun e=>hs (h.2 e)⟩
   ·exact hs
   ·exact id
  ·exact fun ⟨a,b⟩=>⟨a,hk _ b⟩
  ·exact Pp hk
  ·exact Rb hk
  ·exact MI hk
  ·exact TS hk
  ·exact X2 hk
  ·exact Rf hk
  ·unfold jt
   split
   ·split
    ·exact fun ⟨a,b⟩=>⟨fun h=>⟨hk _ (a h).1,hk _ (a h).2⟩,fun h=>hk _ (b h)⟩
    ·exact id
   ·exact id
  ·exact fun ⟨a,b⟩=>⟨a,aF hk b⟩
  ·split
   ·exact fun ⟨a,b⟩=>⟨a,aF hk b⟩
   ·exact id
  ·rintro ⟨a,⟨b,c⟩ | c⟩
   ·exact ⟨a,.inl ⟨b,fun D=>gN (fun _ _ ⟨A,h1,h2,h3,h4⟩=>⟨A,h1,h2,h3,hk _ h4⟩) (c D)⟩⟩
   ·exact ⟨a,.inr fun D hD=>gN (fun _ _ ⟨A,h1,h2,h3,h4⟩=>⟨A,h1,h2,h3,hk _ h4⟩) (c D hD)⟩
  ·exact fC fun _ _=>hk _
 unfold xo
 repeat' split
 ·exact hop
 ·exact fun ⟨a,b⟩=>⟨fun h=>hop (a h),fun h=>hk _ (b h)⟩
 ·exact hk _
 ·exact id
theorem ak {P}:∀ {os s} {K K':St→Prop},(∀ s,K s→K' s)→zj P os s K→zj P os s K'
 | [],_,_,_,hk,h=>hk _ h
 | _::_,_,_,_,hk,h=>SK (fun _=>ak hk) h
theorem ahY:∀ {ks s} {K K':St→Prop},(∀ s,K s→K' s)→tF ks s K→tF ks s K'
 | [],_,_,_,hk,h=>hk _ h
 | k::ks,s,K,K',hk,h=>by
  simp only[tF,xf] at h ⊢
  split at h
  ·exact ⟨h.1,ahY hk h.2⟩
  ·exact h
theorem xN {P}:∀ {c s} {K K':Exit→St→Prop},(∀ e s,K e s→K' e s)→awp P c s K→awp P c s K'
 | .skip,_,_,_,hk,h=>hk _ _ h
 | .region ..,_,_,_,hk,h=>ahY (fun _=>ak fun _ h=>by
   unfold bs at h ⊢
   exact ⟨h.1,hk _ _ h.2⟩) h
 | .seq a b,s,K,K',hk,h=>by
  simp only[awp] at h ⊢
  refine xN (fun e s h=>?_) h
  cases e<;>first | exact xN hk h | exact hk _ _ h
 | .cond c a b,s,K,K',hk,h=>by
  simp only[awp] at h ⊢
  split at h
  ·exact ⟨fun e=>xN hk (h.1 e),fun e=>xN hk (h.2 e)⟩
  ·exact h
 | .block i b,s,K,K',hk,h=>by
  simp only[awp] at h ⊢
  refine xN (fun e s h=>?_) h
  cases e<;>simp only[Ye] at h ⊢<;>grind
 | .loop b,s,K,K',hk,⟨J,n,s0,hi,h0,h⟩=>⟨J,n,s0,hi,h0,fun n s hj=>xN (fun e s h=>by
   cases e<;>simp only[CH] at h ⊢<;>grind) (h n s hj)⟩
 | .goto _,_,_,_,hk,h=>hk _ _ h
 | .again l b,s,K,K',hk,⟨J,n,s0,hi,h0,h⟩=>⟨J,n,s0,hi,h0,fun n s hj=>xN (fun e s h=>by
   cases e<;>simp only[Kk] at h ⊢<;>grind) (h n s hj)⟩
 | .exit i,_,_,_,hk,h=>hk _ _ h
 | .ret,_,_,_,hk,h=>hk _ _ h
section
variable {P:Program} {s:St} {K:Exit→St→Prop} {KS:St→Prop} {os:List zi} {d:Nat}
def mmA (P:Program) (b:Builtin) (ts:Array TypeId) (t:TypeId) (xs:List AV):Option AV :=
 match sX xs with
 | some vs=>(zr P (if b=.max then Builtin.max_ ts t vs.toArray else Builtin.min_ ts t vs.toArray)).map ofV
 | none=>none
theorem abk {b:Builtin} {ts:Array TypeId} {t:TypeId} {xs:List Opd}:zj P (⟨some d,.mm b ts t,xs,none⟩::os) s KS=agP (mmA P b ts t (xs.map (ev s))) P os s d KS:=by
 show zN P (s.base+d) (.mm b ts t) (xs.map (ev s)) (lk s.sto) (xl P os s (some d) KS)=_
 simp only[zN,mmA]
 cases sX (xs.map (ev s)) with
 | none=>rfl
 | some vs=>simp only[R7]
theorem BS {ts:Array TypeId} {t:TypeId} {x y:Int}:mmA P .max ts t [iv x,iv y]=some (iv (max x y)):=by
 simp only[mmA,sX,Builtin.max_,Option.map_some,if_true,List.foldlM,zZ]
 simp only[Builtin.max2,yb,Option.bind_some,Option.map_some,ofV,xc]
 by_cases h:y > x
 ·rw[if_pos h,Int.max_eq_right (by omega)]
 ·rw[if_neg h,Int.max_eq_left (by omega)]
theorem BT {ts:Array TypeId} {t:TypeId} {x y:Int}:mmA P .min ts t [iv x,iv y]=some (iv (min x y)):=by
 have e:(Go.Builtin.min=Go.Builtin.max)=False:=by simp
 simp only[mmA,sX,Builtin.min_,Option.map_some,e,if_false,List.foldlM,zZ]
 simp only[Builtin.min2,yb,Option.bind_some,Option.map_some,ofV,xc]
 by_cases h:y<x
 ·rw[if_pos h,Int.min_eq_right (by omega)]
 ·rw[if_neg h,Int.min_eq_left (by omega)]
def Xw (st:Nat→St) (k:Nat) (K:Exit→St→Prop):Exit→St→Prop
 | .normal,s=>s=st k
 | e,s=>K e s
def fM (K:Exit→St→Prop):Exit→St→Prop
 | .normal,_=>False
 | e,s=>K e s
theorem QT {st:Nat→St} {k:Nat}:Xw st k K .normal s=(s=st k):=rfl
theorem L5 {st:Nat→St} {k j:Nat}:Xw st k K (.exit j) s=K (.exit j) s:=rfl
theorem G0 {st:Nat→St} {k:Nat}:Xw st k K .ret s=K .ret s:=rfl
theorem M5 {j:Nat}:fM K (.exit j) s=K (.exit j) s:=rfl
theorem Jt:fM K .ret s=K .ret s:=rfl
theorem RC:fM K .normal s=False:=rfl
theorem C3 {a:ze} (st:Nat→St) (N:Nat) (h0:s=st 0) (h1:∀ k,k<N→awp P a (st k) (Xw st (k+1) K)) (h2:awp P a (st N) (fM K)):awp P (.loop a) s K:=by
 refine ⟨fun n s=>∃ k,k≤N∧n=N-k∧s=st k,N,s,St.imp.refl,⟨0,by omega,by omega,h0⟩,?_⟩
 rintro n s ⟨k,hk,rfl,rfl⟩
 by_cases h:k<N
 ·refine xN (fun e s hs=>?_) (h1 k h)
  cases e with
  | normal=>exact ⟨N-(k+1),s,by omega,St.imp.refl,k+1,by omega,rfl,hs⟩
  | _=>exact hs
 ·obtain rfl:k=N:=by omega
  refine xN (fun e s hs=>?_) h2
  cases e with
  | normal=>exact hs.elim
  | _=>exact hs
theorem L6 {st:Nat→St} {k j:Nat}:Xw st k K (.goto j) s=K (.goto j) s:=rfl
theorem M6 {j:Nat}:fM K (.goto j) s=K (.goto j) s:=rfl
def sS {α:Type} (m:List (Nat × α)):List (Nat × α)→Prop
 | []=>True
 | (t,x)::l=>lk m t=some x∧sS m l
theorem b7 {α:Type} {m l:List (Nat × α)} (h:sS m l) {t:Nat} {x:α} (hx:lk l t=some x):lk m t=some x:=by
 induction l with
 | nil=>simp[lk] at hx
 | cons p l ih =>
  obtain ⟨u,y⟩:=p
  obtain ⟨h1,h2⟩:=h
  simp only[lk] at hx
  split at hx
  ·rename_i e; cases hx; rw[← e]; exact h1
  ·exact ih h2 hx
theorem UO {α:Type} {m l:List (Nat × α)} (h:sS m l) (h':sS l m):lk l=lk m:=by
 funext t
 cases h1:lk l t with
 | some x=>exact (b7 h h1).symm
 | none =>
  cases h2:lk m t with
  | none=>rfl
  | some y=>rw[b7 h' h2] at h1; cases h1
def nw (s s':St):Prop:=sS s.env s'.env∧(s'.sto=s.sto∨lk s'.sto=lk s.sto∨(sS s.sto s'.sto∧sS s'.sto s.sto))∧s'.out=s.out
theorem St.imp_of {s s':St} (h:nw s s'):St.imp s s':=by
 obtain ⟨h1,h2,h3⟩:=h
 rintro F a w ⟨I,β,lam,hI⟩
 have e:lk s'.sto=lk s.sto:=by
  rcases h2 with h2 | h2 | h2
  ·rw[h2]
  ·exact h2
  ·exact UO h2.1 h2.2
 refine ⟨I,β,lam,{hI with env:=fun t x hx=>hI.env t x ?_,sto:=by rw[e]; exact hI.sto,usto:=by rw[e]; exact hI.usto,bdom:=by rw[e]; exact hI.bdom}⟩
 obtain ⟨d,t⟩:=t
 cases d with
 | zero=>exact b7 h1 hx
 | succ d =>
  simp only[St.look] at hx ⊢
  rw[← h3]; exact hx
theorem sU {α:Type} {m:List (Nat × α)}:sS m []=True:=rfl
theorem uQ {α:Type} {m l:List (Nat × α)} {t:Nat} {x:α}:sS m ((t,x)::l)=(lk m t=some x∧sS m l):=rfl
theorem BJ {e e':List (Nat × AV)} {σ σ':List (Nat × zb)} {o o':List (List (Nat × AV))} {b b':Nat}:nw ⟨e,σ,o,b⟩ ⟨e',σ',o',b'⟩=(sS e e'∧(σ'=σ∨lk σ'=lk σ∨(sS σ σ'∧sS σ' σ))∧o'=o):=rfl
def stepW (st:Nat→St) (I:Nat→Prop) (k:Nat) (K:Exit→St→Prop):Exit→St→Prop
 | .normal,s=>nw s (st k)∧I k
 | e,s=>K e s
theorem cM {st:Nat→St} {I:Nat→Prop} {k:Nat}:stepW st I k K .normal s=(nw s (st k)∧I k):=rfl
theorem L7 {st:Nat→St} {I:Nat→Prop} {k j:Nat}:stepW st I k K (.exit j) s=K (.exit j) s:=rfl
theorem G1 {st:Nat→St} {I:Nat→Prop} {k:Nat}:stepW st I k K .ret s=K .ret s:=rfl
theorem L8 {st:Nat→St} {I:Nat→Prop} {k j:Nat}:stepW st I k K (.goto j) s=K (.goto j) s:=rfl
theorem zB {a:ze} (st:Nat→St) (I:Nat→Prop) (N:Nat) (h0:nw s (st 0)) (i0:I 0) (h1:∀ k,k<N→I k→awp P a (st k) (stepW st I (k+1) K)) (h2:I N→awp P a (st N) (fM K)) :
  awp P (.loop a) s K:=by
 refine ⟨fun n s=>∃ k,k≤N∧n=N-k∧s=st k∧I k,N,st 0,St.imp_of h0,⟨0,by omega,by omega,rfl,i0⟩,?_⟩
 rintro n s ⟨k,hk,rfl,rfl,hi⟩
 by_cases h:k<N
 ·refine xN (fun e s hs=>?_) (h1 k h hi)
  cases e with
  | normal=>exact ⟨N-(k+1),st (k+1),by omega,St.imp_of hs.1,k+1,by omega,rfl,rfl,hs.2⟩
  | _=>exact hs
 ·obtain rfl:k=N:=by omega
  refine xN (fun e s hs=>?_) (h2 hi)
  cases e with
  | normal=>exact hs.elim
  | _=>exact hs
def YH (l:Nat) (st:Nat→St) (I:Nat→Prop) (k:Nat) (K:Exit→St→Prop):Exit→St→Prop
 | .goto i,s=>i=l∧nw s (st k)∧I k
 | e,s=>K e s
def YK (K:Exit→St→Prop):Exit→St→Prop
 | .goto _,_=>False
 | e,s=>K e s
theorem MX {l j:Nat} {st:Nat→St} {I:Nat→Prop} {k:Nat}:YH l st I k K (.goto j) s=(j=l∧nw s (st k)∧I k):=rfl
theorem MW {l j:Nat} {st:Nat→St} {I:Nat→Prop} {k:Nat}:YH l st I k K (.exit j) s=K (.exit j) s:=rfl
theorem Jn {l:Nat} {st:Nat→St} {I:Nat→Prop} {k:Nat}:YH l st I k K .ret s=K .ret s:=rfl
theorem Ru {l:Nat} {st:Nat→St} {I:Nat→Prop} {k:Nat}:YH l st I k K .normal s=K .normal s:=rfl
theorem M7 {j:Nat}:YK K (.exit j) s=K (.exit j) s:=rfl
theorem Ju:YK K .ret s=K .ret s:=rfl
theorem RD:YK K .normal s=K .normal s:=rfl
theorem M8 {j:Nat}:YK K (.goto j) s=False:=rfl
theorem Mu {a:ze} {l:Nat} (st:Nat→St) (I:Nat→Prop) (N:Nat) (h0:nw s (st 0)) (i0:I 0) (h1:∀ k,k<N→I k→awp P a (st k) (YH l st I (k+1) K)) (h2:I N→awp P a (st N) (YK K)) :
  awp P (.again l a) s K:=by
 refine ⟨fun n s=>∃ k,k≤N∧n=N-k∧s=st k∧I k,N,st 0,St.imp_of h0,⟨0,by omega,by omega,rfl,i0⟩,?_⟩
 rintro n s ⟨k,hk,rfl,rfl,hi⟩
 by_cases h:k<N
 ·refine xN (fun e s hs=>?_) (h1 k h hi)
  cases e with
  | goto i=>exact ⟨hs.1,N-(k+1),st (k+1),by omega,St.imp_of hs.2.1,k+1,by omega,rfl,rfl,hs.2.2⟩
  | _=>exact hs
 ·obtain rfl:k=N:=by omega
  refine xN (fun e s hs=>?_) (h2 hi)
  cases e with
  | goto i=>exact hs.elim
  | _=>exact hs
end
def wA (sz d:Nat) (rows:List (List AV)):AV:=.list (if rows=[] then 0 else sz) (if rows=[] then .full else .own d) rows
abbrev R8 (sz:Nat) (rows:List (List AV)):AV:=.list (if rows=[] then 0 else sz) (if rows=[] then .full else .plain) rows
theorem eH {sz d:Nat} {rows:List (List AV)}:strip (wA sz d rows)=R8 sz rows:=by
 unfold wA R8
 split<;>rfl
theorem Mg {sz d:Nat} {rows:List (List AV)}:rf (wA sz d rows)=true:=rfl
theorem aX {sz d k:Nat} {rows:List (List AV)}:zT k (wA sz d rows)=false:=by simp[wA,zT]
theorem K0 {sz d:Nat} {rows:List (List AV)} {K:AV→Option zb→Prop}:nh false [wA sz d rows] K=K (.val (.int .i64 rows.length)) none:=by simp[wA,nh]
theorem FC {sz d:Nat}:wA sz d []=.list 0 .full []:=rfl
theorem TI {sz d:Nat} {rows:List (List AV)} {σ:Nat→Option zb}:wu σ (wA sz d rows)=some (R8 sz rows):=by
 rw[← eH (d:=d)]; rfl
theorem aaS {l:Nat} {v:Value}:dg l (.val v)=.val v:=rfl
theorem aaQ {l:Nat} {v:List AV}:dg l (.agg v)=.agg v:=rfl
theorem ace {l:Nat} {v:List AV}:dg l (.ro v)=.ro v:=rfl
theorem aaR {l k o:Nat}:dg l (.ptr k o)=.ptr k o:=rfl
theorem Ea {l sz:Nat} {r:List (List AV)}:dg l (.list sz .plain r)=.list sz .plain r:=rfl
theorem Br {l sz:Nat} {r:List (List AV)}:dg l (.list sz .full r)=.list sz .full r:=rfl
theorem acf {l k sz off n:Nat}:dg l (.sl k sz off n)=.sl k sz off n:=rfl
theorem ach {l k sz off n:Nat}:dg l (.us k sz off n)=if k=l then .undef else .us k sz off n:=rfl
theorem acg {l k sz i off:Nat}:dg l (.up k sz i off)=if k=l then .undef else .up k sz i off:=rfl
theorem Ec {l:Nat}:dg l .undef=.undef:=rfl
theorem Bq {l k sz i o:Nat}:dg l (.eptr k sz i o)=.eptr k sz i o:=rfl
theorem F9 {l:Nat} {t:TypeId} {x:AV}:dg l (.iface t x)=.iface t x:=rfl
theorem acd {l:Nat} {f:Fn} {caps:List AV}:dg l (.fn f caps)=if caps.any (nP l)=true then .undef else .fn f caps:=rfl
theorem Eb {l:Nat} {caps:List AV}:dg l (.tuple caps)=if caps.any (nP l)=true then .undef else .tuple caps:=rfl
theorem Bp {l sz d:Nat} {rows:List (List AV)} (h:d≠l):dg l (wA sz d rows)=wA sz d rows:=by
 by_cases e:rows=[]
 ·simp[wA,e,dg]
 ·simp[wA,e,dg,h]
theorem S9 {sz by_ d l:Nat} {s:St} {KS:St→Prop} {rows:List (List AV)} {m:Mode} {x:List AV} {xs:List (List AV)} (h0:0<sz) (h1:s.base+d=l) :
  xH sz by_ s (some d) KS [wA sz l rows,.list sz m (x::xs)] =
   ((rows.length+(xs.length+1))*by_≤140737488355328∧rows.length+(xs.length+1)≤9223372036854775807∧lk s.sto l=none∧KS ((s.dg l).put (some d) (wA sz l (rows++x::xs)))):=by
 subst h1
 unfold wA
 by_cases h:rows=[]
 ·subst h
  simp[xH,y6,h0,St.put]
 ·simp[xH,y6,h0,h,St.put]
theorem TU {sz by_ d l sz':Nat} {s:St} {KS:St→Prop} {rows xs:List (List AV)} {m:Mode} (h0:0<sz) (hx:xs=[]∨sz'=sz) (h1:lk s.sto (s.base+d)=none) (h2:lk s.sto l=none)
  (hb:(rows.length+xs.length)*by_≤140737488355328) (hb2:rows.length+xs.length≤9223372036854775807)
  (hK:∀ t,t=l∨t=s.base+d→KS ((s.dg t).put (some d) (.list sz (.own t) (rows++xs)))):xH sz by_ s (some d) KS [wA sz l rows,.list sz' m xs]:=by
 by_cases hr:rows=[]
 ·subst hr
  exact ⟨hx,h0,hb,hb2,.inl rfl,h1,hK _ (.inr rfl)⟩
 ·simp only[wA,hr,if_false]
  exact ⟨hx,h0,hb,hb2,rfl,h2,hK _ (.inl rfl)⟩
theorem Ps {l:List Int} {off n:Nat} (h:l.length=n) (h0:off=0):zP (l.map iv) off (some n)=some (.agg (l.map iv)):=by
 subst h0
 exact Th h
def stm:Mode→Mode
 | .own _=>.plain
 | m=>m
theorem rD {sz:Nat} {m:Mode} {rows:List (List AV)}:strip (.list sz m rows)=.list sz (stm m) rows:=by cases m<;>rfl
theorem G2:stm .plain=.plain:=rfl
theorem Cb:stm .full=.full:=rfl
theorem AY {l:Nat}:stm (.own l)=.plain:=rfl
theorem fG {cells:List AV} {n:Nat} (h:cells.length=n) (h2:cells.all rf=true):zP cells 0 (some n)=some (.agg (cells.map strip)):=by
 simp only[zP,List.drop_zero]
 rw[List.take_of_length_le (by omega),if_pos ⟨by omega,h2⟩]
theorem AZ {m:Mode}:stm (stm m)=stm m:=by cases m<;>rfl
theorem Bs {l sz:Nat} {m:Mode} {r:List (List AV)} (h:stm m=m):dg l (.list sz m r)=.list sz m r:=by
 cases m with
 | own k=>cases h
 | _=>rfl
theorem Dq {s:St} {d:Nat} {x:AV}:s.put (some d) x=⟨pt s.env d x,s.sto,s.out,s.base⟩:=rfl
attribute [simp] L6 M6 sU uQ BJ cM L7 G1 L8 MX MW Jn Ru M7 Ju RD M8
attribute [simp] abk BS BT QT L5 G0 RC M5 Jt Jr M2 Sn RA eH Mg aX K0 FC TI aaS aaQ ace aaR Ea Br acf Bp ach acg Ec Bq F9 acd Eb nP S9 Dq vT uj St.dg dgE LW LV rD G2 Cb AY AZ Bs sH nJ pf pf1 M4 Ps fG
abbrev XE:=Option (AV × Option zb)
def Sg (n:Nat) (lo hi mx:Bool) (xs:List AV):Option (Nat × Nat × Bool) :=
 match lo,hi,mx,xs with
 | false,false,false,[]=>some (0,n,false)
 | true,false,false,[.val (.int _ l)]=>if 0≤l∧l≤n then some (l.toNat,n,false) else none
 | false,true,false,[.val (.int _ h)]=>if 0≤h∧h≤n then some (0,h.toNat,false) else none
 | true,true,false,[.val (.int _ l),.val (.int _ h)]=>if 0≤l∧l≤h∧h≤n then some (l.toNat,h.toNat,false) else none
 | false,true,true,[.val (.int _ h),.val (.int _ m)]=>if 0≤h∧h=m∧m≤n then some (0,h.toNat,true) else none
 | true,true,true,[.val (.int _ l),.val (.int _ h),.val (.int _ m)]=>if 0≤l∧l≤h∧h=m∧m≤n then some (l.toNat,h.toNat,true) else none
 | _,_,_,_=>none
def Q7:Option Value→XE
 | some v=>some (ofV v,none)
 | none=>none
def avX:Option AV→XE
 | some v=>some (v,none)
 | none=>none
def adn (P:Program) (op:BinOp) (t:TypeId) (ox oy:Operand):List AV→XE
 | [x,y]=>match toV x,toV y with
  | some a,some b=>Q7 (zr P (do eqGuard op t ox oy a b; binOp op t a b))
  | _,_=>none
 | _=>none
def acq (σ:Nat→Option zb) (n:Option Nat):List AV→XE
 | [.ptr j off]=>match σ j with
  | some (.var cells)=>avX (zP cells off n)
  | _=>none
 | [.eptr j sz i off]=>match σ j with
  | some (.arr sz' rows)=>if sz'=sz then (match rows[i]? with
   | some r=>avX (zP r off n)
   | none=>none) else none
  | _=>none
 | [.ro cells]=>avX (zP cells 0 n)
 | [.up l sz i off]=>match σ l with
  | some (.uarr sz' rows)=>if sz'=sz then (match rows[i]? with
   | some r=>avX (zP r off n)
   | none=>none) else none
  | _=>none
 | _=>none
def BH (len esz:Nat):List AV→XE
 | [.ptr j off,.val (.int _ i)]=>if 0≤i∧i<len then some (.ptr j (off+i.toNat * esz),none) else none
 | [.eptr j sz r off,.val (.int _ i)]=>if 0≤i∧i<len then some (.eptr j sz r (off+i.toNat * esz),none) else none
 | [.ro cells,.val (.int _ i)]=>if 0≤i∧i<len then some (.ro (cells.drop (i.toNat * esz)),none) else none
 | [.up j sz r off,.val (.int _ i)]=>if 0≤i∧i<len then some (.up j sz r (off+i.toNat * esz),none) else none
 | _=>none
def BI (sz:Nat):List AV→XE
 | [.list sz' _ rows,.val (.int _ i)]=>if 0≤i∧i<rows.length∧sz'=sz then (match rows[i.toNat]? with
   | some r=>some (.ro r,none)
   | none=>none) else none
 | [.sl j sz' off len,.val (.int _ i)]=>if 0≤i∧i<len∧sz'=sz then some (.eptr j sz (off+i.toNat) 0,none) else none
 | [.us j sz' off len,.val (.int _ i)]=>if 0≤i∧i<len∧sz'=sz then some (.up j sz (off+i.toNat) 0,none) else none
 | [.lit sz' rows,.val (.int _ i)]=>if xB rows=true∧0≤i∧i<(zQ rows).length∧sz'=sz then (match (zQ rows)[i.toNat]? with
   | some r=>some (.ro r,none)
   | none=>none) else none
 | _=>none
def abE (sz:Nat) (lo hi mx:Bool):List AV→XE
 | .list sz' _ rows::xs=>if rows.isEmpty=true∨sz'=sz then (match Sg rows.length lo hi mx xs with
   | some (l,h,f)=>some (.list sz' (if f=true then .full else .plain) ((rows.take h).drop l),none)
   | none=>none) else none
 | .sl j sz' off len::xs=>if sz'=sz then (match Sg len lo hi mx xs with
   | some (l,h,_)=>some (.sl j sz (off+l) (h-l),none)
   | none=>none) else none
 | .us j sz' off len::xs=>if sz'=sz then (match Sg len lo hi mx xs with
   | some (l,h,_)=>some (.us j sz (off+l) (h-l),none)
   | none=>none) else none
 | _=>none
def mkX (sz bytes:Nat) (zero:List AV) (d:Nat) (σ:Nat→Option zb):List AV→XE
 | [.val (.int _ l),.val (.int _ c)] =>
  if l=c∧0≤l∧l*bytes≤140737488355328∧l≤9223372036854775807∧zero.length=sz∧0<sz∧(σ d).isNone=true then
   some (.sl d sz 0 l.toNat,some (.arr sz (List.replicate l.toNat zero))) else none
 | _=>none
def adC (str:Bool):List AV→XE
 | [.list _ _ rows]=>if str=false then some (.val (.int .i64 rows.length),none) else none
 | [.sl _ _ _ len]=>if str=false then some (.val (.int .i64 len),none) else none
 | [.us _ _ _ len]=>if str=false then some (.val (.int .i64 len),none) else none
 | [.lit _ rows]=>if str=false then some (.val (.int .i64 rows.length),none) else none
 | [.val (.string s)]=>if str=true then some (.val (.int .i64 s.size),none) else none
 | _=>none
def Yw (call:FuncId→List AV→Option AV) (f:FuncId) (σ:Nat→Option zb) (xs:List AV):XE :=
 match yD (wu σ) xs with
 | some args=>match call f args with
  | some r=>if xs.any sH=false∨pf r=true then some (r,none) else none
  | none=>none
 | none=>none
def BM (P:Program) (t:TypeId) (ok:Bool) (σ:Nat→Option zb):List AV→XE
 | [.mp j,y]=>match σ j,toV y with
  | some (.map es _),some kv=>match Si P t kv es with
   | some (v,b)=>some (if ok=true then .tuple [ofV v,.val (.bool b)] else ofV v,none)
   | none=>none
  | _,_=>none
 | _=>none
def CB (P:Program) (call:FuncId→List AV→Option AV) (d:Nat) (op:AOp) (xs:List AV) (σ:Nat→Option zb):XE :=
 match op with
 | .mov=>match xs with
  | [x]=>some (x,none)
  | _=>none
 | .pick=>match xs with
  | [.val (.bool t),a,b]=>some (cond t a b,none)
  | _=>none
 | .alloc cells=>if (σ d).isNone=true then some (.ptr d 0,some (.var cells)) else none
 | .box=>match xs with
  | [x]=>match cellsOf x with
   | some cs=>if (σ d).isNone=true then some (.ptr d 0,some (.var cs)) else none
   | none=>none
  | _=>none
 | .build zero places=>avX (orR (uj zero places xs) (v3 zero places xs))
 | .mkslice sz n zero places=>match vT sz (List.replicate n zero) places xs,xM sz (List.replicate n zero) places xs with
  | some rows,_=>if zero.length=sz∧0<sz then some (.list sz .full rows,none) else none
  | none,some rows=>if zero.length=sz∧0<sz then some (.lit sz rows,none) else none
  | none,none=>none
 | .load n=>acq σ n xs
 | .nilChk=>match xs with
  | [.ptr j off]=>some (.ptr j off,none)
  | [.eptr j sz i off]=>some (.eptr j sz i off,none)
  | [.up j sz i off]=>some (.up j sz i off,none)
  | [.ro cells]=>some (.ro cells,none)
  | [.fn f caps]=>some (.fn f caps,none)
  | _=>none
 | .bin op t ox oy=>adn P op t ox oy xs
 | .un op=>match xs with
  | [.val v]=>Q7 (zr P (Op.unary op v))
  | _=>none
 | .conv s d'=>match xs with
  | [.val v]=>Q7 (zr P (convert s d' v))
  | _=>none
 | .idxV t=>match xs with
  | [x,.val i]=>match toV x with
   | some a=>Q7 (zr P (Instr.index t a i))
   | none=>none
  | _=>none
 | .sliceV _ lo hi mx=>match xs with
  | .val (.string s)::ys=>match Sg s.size lo hi mx ys with
   | some (l,h,_)=>if mx=false then some (.val (.string (s.extract l h)),none) else none
   | none=>none
  | _=>none
 | .mm b ts t=>match sX xs with
  | some vs=>Q7 (zr P (if b=.max then Builtin.max_ ts t vs.toArray else Builtin.min_ ts t vs.toArray))
  | none=>none
 | .field off n=>match xs with
  | [.agg cells]=>avX (vS cells off n)
  | [.raw cells]=>avX (zP cells off n)
  | _=>none
 | .faddr off=>match xs with
  | [.ptr j o]=>some (.ptr j (o+off),none)
  | [.eptr j sz i o]=>some (.eptr j sz i (o+off),none)
  | [.up j sz i o]=>some (.up j sz i (o+off),none)
  | [.ro cells]=>some (.ro (cells.drop off),none)
  | _=>none
 | .iaddrA len esz=>BH len esz xs
 | .iaddrS sz=>BI sz xs
 | .idxA len esz n=>match xs with
  | [.agg cells,.val (.int _ i)]=>if 0≤i∧i<len then avX (vS cells (i.toNat * esz) n) else none
  | _=>none
 | .slice sz lo hi mx=>abE sz lo hi mx xs
 | .mk sz bytes zero=>mkX sz bytes zero d σ xs
 | .len s=>adC s xs
 | .extract i=>match xs with
  | [.tuple vs]=>avX vs[i]?
  | _=>none
 | .mkfn f=>some (.fn (.func f) (xs.map strip),none)
 | .mkb f=>some (.fn (.via 0 #[] f false) (xs.map strip),none)
 | .call f=>Yw call f σ xs
 | .callv=>match xs with
  | .fn (.func f) caps::ys=>if yM P f=true then Yw call f σ (ys++caps) else none
  | .fn (.via _ _ f _) rs::ys=>if yM P f=true then Yw call f σ (rs++ys) else none
  | _=>none
 | .mksliceL sz n zero places=>match xM sz (List.replicate n zero) places xs with
  | some rows=>if zero.length=sz∧0<sz then some (.lit sz rows,none) else none
  | none=>none
 | .mkmap=>if (σ d).isNone=true then some (.mp d,some (.map #[] 0)) else none
 | .lookup t ok=>BM P t ok σ xs
 | .mkif t=>match xs with
  | [x]=>if rf x=true then some (.iface t (strip x),none) else none
  | _=>none
 | .callm name=>match xs with
  | .iface t x::ys=>match bH P t name with
   | some f=>if yM P f=true then Yw call f σ (x::ys) else none
   | none=>none
  | _=>none
 | _=>none
def abO (n:Nat) (s:St) (dst:Option Nat):List AV→Option St
 | [.ptr j off,x]=>match lk s.sto j,cellsOf x with
  | some (.var cells),some cs=>if cs.length=n∧off+n≤cells.length∧dst.isNone=true then some {s with sto:=pt s.sto j (.var (splice cells off cs))} else none
  | _,_=>none
 | [.eptr j sz i off,x]=>match lk s.sto j,cellsOf x with
  | some (.arr sz' rows),some cs=>if sz'=sz∧cs.length=n∧off+n≤sz∧i<rows.length∧cs.all rf=true∧dst.isNone=true then
    (match rows[i]? with
    | some r=>some {s with sto:=pt s.sto j (.arr sz (rows.set i (splice r off (cs.map strip))))}
    | none=>none) else none
  | _,_=>none
 | [.up l sz i off,x]=>match lk s.sto l,cellsOf x with
  | some (.uarr sz' rows),some cs=>if sz'=sz∧cs.length=n∧off+n≤sz∧dst.isNone=true then
    (match rows[i]? with
    | some r=>some {s with sto:=pt s.sto l (.uarr sz (rows.set i (splice r off cs)))}
    | none=>none) else none
  | _,_=>none
 | _=>none
def Zd (σ:Nat→Option zb) (sz:Nat):AV→Option (List (List AV))
 | .list sz' _ rows=>if rows.isEmpty=true∨sz'=sz then some rows else none
 | .sl j sz' off len=>if sz'=sz then (match σ j with
   | some (.arr sz'' rows)=>if sz''=sz∧off+len≤rows.length then some ((rows.drop off).take len) else none
   | _=>none) else none
 | .us j sz' off len=>if sz'=sz then (match σ j with
   | some (.uarr sz'' rows)=>if sz''=sz∧off+len≤rows.length∧xB ((rows.drop off).take len)=true then some (zQ ((rows.drop off).take len)) else none
   | _=>none) else none
 | .val (.string b)=>if sz=1 then some (b.data.toList.map fun x=>[.val (.int .u8 x.toNat)]) else none
 | .lit sz' rows=>if sz'=sz∧xB rows=true then some (zQ rows) else none
 | _=>none
def UV (σ:Nat→Option zb) (sz:Nat):AV→Option (List (List AV))
 | .us j sz' off len=>if sz'=sz then (match σ j with
   | some (.uarr sz'' rows)=>if sz''=sz∧off+len≤rows.length then some ((rows.drop off).take len) else none
   | _=>none) else none
 | .lit sz' rows=>if sz'=sz then some rows else none
 | x=>Zd σ sz x
def FG (sz bytes:Nat) (s:St) (dst:Option Nat):List AV→Option St
 | [.list _ .full rows1,x]=>match UV (lk s.sto) sz x with
  | some rows2=>if 0<sz∧(rows1.length+rows2.length)*bytes≤140737488355328∧rows1.length+rows2.length≤9223372036854775807 then
    (match dst with
    | some d=>if rows1.isEmpty=true∧(lk s.sto (s.base+d)).isNone=true then
      some (((s.dg (s.base+d)).put (some d) (.us (s.base+d) sz 0 rows2.length)).new (some d) (some (.uarr sz (zU (s.base+d) rows2)))) else none
    | none=>none) else none
  | none=>none
 | [.us l sz1 off len,x]=>match UV (lk s.sto) sz x with
  | some rows2=>if 0<sz∧(len+rows2.length)*bytes≤140737488355328∧len+rows2.length≤9223372036854775807 then
    (match lk s.sto l,dst with
    | some (.uarr sz' rows1),some d=>if sz'=sz∧sz1=sz∧off=0∧len=rows1.length then
      some ({(s.dg l) with sto:=pt (s.dg l).sto l (.uarr sz (zU l (rows1++rows2)))}.put (some d) (.us l sz 0 (len+rows2.length))) else none
    | _,_=>none) else none
  | none=>none
 | _=>none
def JN (sz n:Nat) (zero:List AV) (places:List Nat) (s:St) (dst:Option Nat) (xs:List AV):Option St :=
 match xM sz (List.replicate n zero) places xs,dst with
 | some rows,some d=>if zero.length=sz∧0<sz∧(lk s.sto (s.base+d)).isNone=true then
   some (((s.dg (s.base+d)).put (some d) (.us (s.base+d) sz 0 n)).new (some d) (some (.uarr sz (zU (s.base+d) rows)))) else none
 | _,_=>none
abbrev CI:=FuncId→List AV→St→Option (AV × St)
def KA (P:Program) (ci:CI) (f:FuncId) (xs:List AV) (s:St) (dst:Option Nat):Option St :=
 if yM P f=true then (match ci f xs s with
  | some (r,s')=>if s'.base=s.base then some (s'.put dst r) else none
  | none=>none) else none
def C0 (sz bytes:Nat) (s:St) (dst:Option Nat):List AV→Option St
 | [.list sz1 m rows1,x]=>match Zd (lk s.sto) sz x with
  | some rows2=>if 0<sz∧(rows1.length+rows2.length)*bytes≤140737488355328∧rows1.length+rows2.length≤9223372036854775807 then
    (match m,dst with
    | .full,some d=>if (rows1.isEmpty=true∨sz1=sz)∧(lk s.sto (s.base+d)).isNone=true then some ((s.dg (s.base+d)).put (some d) (.list sz (.own (s.base+d)) (rows1++rows2))) else none
    | .own l,some d=>if sz1=sz∧(lk s.sto l).isNone=true then some ((s.dg l).put (some d) (.list sz (.own l) (rows1++rows2))) else none
    | _,_=>none) else none
  | none=>none
 | _=>none
def Bl (σ:Nat→Option zb) (sz:Nat):AV→Option (List (List AV))
 | .val _=>none
 | x=>Zd σ sz x
def ab9 (sz:Nat) (s:St) (dst:Option Nat):List AV→Option St
 | [.sl j sz1 off len,x]=>if sz1=sz∧0<sz then (match Bl (lk s.sto) sz x with
  | some rows2=>match lk s.sto j with
   | some (.arr sz' rows)=>if sz'=sz∧off+len≤rows.length∧rows2.length≤len then
     some (({s with sto:=pt s.sto j (.arr sz (rows.take off++rows2++rows.drop (off+rows2.length)))}).put dst (.val (.int .i64 (rows2.length:Nat)))) else none
   | _=>none
  | none=>none) else none
 | _=>none
section
variable {P:Program} {call:FuncId→List AV→Option AV} {ci:CI} {K:St→Prop} {s s':St} {xs:List AV} {dst:Option Nat}
def vEq:Value→Value→Bool
 | .bool a,.bool b=>a == b
 | .int k a,.int k' b=>decide (k=k')&&decide (a=b)
 | .string a,.string b=>decide (a=b)
 | .pointer none,.pointer none=>true
 | .slice none a b,.slice none c d=>decide (a=c)&&decide (b=d)
 | _,_=>false
def mEq:Mode→Mode→Bool
 | .plain,.plain=>true
 | .full,.full=>true
 | .own a,.own b=>decide (a=b)
 | _,_=>false
def fEq:Fn→Fn→Bool
 | .func a,.func b=>decide (a=b)
 | _,_=>false
mutual
def FI:AV→AV→Bool
 | .undef,y=>match y with
  | .undef=>true
  | _=>false
 | .val a,y=>match y with
  | .val b=>vEq a b
  | _=>false
 | .agg a,y=>match y with
  | .agg b=>jh a b
  | _=>false
 | .tuple a,y=>match y with
  | .tuple b=>jh a b
  | _=>false
 | .list n m r,y=>match y with
  | .list n' m' r'=>decide (n=n')&&(mEq m m'&&Se r r')
  | _=>false
 | .ro a,y=>match y with
  | .ro b=>jh a b
  | _=>false
 | .ptr a b,y=>match y with
  | .ptr c d=>decide (a=c)&&decide (b=d)
  | _=>false
 | .eptr a b c d,y=>match y with
  | .eptr a' b' c' d'=>decide (a=a')&&decide (b=b')&&decide (c=c')&&decide (d=d')
  | _=>false
 | .sl a b c d,y=>match y with
  | .sl a' b' c' d'=>decide (a=a')&&decide (b=b')&&decide (c=c')&&decide (d=d')
  | _=>false
 | .us a b c d,y=>match y with
  | .us a' b' c' d'=>decide (a=a')&&decide (b=b')&&decide (c=c')&&decide (d=d')
  | _=>false
 | .up a b c d,y=>match y with
  | .up a' b' c' d'=>decide (a=a')&&decide (b=b')&&decide (c=c')&&decide (d=d')
  | _=>false
 | .fn f c,y=>match y with
  | .fn f' c'=>fEq f f'&&jh c c'
  | _=>false
 | .iface t x,y=>match y with
  | .iface t' x'=>decide (t=t')&&FI x x'
  | _=>false
 | .mp a,y=>match y with
  | .mp b=>decide (a=b)
  | _=>false
 | .lit n r,y=>match y with
  | .lit n' r'=>decide (n=n')&&Se r r'
  | _=>false
 | .raw a,y=>match y with
  | .raw b=>jh a b
  | _=>false
def jh:List AV→List AV→Bool
 | [],y=>match y with
  | []=>true
  | _=>false
 | x::l,y=>match y with
  | z::m=>FI x z&&jh l m
  | _=>false
def Se:List (List AV)→List (List AV)→Bool
 | [],y=>match y with
  | []=>true
  | _=>false
 | x::l,y=>match y with
  | z::m=>jh x z&&Se l m
  | _=>false
end
def adp:Option zb→Option zb→Bool
 | none,none=>true
 | some (.var a),some (.var b)=>jh a b
 | some (.arr n a),some (.arr m b)=>decide (n=m)&&Se a b
 | some (.map a n),some (.map b m)=>a.isEmpty&&b.isEmpty&&decide (n=m)
 | _,_=>false
def ado (P:Program) (call:FuncId→List AV→Option AV) (op:AOp) (s:St) (dst:Option Nat) (xs:List AV):Option St :=
 match dst with
 | some d=>match CB P call (s.base+d) op xs (lk (del [s.base+d] s.sto)),lk s.env d with
  | some (x,e),some y=>if FI y x&&adp (lk s.sto (s.base+d)) e then some s else none
  | _,_=>none
 | none=>none
def Je (σ:List (Nat × zb)) (base:Nat):List Nat→Bool
 | []=>true
 | d::ds=>(lk σ (base+d)).isNone&&Je σ base ds
def abM (ds:List Nat) (s:St):Option St:=if Je s.sto s.base ds=true then some {s with env:=del ds s.env} else none
def BR (P:Program) (t:TypeId) (s:St) (dst:Option Nat):List AV→Option St
 | [.mp j,y,x]=>match lk s.sto j,toV y,toV x with
  | some (.map es clock),some kv,some v=>match LC P t kv v es clock with
   | some (es',clock')=>if dst.isNone=true then some {s with sto:=pt s.sto j (.map es' clock')} else none
   | none=>none
  | _,_,_=>none
 | _=>none
def execOp (P:Program) (call:FuncId→List AV→Option AV) (ci:CI) (dst:Option Nat) (op:AOp) (xs:List AV) (s:St):Option St :=
 match op with
 | .store n=>abO n s dst xs
 | .append sz b=>C0 sz b s dst xs
 | .copy sz=>ab9 sz s dst xs
 | .appendU sz b=>FG sz b s dst xs
 | .mksliceU sz n z ps=>JN sz n z ps s dst xs
 | .callI f=>KA P ci f xs s dst
 | .mapset t=>BR P t s dst xs
 | .chk op=>ado P call op s dst xs
 | .start ds=>abM ds s
 | .callvI=>match xs with
  | .fn (.func f) caps::ys=>KA P ci f (ys++caps) s dst
  | _=>none
 | .nilS neg=>match xs with
  | [x]=>match RX x with
   | some (_+1)=>some (s.put dst (.val (.bool neg)))
   | _=>none
  | _=>none
 | .callM _ _=>none
 | .chkG _ _ _=>none
 | op=>match CB P call (s.base+dst.getD 0) op xs (lk s.sto) with
  | some (x,e)=>some ((s.put dst x).new dst e)
  | none=>none
end
abbrev adk:=FuncId→Option (ze × List zE × Nat)
def Z9 (P:Program) (tbl:adk):Prop:=∀ f ac ras N,tbl f=some (ac,ras,N)→zt P f=some (bare ac,ras,N)
theorem Z9.nil {P:Program}:Z9 P (lk []):=fun _ _ _ _ h=>by cases h
theorem Z9.cons {P:Program} {f:FuncId} {ac:ze} {ras:List zE} {N:Nat} {l:List (Nat × (ze × List zE × Nat))} (h:zt P f=some (bare ac,ras,N)) (hl:Z9 P (lk l)) :
  Z9 P (lk ((f,(ac,ras,N))::l)):=fun g a r n hg=>by
 simp only[lk] at hg
 split at hg
 ·rename_i e; subst e; cases hg; exact h
 ·exact hl _ _ _ _ hg
@[simp] theorem adG {b:Bool}:ofV (.bool b)=.val (.bool b):=rfl
@[simp] theorem B4 {k:IntKind} {n:Int}:ofV (.int k n)=.val (.int k n):=rfl
@[simp] theorem acw {s:ByteArray}:ofV (.string s)=.val (.string s):=rfl
@[congr] theorem ab1 {P:Program} {f:FuncId} {σ:Nat→Option zb} {xs xs':List AV} {k:AV→Option zb→Prop} (h:Unit→xs=xs'):xY P f σ xs k=xY P f σ xs' k:=by rw[h ()]
@[congr] theorem aaD {P:Program} {os:List zi} {s s':St} {K:St→Prop} (h:Unit→s=s'):zj P os s K=zj P os s' K:=by rw[h ()]
@[simp] theorem aee {c:Prop} [Decidable c]:stm (if c then Mode.full else Mode.plain)=if c then Mode.full else Mode.plain:=by split<;>rfl
def MJ (len esz:Nat) (n:Option Nat) (x y:AV) (k:AV→Option zb→Prop):Prop :=
 match x,y with
 | .agg cells,.val (.int _ i)=>0≤i∧i<len∧xI (vS cells (i.toNat * esz) n) k
 | _,_=>False
@[simp] theorem ac4 {len esz:Nat} {n:Option Nat} {cells:List AV} {ik:IntKind} {i:Int} {k:AV→Option zb→Prop} :
  MJ len esz n (.agg cells) (.val (.int ik i)) k=(0≤i∧i<len∧xI (vS cells (i.toNat * esz) n) k):=rfl
@[simp] theorem adH {P:Program} {s:St} {KS:St→Prop} {os:List zi} {d:Nat} {len esz:Nat} {n:Option Nat} {x y:Opd} :
  zj P (⟨some d,.idxA len esz n,[x,y],none⟩::os) s KS=MJ len esz n (ev s x) (ev s y) (xl P os s (some d) KS):=by
 show zN P (s.base+d) (.idxA len esz n) [ev s x,ev s y] (lk s.sto) (xl P os s (some d) KS)=_
 simp only[zN,MJ]
 cases ev s x<;>try rfl
 cases ev s y<;>try rfl
 rename_i v
 cases v<;>rfl
@[simp] theorem acz {cells:List AV} {off:Nat}:vS cells off none=cells[off]?:=rfl
open Go.ChangeShapes Go.WideShapes
inductive Ty where
 | bool
 | int (k:IntKind)
 | str
 | slice (e:Ty)
 | arr (n:Nat) (e:Ty)
 | st (fs:List Ty)
mutual
def Ty.sz:Ty→Nat
 | .bool=>1
 | .int _=>1
 | .str=>1
 | .slice _=>1
 | .arr n e=>n*e.sz
 | .st fs=>Ty.szs fs
def Ty.szs:List Ty→Nat
 | []=>0
 | t::ts=>t.sz+Ty.szs ts
end
def no (P:Program) (f:TypeId→Option Ty):Nat→List Field→Option (List Ty)
 | _,[]=>some []
 | off,g::gs=>match f g.type with
  | some τ=>if g.offset=off∧P.cellsOf g.type=τ.sz then (no P f (off+τ.sz) gs).map (τ::·) else none
  | none=>none
def kZ (P:Program):Nat→TypeId→Option Ty
 | 0,_=>none
 | m+1,t=>match P.underlying t with
  | some .bool=>some .bool
  | some (.int k)=>some (.int k)
  | some .string=>some .str
  | some (.slice e)=>match kZ P m e with
   | some τ=>if 0<τ.sz∧P.cellsOf e=τ.sz∧0<P.bytesOf e then some (.slice τ) else none
   | none=>none
  | some (.array n e)=>match kZ P m e with
   | some τ=>if P.cellsOf e=τ.sz∧P.cellsOf t=n*τ.sz then some (.arr n τ) else none
   | none=>none
  | some (.struct fs)=>match no P (kZ P m) 0 fs.toList with
   | some τs=>if P.cellsOf t=Ty.szs τs then some (.st τs) else none
   | none=>none
  | _=>none
mutual

def TyC:Ty→List AV→Prop
 | .bool,cs=>∃ b,cs=[.val (.bool b)]
 | .int k,cs=>∃ n,cs=[.val (.int k n)]∧(Lit.int k n).wf=true
 | .str,cs=>∃ s:ByteArray,cs=[.val (.string s)]∧s.size≤reachBytes
 | .slice e,cs=>∃ rows:List (List AV),cs=[.list e.sz .plain rows]∧rows.length≤reachBytes∧∀ r∈rows,TyC e r
 | .arr n e,cs=>∃ rows:List (List AV),cs=rows.flatten∧rows.length=n∧∀ r∈rows,TyC e r
 | .st fs,cs=>SC fs cs
def SC:List Ty→List AV→Prop
 | [],cs=>cs=[]
 | τ::τs,cs=>∃ a b,cs=a++b∧TyC τ a∧SC τs b
end
theorem aG {α:Type} {n:Nat}:∀ {rows:List (List α)},(∀ r∈rows,r.length=n)→rows.flatten.length=rows.length*n
 | [],_=>by simp
 | r::rows,h=>by
  simp only[List.flatten_cons,List.length_append,List.length_cons,Nat.succ_mul]
  rw[aG (rows:=rows) (fun r hr=>h r (by simp[hr])),h r (by simp)]
  omega
mutual
theorem c9:∀ {τ:Ty} {cs:List AV},TyC τ cs→cs.length=τ.sz
 | .bool,_,h=>by obtain ⟨b,rfl⟩:=h; rfl
 | .int _,_,h=>by obtain ⟨b,rfl,_⟩:=h; rfl
 | .str,_,h=>by obtain ⟨b,rfl,_⟩:=h; rfl
 | .slice _,_,h=>by obtain ⟨b,rfl,_⟩:=h; rfl
 | .arr n e,_,h=>by
  obtain ⟨rows,rfl,rfl,h⟩:=h
  rw[aG (fun r hr=>c9 (h r hr))]; rfl
 | .st fs,_,h=>SD (show SC fs _ from h)
theorem SD:∀ {τs:List Ty} {cs:List AV},SC τs cs→cs.length=Ty.szs τs
 | [],_,h=>by rw[show _=[] from h]; rfl
 | τ::τs,_,h=>by
  obtain ⟨a,b,rfl,h1,h2⟩:=h
  rw[List.length_append,c9 h1,SD h2]; rfl
end
section
variable {H:Type} {enc:TypeId × Value→H} {P:Program} {w:World}
abbrev PI (ps:List MemPlace):Nat→Nat→Prop:=fun b o=>MemPlace.cell b o∈ps
def xG (w:World) (ps:List MemPlace) (xs:List AV) (cs:List Value):Prop :=
 xs.length=cs.length∧∀ (i:Nat) x,xs[i]?=some x→R0 (PI ps) w x (cs.getD i undef)∧single (cs.getD i undef)=true
theorem xG.mono {ps qs:List MemPlace} {xs:List AV} {cs:List Value} (h:xG w ps xs cs) (hs:∀ p∈ps,p∈qs):xG w qs xs cs :=
 ⟨h.1,fun i x hx=>⟨(h.2 i x hx).1.mono (fun _ _ hp=>hs _ hp) (fun _ _ _ _ h=>h),(h.2 i x hx).2⟩⟩
theorem xG.append {ps:List MemPlace} {xs ys:List AV} {cs ds:List Value} (h:xG w ps xs cs) (k:xG w ps ys ds):xG w ps (xs++ys) (cs++ds):=by
 refine ⟨by simp[h.1,k.1],fun i x hx=>?_⟩
 by_cases hi:i<xs.length
 ·rw[List.getElem?_append_left hi] at hx
  have:(cs++ds).getD i undef=cs.getD i undef:=by simp only[List.getD]; rw[List.getElem?_append_left (by rw[← h.1]; exact hi)]
  rw[this]; exact h.2 i x hx
 ·rw[List.getElem?_append_right (by omega)] at hx
  have:(cs++ds).getD i undef=ds.getD (i-xs.length) undef:=by simp only[List.getD]; rw[List.getElem?_append_right (by rw[← h.1]; omega),h.1]
  rw[this]; exact k.2 _ x hx
theorem xG.one {ps:List MemPlace} {x:AV} {v:Value} (h:R0 (PI ps) w x v) (hs:single v=true):xG w ps [x] [v]:=by
 refine ⟨rfl,fun i y hy=>?_⟩
 cases i with
 | zero=>simp at hy; subst hy; exact ⟨h,hs⟩
 | succ i=>simp at hy
theorem xG.nil {ps:List MemPlace}:xG w ps [] []:=⟨rfl,fun i x h=>by simp at h⟩
theorem Xv {ps:List MemPlace} {n:Nat}:∀ {rows:List (List AV)} {cs:List Value},cs.length=rows.length*n →
  (∀ i r,rows[i]?=some r→xG w ps r ((cs.drop (i*n)).take n))→xG w ps rows.flatten cs
 | [],cs,hl,_=>by
  have:cs=[]:=List.eq_nil_of_length_eq_zero (by simpa using hl)
  subst this
  exact xG.nil
 | r::rows,cs,hl,h=>by
  simp only[List.length_cons,Nat.succ_mul] at hl
  have h0:=h 0 r rfl
  simp only[Nat.zero_mul,List.drop_zero] at h0
  have ih:=Xv (ps:=ps) (n:=n) (rows:=rows) (cs:=cs.drop n) (by simp; omega) (fun i q hq=>by
   have:=h (i+1) q (by simpa using hq)
   rw[List.drop_drop]
   rwa [Nat.succ_mul,Nat.add_comm] at this)
  have:=h0.append ih
  rwa [List.take_append_drop] at this
theorem Zj {base:Nat} {a:Addr} {n:Nat} {cs:List Value} (h:w.cells? base a n=some cs):cs.length=n∧∀ i,i<n→w.cell? (a.add i)=cs[i]?:=by
 unfold World.cells? at h
 split at h
 ·refine ⟨by simpa using mapM_some_length h,fun i hi=>mapM_some_get h i i (by simp[hi])⟩
 ·cases h
abbrev nS (P:Program) (t:TypeId) (d:DataW H):Prop:=(d.weights P t).all (·≤reachBytes)=true
theorem cy {P:Program} {e:TypeId}:∀ {ds:List (DataW H)},(DataW.weightsAll P e ds).all (·≤reachBytes)=true→∀ d∈ds,nS P e d
 | [],_,_,h=>by cases h
 | d::ds,h,q,hq=>by
  simp only[DataW.weightsAll,List.all_append,Bool.and_eq_true] at h
  rcases List.mem_cons.1 hq with rfl | hq
  ·exact h.1
  ·exact cy h.2 q hq
theorem ez {P:Program}:∀ {ts:List TypeId} {ds:List (DataW H)},(DataW.weightsEach P ts ds).all (·≤reachBytes)=true→∀ (i:Nat) t d,ts[i]?=some t→ds[i]?=some d→nS P t d
 | [],_,_,i,t,d,h1,_=>by simp at h1
 | t::ts,[],_,i,_,_,_,h2=>by simp at h2
 | t::ts,d::ds,h,i,t',d',h1,h2=>by
  simp only[DataW.weightsEach,List.all_append,Bool.and_eq_true] at h
  cases i with
  | zero=>simp at h1 h2; subst h1; subst h2; exact h.1
  | succ i=>simp at h1 h2; exact ez h.2 i _ _ h1 h2
theorem jW {α β:Type} {Q:Nat→α→β→Prop}:∀ {l:List α} (k:Nat),(∀ i a,l[i]?=some a→∃ b,Q (k+i) a b)→∃ m:List β,m.length=l.length∧∀ i a b,l[i]?=some a→m[i]?=some b→Q (k+i) a b
 | [],_,_=>⟨[],rfl,fun i a b h=>by simp at h⟩
 | a::l,k,h=>by
  obtain ⟨b,hb⟩:=h 0 a rfl
  obtain ⟨m,h1,h2⟩:=jW (l:=l) (k+1) (fun i a ha=>by
   have:=h (i+1) a (by simpa using ha)
   rwa [show k+1+i=k+(i+1) by omega])
  refine ⟨b::m,by simp[h1],fun i a' b' ha hb'=>?_⟩
  cases i with
  | zero=>simp at ha hb'; subst ha; subst hb'; exact hb
  | succ i =>
   simp at ha hb'
   have:=h2 i a' b' ha hb'
   rwa [show k+1+i=k+(i+1) by omega] at this
theorem cL {ps:List MemPlace} {n:Nat} {f:TypeId→Option Ty} {cs:List Value}:∀ {fs:List Field} {τs:List Ty} {off:Nat} {xs:List (DataW H × List MemPlace)},no P f off fs=some τs→xs.length=fs.length→cs.length=off+Ty.szs τs →
  (∀ (i:Nat) (g:Field) x,fs[i]?=some g→xs[i]?=some x→(∀ p∈x.2,p∈ps)∧∀ τ,f g.type=some τ→∃ ys,TyC τ ys∧xG w x.2 ys ((cs.drop g.offset).take (P.cellsOf g.type))) →
  ∃ ys,SC τs ys∧xG w ps ys (cs.drop off)
 | [],τs,off,xs,h,_,hl,_=>by
  simp only[no,Option.some.injEq] at h
  subst h
  simp only[Ty.szs,Nat.add_zero] at hl
  rw[List.drop_of_length_le (by omega)]
  exact ⟨[],rfl,xG.nil⟩
 | g::fs,τs,off,xs,h,hx,hl,hf=>by
  simp only[no] at h
  split at h
  ·rename_i τ hτ
   split at h
   ·rename_i hc
    cases hr:no P f (off+τ.sz) fs with
    | none=>simp[hr] at h
    | some τr =>
     simp only[hr,Option.map_some,Option.some.injEq] at h
     subst h
     cases xs with
     | nil=>simp at hx
     | cons x xs =>
      simp only[Ty.szs] at hl
      obtain ⟨h1,h2⟩:=hf 0 g x rfl rfl
      obtain ⟨ys,hy1,hy2⟩:=h2 τ hτ
      obtain ⟨zs,hz1,hz2⟩:=cL (ps:=ps) (n:=n) hr (by simpa using hx) (by omega) (fun i g' x' hg hx'=>hf (i+1) g' x' (by simpa using hg) (by simpa using hx'))
      refine ⟨ys++zs,⟨ys,zs,rfl,hy1,hz1⟩,?_⟩
      have:=(hy2.mono h1).append hz2
      rw[hc.1,hc.2,← List.drop_drop] at this
      rwa [List.take_append_drop] at this
   ·cases h
  ·cases h
theorem eG {held:Bool}:∀ (n m:Nat) (t:TypeId) (τ:Ty) (cs:List Value) (d:DataW H) (ps:List MemPlace),kZ P m t=some τ →
  DataW.trod enc P w 0 (fun _=>true) held n t cs=some (d,ps)→nS P t d→∃ xs,TyC τ xs∧xG w ps xs cs
 | 0,_,_,_,_,_,_,_,h,_=>by simp[DataW.trod] at h
 | n+1,0,_,_,_,_,_,h,_,_=>by cases h
 | n+1,m+1,t,τ,cs,d,ps,hτ,h,hw=>by
  simp only[kZ] at hτ
  split at hτ<;>rename_i hu
  ·cases hτ
   obtain ⟨b,rfl,hx⟩:=DataW.trod_bool hu h
   exact ⟨[.val (.bool b)],⟨b,rfl⟩,xG.one (.val _) rfl⟩
  ·cases hτ
   obtain ⟨k,rfl,hx,hwf⟩:=DataW.trod_int hu h
   exact ⟨[.val (.int _ k)],⟨k,rfl,hwf⟩,xG.one (.val _) rfl⟩
  ·cases hτ
   obtain ⟨s,rfl,hx,_⟩:=DataW.trod_string hu h
   simp only[Prod.mk.injEq] at hx
   obtain ⟨rfl,rfl⟩:=hx
   refine ⟨[.val (.string s)],⟨s,rfl,?_⟩,xG.one (.val _) rfl⟩
   simp[nS,DataW.weights] at hw
   exact hw
  ·rename_i e
   split at hτ
   ·rename_i σ hσ
    split at hτ
    ·rename_i hc
     cases hτ
     rcases DataW.trod_slice hu h with ⟨rfl,hx⟩ | ⟨a,len,cap,elems,rest,n',hn,rfl,hx,_,hlc,hcm,hlen,hel,_,_⟩
     ·exact ⟨[.list σ.sz .plain []],⟨[],rfl,by simp,by simp⟩,xG.one (.listNil _ _ _ _ (fun h=>by cases h) (fun _ h=>by cases h)) rfl⟩
     ·cases hn
      simp only[Prod.mk.injEq] at hx
      obtain ⟨rfl,rfl⟩:=hx
      simp only[nS,DataW.weights,hu,List.all_cons,List.all_append,Bool.and_eq_true,decide_eq_true_eq] at hw
      obtain ⟨hw1,hw2,_⟩:=hw
      have hsz:=cy hw2
      obtain ⟨rows,hr1,hr2⟩:=jW (l:=elems) (Q:=fun i y r=>TyC σ r∧∃ c,w.cells? 0 (a.add (i*P.cellsOf e)) (P.cellsOf e)=some c∧xG w y.2 r c) 0 (fun i y hy=>by
       have hi:i<len:=by have:=(List.getElem?_eq_some_iff.1 hy).1; omega
       have:=hel i hi
       rw[hy,Option.bind_eq_some_iff] at this
       obtain ⟨c,hc1,hc2⟩:=this
       obtain ⟨xs,hx1,hx2⟩:=eG n m e σ c y.1 y.2 hσ hc2 (hsz y.1 (List.mem_map.2 ⟨y,List.mem_of_getElem? hy,rfl⟩))
       exact ⟨xs,hx1,c,by rw[Nat.zero_add]; exact hc1,hx2⟩)
      simp only[Nat.zero_add] at hr2
      have hlr:rows.length=len:=by omega
      refine ⟨[.list σ.sz .plain rows],⟨rows,rfl,?_,fun r hr=>?_⟩,xG.one ?_ rfl⟩
      ·have h1:(elems.length+rest.length)*P.bytesOf e≤reachBytes:=by simpa using hw1
       have h2:elems.length+rest.length≤(elems.length+rest.length)*P.bytesOf e:=Nat.le_mul_of_pos_right _ hc.2.2
       omega
      ·obtain ⟨i,hi⟩:=List.mem_iff_getElem?.1 hr
       have hil:i<elems.length:=by have:=(List.getElem?_eq_some_iff.1 hi).1; omega
       exact (hr2 i elems[i] r (by simp[hil]) hi).1
      ·by_cases h0:len=0
       ·have:rows=[]:=List.eq_nil_of_length_eq_zero (by omega)
        subst this
        subst h0
        exact .listNil _ _ _ _ (fun h=>by cases h) (fun _ h=>by cases h)
       ·have get:∀ (i:Nat) (r:List AV),rows[i]?=some r→∃ y c,elems[i]?=some y∧TyC σ r∧w.cells? 0 (a.add (i*P.cellsOf e)) (P.cellsOf e)=some c∧xG w y.2 r c:=fun i r hi=>by
         have hil:i<elems.length:=by have:=(List.getElem?_eq_some_iff.1 hi).1; omega
         obtain ⟨g1,c,g2,g3⟩:=hr2 i elems[i] r (by simp[hil]) hi
         exact ⟨elems[i],c,by simp[hil],g1,g2,g3⟩
        obtain ⟨b,o,spot⟩:=a
        have hspot:spot=none:=by
         obtain ⟨y,c,g1,g2,g3,g4⟩:=get 0 rows[0] (List.getElem?_eq_getElem (by omega))
         have g5:=(Zj g3).2 0 (by omega)
         have g6:=(Zj g3).1
         rw[List.getElem?_eq_getElem (by omega)] at g5
         simpa [Addr.add] using World.cell?_spot g5
        subst hspot
        have hget:∀ (i:Nat) (r:List AV) (j:Nat) (x:AV),rows[i]?=some r→r[j]?=some x→∃ y v,elems[i]?=some y∧i<len∧j<σ.sz∧w.cell? ⟨b,o+i*σ.sz+j,none⟩=some v∧R0 (PI y.2) w x v∧single v=true:=fun i r j x hi hj=>by
         obtain ⟨y,c,g1,g2,g3,g4⟩:=get i r hi
         obtain ⟨g5,g6⟩:=Zj g3
         have hjl:j<σ.sz:=by have:=(List.getElem?_eq_some_iff.1 hj).1; have:=c9 g2; omega
         have g7:=g6 j (by omega)
         have hjc:j<c.length:=by omega
         rw[List.getElem?_eq_getElem hjc] at g7
         obtain ⟨k1,k2⟩:=g4.2 j x hj
         have:c.getD j undef=c[j]:=by simp[hjc]
         rw[this] at k1 k2
         refine ⟨y,c[j],g1,?_,hjl,?_,k1,k2⟩
         ·have:=(List.getElem?_eq_some_iff.1 hi).1; omega
         ·rw[← g7,hc.2.1,addr_add,addr_add]
        rw[← hlr]
        refine .list _ _ _ _ _ _ (fun i j=>((w.cell? ⟨b,o+i*σ.sz+j,none⟩).getD undef)) (by omega) (fun h=>by cases h) (fun _ h=>by cases h) (fun i r hi=>?_) (fun i r j x hi hj=>?_) (fun i r j x hi hj=>?_)
        ·obtain ⟨_,_,_,g2,_⟩:=get i r hi
         exact c9 g2
        ·obtain ⟨y,v,g1,gi,gj,g2,g3,g4⟩:=hget i r j x hi hj
         rw[g2]
         refine ⟨?_,rfl,g4⟩
         refine List.mem_append_left _ (MemPlace.mem_row.2 ⟨i*σ.sz+j,?_,?_⟩)
         ·rw[hc.2.1]
          have h1:i+1≤elems.length+rest.length:=by omega
          have h2:=Nat.mul_le_mul_right σ.sz h1
          rw[Nat.succ_mul] at h2
          omega
         ·simp only[MemPlace.cell.injEq,true_and]; omega
        ·obtain ⟨y,v,g1,gi,gj,g2,g3,g4⟩:=hget i r j x hi hj
         rw[g2]
         refine g3.mono (fun b' o' hp=>?_) (fun _ _ _ _ h=>h)
         exact List.mem_append_right _ (List.mem_flatMap.2 ⟨y,List.mem_append_left _ (List.mem_of_getElem? g1),hp⟩)
    ·cases hτ
   ·cases hτ
  ·rename_i k e
   split at hτ
   ·rename_i σ hσ
    split at hτ
    ·rename_i hc
     cases hτ
     obtain ⟨xs,n',hn,hx,hcl,hxl,hel⟩:=DataW.trod_array hu h
     cases hn
     simp only[Prod.mk.injEq] at hx
     obtain ⟨rfl,rfl⟩:=hx
     simp only[nS,DataW.weights,hu] at hw
     have hsz:=cy hw
     obtain ⟨rows,hr1,hr2⟩:=jW (l:=xs) (Q:=fun i y r=>TyC σ r∧xG w y.2 r ((cs.drop (i*P.cellsOf e)).take (P.cellsOf e))) 0 (fun i y hy=>by
      have hi:i<k:=by have:=(List.getElem?_eq_some_iff.1 hy).1; omega
      have:=hel i hi
      rw[hy] at this
      rw[Nat.zero_add]
      exact eG n m e σ _ y.1 y.2 hσ this (hsz y.1 (List.mem_map.2 ⟨y,List.mem_of_getElem? hy,rfl⟩)))
     simp only[Nat.zero_add] at hr2
     refine ⟨rows.flatten,⟨rows,rfl,by omega,fun r hr=>?_⟩,?_⟩
     ·obtain ⟨i,hi⟩:=List.mem_iff_getElem?.1 hr
      have hil:i<xs.length:=by have:=(List.getElem?_eq_some_iff.1 hi).1; omega
      exact (hr2 i xs[i] r (by simp[hil]) hi).1
     ·refine Xv (n:=σ.sz) (by rw[hcl,hc.2,hr1,hxl]) (fun i r hi=>?_)
      have hil:i<xs.length:=by have:=(List.getElem?_eq_some_iff.1 hi).1; omega
      have:=(hr2 i xs[i] r (by simp[hil]) hi).2
      rw[hc.1] at this
      exact this.mono (fun p hp=>List.mem_flatMap.2 ⟨xs[i],List.getElem_mem _,hp⟩)
    ·cases hτ
   ·cases hτ
  ·rename_i fs
   split at hτ
   ·rename_i τs hσ
    split at hτ
    ·rename_i hc
     cases hτ
     obtain ⟨xs,n',hn,hx,hcl,hxl,hel⟩:=DataW.trod_struct hu h
     cases hn
     simp only[Prod.mk.injEq] at hx
     obtain ⟨rfl,rfl⟩:=hx
     simp only[nS,DataW.weights,hu] at hw
     have:=cL (P:=P) (w:=w) (ps:=xs.flatMap (·.2)) (n:=n) (cs:=cs) hσ (by simpa using hxl) (by rw[hcl,hc]; omega) (fun i g x hg hx=>by
      have hg':fs[i]?=some g:=by simpa using hg
      have h1:=hel i g hg'
      rw[hx] at h1
      refine ⟨fun p hp=>List.mem_flatMap.2 ⟨x,List.mem_of_getElem? hx,hp⟩,fun τ hτ=>?_⟩
      exact eG n m g.type τ _ x.1 x.2 hτ h1 (ez hw i g.type x.1 (by simp[hg']) (by simp[hx])))
     obtain ⟨ys,h1,h2⟩:=this
     exact ⟨ys,h1,by simpa using h2⟩
    ·cases hτ
   ·cases hτ
  ·cases hτ
end
def Mq:Ty→AV→Prop
 | .arr n e,x=>∃ cs,x=.agg cs∧TyC (.arr n e) cs
 | .st fs,x=>∃ cs,x=.agg cs∧TyC (.st fs) cs
 | τ,x=>TyC τ [x]
def Ya:List Ty→List AV→Prop
 | [],[]=>True
 | τ::τs,x::xs=>Mq τ x∧Ya τs xs
 | _,_=>False
section
variable {H:Type} {enc:TypeId × Value→H} {P:Program} {W:World}
theorem TK {ps:List MemPlace} {xs:List AV} {cs:Array Value} (h:xG W ps xs cs.toList):R0 (PI ps) W (.agg xs) (.agg cs):=by
 obtain ⟨h1,h2⟩:=h
 simp only[Array.length_toList] at h1
 have hg:∀ i,cs.toList.getD i undef=cs.getD i undef:=fun i=>by simp[List.getD,Array.getD_eq_getD_getElem?]
 refine .agg _ _ h1.symm ?_ (fun i x hx=>?_)
 ·rw[Array.all_eq_true]
  intro i hi
  obtain ⟨_,h4⟩:=h2 i xs[i] (by simp[h1,hi])
  rw[hg] at h4
  simpa [hi] using h4
 ·obtain ⟨h3,_⟩:=h2 i x hx
  rw[hg] at h3
  exact h3
theorem Ko {m:Nat} {t:TypeId} {τ:Ty} {v:Value} {d:DataW H} {ps:List MemPlace} {r:Reach} {base:Nat} (hτ:kZ P m t=some τ) (hok:Value.okWide P W r base t v)
  (h:DataW.Trod enc P W 0 (fun _=>true) true t v d ps) (hw:nS P t d):∃ x,Mq τ x∧R0 (PI ps) W x v:=by
 obtain ⟨n,hn⟩:=h
 obtain ⟨xs,h1,h2⟩:=eG n m t τ _ d ps hτ hn hw
 have one:v.cells=#[v]→(∃ x,xs=[x])→∃ x,TyC τ [x]∧R0 (PI ps) W x v:=by
  rintro hv ⟨x,rfl⟩
  obtain ⟨h3,_⟩:=h2.2 0 x rfl
  rw[hv] at h3
  exact ⟨x,h1,h3⟩
 cases m with
 | zero=>cases hτ
 | succ m =>
  simp only[kZ] at hτ
  split at hτ<;>rename_i hu
  ·cases hτ
   obtain ⟨b,rfl⟩:=h1
   refine one ?_ ⟨_,rfl⟩
   simp only[Value.okWide,hu,Cell.okWide,Cell.ok] at hok
   cases v<;>first | rfl | exact hok.elim
  ·cases hτ
   obtain ⟨b,rfl,hb⟩:=h1
   have:=one ?_ ⟨_,rfl⟩
   ·exact this
   simp only[Value.okWide,hu,Cell.okWide,Cell.ok] at hok
   cases v<;>first | rfl | exact hok.elim
  ·cases hτ
   obtain ⟨b,rfl,hb⟩:=h1
   have:=one ?_ ⟨_,rfl⟩
   ·exact this
   simp only[Value.okWide,hu,Cell.okWide,Cell.ok] at hok
   cases v<;>first | rfl | exact hok.elim
  ·split at hτ
   ·split at hτ
    ·cases hτ
     obtain ⟨rows,rfl,hb⟩:=h1
     have:=one ?_ ⟨_,rfl⟩
     ·exact this
     simp only[Value.okWide,hu,Cell.okWide,Cell.ok] at hok
     cases v<;>first | rfl | exact hok.elim
    ·cases hτ
   ·cases hτ
  ·split at hτ
   ·split at hτ
    ·cases hτ
     simp only[Value.okWide,hu] at hok
     obtain ⟨cs,rfl,_⟩:=hok
     exact ⟨.agg xs,⟨xs,rfl,h1⟩,TK h2⟩
    ·cases hτ
   ·cases hτ
  ·split at hτ
   ·split at hτ
    ·cases hτ
     simp only[Value.okWide,hu] at hok
     obtain ⟨cs,rfl,_⟩:=hok
     exact ⟨.agg xs,⟨xs,rfl,h1⟩,TK h2⟩
    ·cases hτ
   ·cases hτ
  ·cases hτ
theorem Yb {m:Nat} {r:Reach} {base:Nat}:∀ {ts:List TypeId} {τs:List Ty} {vs:List Value} {ds:List (DataW H)} {ps:List MemPlace},yD (kZ P m) ts=some τs →
  (∀ (j:Nat) t v,ts[j]?=some t→vs[j]?=some v→Value.okWide P W r base t v)→DataW.TrodAll enc P W 0 (fun _=>true) true ts vs ds ps →
  (∀ (j:Nat) t d,ts[j]?=some t→ds[j]?=some d→nS P t d) →
  ∃ xs,Ya τs xs∧xs.length=vs.length∧ds.length=ts.length∧∀ (i:Nat) x,xs[i]?=some x→R0 (PI ps) W x (vs.getD i undef)
 | [],τs,vs,ds,ps,h,_,hA,_=>by
  simp only[yD,Option.some.injEq] at h
  subst h
  match vs,ds,hA with
  | [],[],_=>exact ⟨[],trivial,rfl,rfl,fun i x hx=>by simp at hx⟩
 | t::ts,τs,vs,ds,ps,h,hv,hA,hs=>by
  simp only[yD] at h
  split at h
  ·rename_i τ hτ
   cases hr:yD (kZ P m) ts with
   | none=>simp[hr] at h
   | some σs =>
    simp only[hr,Option.map_some,Option.some.injEq] at h
    subst h
    match vs,ds,hA with
    | v::vs,d::ds,⟨p,q,h1,h2,e⟩ =>
     obtain ⟨x,a1,a2⟩:=Ko hτ (hv 0 t v rfl rfl) h1 (hs 0 t d rfl rfl)
     obtain ⟨xs,b1,b2,b3,b4⟩:=Yb hr (fun j t' v' ht hv'=>hv (j+1) t' v' (by simpa using ht) (by simpa using hv')) h2 (fun j t' d' ht hd=>hs (j+1) t' d' (by simpa using ht) (by simpa using hd))
     subst e
     refine ⟨x::xs,⟨a1,b1⟩,by simp[b2],by simp[b3],fun i y hy=>?_⟩
     cases i with
     | zero =>
      simp at hy
      subst hy
      simp only[List.getD_cons_zero]
      exact a2.mono (fun _ _ hp=>List.mem_append_left _ hp) (fun _ _ _ _ h=>h)
     | succ i =>
      simp at hy
      simp only[List.getD_cons_succ]
      exact (b4 i y hy).mono (fun _ _ hp=>List.mem_append_right _ hp) (fun _ _ _ _ h=>h)
  ·cases h
theorem dk {W':World} (hl:laidOutB P=true) (hb:Below W.heap.size W W'):∀ {ts:List TypeId} {vs:List Value} {ds:List (DataW H)} {ps:List MemPlace},
  (∀ t∈ts,P.readableRec t=true∧t<P.types.size)→DataW.TrodAll enc P W 0 (fun _=>true) true ts vs ds ps→(∀ x∈ps,x.block<W.heap.size) →
  DataW.TrodAll enc P W' 0 (fun b=>decide (b<W.heap.size)) true ts vs ds ps
 | [],[],[],_,_,h,_=>h
 | t::ts,v::vs,d::ds,_,ht,⟨p,q,h1,h2,e⟩,hlt=>by
  subst e
  exact ⟨p,q,Below.trod hl (ht t (by simp)).1 (ht t (by simp)).2 h1 hb (fun x hx=>hlt x (List.mem_append_left _ hx)),
   dk hl hb (fun t h=>ht t (by simp[h])) h2 (fun x hx=>hlt x (List.mem_append_right _ hx)),rfl⟩
theorem Jv {f:FuncId} {fn:Func} {s:ChangeSpec} {tb:TypeId} {τs:List Ty} (hl:laidOutB P=true) (hty:yD (kZ P 20) fn.params.toList=some τs)
  (hread:(fn.params.toList.all fun t=>P.readableRec t&&decide (t<P.types.size))=true) (hres:fn.resultTypes=#[tb]) (hub:P.underlying tb=some .bool) (hvars:s.vars=[])
  (hfn:∀ ds:List (DataW H),ds.length=fn.params.toList.length→(s.fn H (ds++[])).results=[.lit (.bool true)]∧(s.fn H (ds++[])).args=ds∧(s.fn H (ds++[])).vars=[])
  (hcall:∀ xs,Ya τs xs→zc P f xs (bv true)) {base:Nat} {args:Array Value} {ds gs:List (DataW H)} {before:List MemPlace}
  (hval:∀ (j:Nat) t v,fn.params[j]?=some t→args[j]?=some v→Value.okWide P W .any base t v)
  (hW:DataW.Whole enc P fn.params.toList s.vars false W args.toList ds gs before)
  (hsz:(DataW.weightsEach P (fn.params.toList++s.plain.varTypes P) (ds++gs)).all (·≤reachBytes)=true) :
  Calls P f args W fun e W'=>∃ v,e=.returned v∧s.post enc P fn false true false false W args v W':=by
 have hW':=hW
 obtain ⟨p,q,hA,hV,rfl,_,_⟩:=hW
 rw[hvars] at hV
 obtain ⟨rfl,rfl⟩:=trodVars_none hV
 have hsz':∀ (j:Nat) t d,fn.params.toList[j]?=some t→ds[j]?=some d→nS P t d:=fun j t d ht hd=>by
  refine ez hsz j t d ?_ ?_
  ·rw[List.getElem?_append_left (List.getElem?_eq_some_iff.1 ht).1]; exact ht
  ·rw[List.getElem?_append_left (List.getElem?_eq_some_iff.1 hd).1]; exact hd
 obtain ⟨xs,h1,h2,h3,h4⟩:=Yb (r:=.any) (base:=base) hty (fun j t v ht hv=>hval j t v (by simpa using ht) (by simpa using hv)) hA hsz'
 have hlt:∀ x∈p,x.block<W.heap.size:=fun x hx=>by simpa using hW'.lt x (List.mem_append_left _ hx)
 refine (hcall xs h1 (PI p) args W (fun b o hb=>hlt _ hb) (by simp[h2]) (fun i x hx=>?_)).mono fun e W' ⟨v,he,hb,hR⟩=>?_
 ·have:=h4 i x hx
  have e:args.toList.getD i undef=args.getD i undef:=by simp[List.getD,Array.getD_eq_getD_getElem?]
  rwa [e] at this
 ·have hv:v=.bool true:=R0.val_eq hR
  subst hv
  obtain ⟨f1,f2,f3⟩:=hfn ds h3
  have hread':∀ t∈fn.params.toList,P.readableRec t=true∧t<P.types.size:=fun t ht=>by
   have:=List.all_eq_true.1 hread t ht
   simpa using this
  refine ⟨_,he,ds,[],p++[],[]++[],p,[],hW',?_,?_,?_,hb.frame _,fun h=>by cases h⟩
  ·rw[f1,hres]
   exact trodAll_mk1 (shut_bool hub _)
  ·rw[f2]; exact dk hl hb hread' hA hlt
  ·rw[f3,hvars]; rfl
end
theorem ZN {α:Type} {τ:Ty} (f:α→List AV) (Q:α→Prop) (one:∀ r,TyC τ r→∃ x,r=f x∧Q x):∀ {rows:List (List AV)},(∀ r∈rows,TyC τ r)→∃ a:List α,rows=a.map f∧∀ x∈a,Q x
 | [],_=>⟨[],rfl,by simp⟩
 | r::rows,h=>by
  obtain ⟨a,rfl,h2⟩:=ZN f Q one (rows:=rows) (fun r hr=>h r (by simp[hr]))
  obtain ⟨x,rfl,h3⟩:=one r (h r (by simp))
  exact ⟨x::a,rfl,by simpa using ⟨h3,h2⟩⟩
theorem Ki {a b:Ty} {xs:List AV} (h:Ya [a,b] xs):∃ x y,xs=[x,y]∧Mq a x∧Mq b y:=by
 match xs,h with
 | [x,y],h=>exact ⟨x,y,rfl,h.1,h.2.1⟩
theorem AV.imp_nil {sz sz':Nat} {m':Mode} (hm:m'=.plain):AV.imp (.list sz .full []) (.list sz' m' []):=fun I w v h=>by
 subst hm
 cases h with
 | listNil _ _ a cap hm ho=>exact .listNil _ _ _ _ (by simp) (by simp)
 | list _ _ _ b o cap g h1 h2 h3 h4 h5 h6 =>
  exact .listNil _ _ _ _ (by simp) (by simp)
theorem AV.imp_tuple2 {x x' y:AV} (h:AV.imp x x'):AV.imp (.tuple [x,y]) (.tuple [x',y]):=fun I w v hv=>by
 cases hv with
 | tuple cells vs hs hc =>
  refine .tuple _ _ (by simpa using hs) fun i c hi=>?_
  match i,hi with
  | 0,hi=>simp at hi; subst hi; exact h _ _ _ (hc 0 x rfl)
  | 1,hi=>simp at hi; subst hi; exact hc 1 y rfl
  | i+2,hi=>simp at hi
attribute [simp] Nv
@[simp] theorem acZ {σ:Nat→Option zb} {s:St}:mE σ [] s=true:=rfl
@[simp] theorem aaV {sz by_ d n sz':Nat} {m:Mode} {rows:List (List AV)} {s:St} {K:St→Prop} :
  yQ sz by_ s (some d) K [.list n .full [],.list sz' m rows]=((rows=[]∨sz'=sz)∧0<sz∧rows.length*by_≤140737488355328∧rows.length≤9223372036854775807∧lk s.sto (s.base+d)=none ∧
   K (((s.dg (s.base+d)).put (some d) (.us (s.base+d) sz 0 rows.length)).new (some d) (some (.uarr sz (zU (s.base+d) rows))))):=by
 simp[yQ,y9,y6]
@[simp] theorem aay {sz by_ d l sz1 off len sz':Nat} {m:Mode} {rows1 rows:List (List AV)} {s:St} {K:St→Prop} (h:lk s.sto l=some (.uarr sz rows1)) :
  yQ sz by_ s (some d) K [.us l sz1 off len,.list sz' m rows]=((rows=[]∨sz'=sz)∧0<sz∧(len+rows.length)*by_≤140737488355328∧len+rows.length≤9223372036854775807∧sz1=sz∧off=0∧len=rows1.length ∧
   K ({(s.dg l) with sto:=pt (s.dg l).sto l (.uarr sz (zU l (rows1++rows)))}.put (some d) (.us l sz 0 (len+rows.length)))):=by
 simp[yQ,y9,y6,h]
@[simp] theorem adF {s:St} {d:Nat} {e:zb}:s.new (some d) (some e)=⟨s.env,pt s.sto (s.base+d) e,s.out,s.base⟩:=rfl
attribute [simp] nI tup
def ZM (ras:List zE) (b:Nat) (K:AV→St→Prop):Exit→St→Prop:=fun e s'=>(e=.normal∨e=.ret)∧∃ xs e0 o0,yD (nI s') ras=some xs∧s'.out=e0::o0∧K (tup xs) {env:=e0,sto:=s'.sto,out:=o0,base:=b}
@[simp] theorem adJ {ras:List zE} {b:Nat} {K:AV→St→Prop} {env e0:List (Nat × AV)} {sto:List (Nat × zb)} {o0:List (List (Nat × AV))} {B:Nat} :
  ZM ras b K .ret ⟨env,sto,e0::o0,B⟩=∃ xs,yD (nI ⟨env,sto,e0::o0,B⟩) ras=some xs∧K (tup xs) ⟨e0,sto,o0,b⟩:=by
 simp only[ZM,eq_iff_iff]
 constructor
 ·rintro ⟨_,xs,e1,o1,h1,h2,h3⟩
  cases h2
  exact ⟨xs,h1,h3⟩
 ·rintro ⟨xs,h1,h2⟩
  exact ⟨.inr trivial,xs,_,_,h1,rfl,h2⟩
@[simp] theorem ab4 {ras:List zE} {b:Nat} {K:AV→St→Prop} {env e0:List (Nat × AV)} {sto:List (Nat × zb)} {o0:List (List (Nat × AV))} {B:Nat} :
  ZM ras b K .normal ⟨env,sto,e0::o0,B⟩=∃ xs,yD (nI ⟨env,sto,e0::o0,B⟩) ras=some xs∧K (tup xs) ⟨e0,sto,o0,b⟩:=by
 simp only[ZM,eq_iff_iff]
 constructor
 ·rintro ⟨_,xs,e1,o1,h1,h2,h3⟩
  cases h2
  exact ⟨xs,h1,h3⟩
 ·rintro ⟨xs,h1,h2⟩
  exact ⟨.inl trivial,xs,_,_,h1,rfl,h2⟩
theorem xL {P:Program} {f:FuncId} {ac:ze} {ras:List zE} {N:Nat} {args:List AV} {s:St} {K:AV→St→Prop} (B:Nat) (ht:zt P f=some (bare ac,ras,N)) (hn:args.length≤N)
  (h:awp P ac ⟨th 0 args,s.sto,s.env::s.out,B⟩ (ZM ras s.base K)):afN P f args s K:=abK B ht hn h
@[simp] theorem Ra {sz by_ d sz1 sz':Nat} {m:Mode} {rows1 rows:List (List AV)} {s:St} {K:St→Prop} :
  xH sz by_ s (some d) K [.list sz1 .full rows1,.list sz' m rows]=((rows=[]∨sz'=sz)∧0<sz∧(rows1.length+rows.length)*by_≤140737488355328∧rows1.length+rows.length≤9223372036854775807 ∧
   (rows1=[]∨sz1=sz)∧lk s.sto (s.base+d)=none∧K ((s.dg (s.base+d)).put (some d) (.list sz (.own (s.base+d)) (rows1++rows)))):=by
 simp[xH,y6]
@[simp] theorem Pl {sz by_ d l sz1 sz':Nat} {m:Mode} {rows1 rows:List (List AV)} {s:St} {K:St→Prop} :
  xH sz by_ s (some d) K [.list sz1 (.own l) rows1,.list sz' m rows]=((rows=[]∨sz'=sz)∧0<sz∧(rows1.length+rows.length)*by_≤140737488355328∧rows1.length+rows.length≤9223372036854775807 ∧
   sz1=sz∧lk s.sto l=none∧K ((s.dg l).put (some d) (.list sz (.own l) (rows1++rows)))):=by
 simp[xH,y6]
@[simp] theorem ael {l k sz:Nat} {rows:List (List AV)}:dg l (.list sz (.own k) rows)=if k=l then .list sz .plain rows else .list sz (.own k) rows:=rfl
@[simp] theorem ae1 {l:Nat}:dg l∘iv=iv:=rfl
section
variable {P:Program} {t:TypeId} {ox oy:Operand} {k k':IntKind} {a b:Int} {K:AV→Option zb→Prop}
theorem ue (h:b≠0):yi P .quo t ox oy [.val (.int k a),.val (.int k b)] K=K (.val (.int k (k.wrap (a.tdiv b)))) none:=by
 simp[yi,toV,zr,eqGuard,binOp,Op.intDiv,h,yX,ofV,xc,bind,Sem.bind,pure]
theorem sC (h:b≠0):yi P .rem t ox oy [.val (.int k a),.val (.int k b)] K=K (.val (.int k (a.tmod b))) none:=by
 simp[yi,toV,zr,eqGuard,binOp,Op.intDiv,h,yX,ofV,xc,bind,Sem.bind,pure]
def uw (op:BinOp) (k:IntKind) (a b:Int):Int :=
 match op with
 | .and=>k.wrap (BitVec.ofInt k.bits a &&& BitVec.ofInt k.bits b).toNat
 | .or=>k.wrap (BitVec.ofInt k.bits a ||| BitVec.ofInt k.bits b).toNat
 | .xor=>k.wrap (BitVec.ofInt k.bits a ^^^ BitVec.ofInt k.bits b).toNat
 | _=>k.wrap (BitVec.ofInt k.bits a &&& ~~~BitVec.ofInt k.bits b).toNat
theorem Em:yi P .and t ox oy [.val (.int k a),.val (.int k b)] K=K (.val (.int k (uw .and k a b))) none:=by
 simp[yi,toV,zr,eqGuard,binOp,Op.intBits,uw,yX,ofV,xc,bind,Sem.bind,pure]
theorem BA:yi P .or t ox oy [.val (.int k a),.val (.int k b)] K=K (.val (.int k (uw .or k a b))) none:=by
 simp[yi,toV,zr,eqGuard,binOp,Op.intBits,uw,yX,ofV,xc,bind,Sem.bind,pure]
theorem Ew:yi P .xor t ox oy [.val (.int k a),.val (.int k b)] K=K (.val (.int k (uw .xor k a b))) none:=by
 simp[yi,toV,zr,eqGuard,binOp,Op.intBits,uw,yX,ofV,xc,bind,Sem.bind,pure]
theorem Pm:yi P .andNot t ox oy [.val (.int k a),.val (.int k b)] K=K (.val (.int k (uw .andNot k a b))) none:=by
 simp[yi,toV,zr,eqGuard,binOp,Op.intBits,uw,yX,ofV,xc,bind,Sem.bind,pure]
theorem xO (h:¬ b<0):yi P .shl t ox oy [.val (.int k a),.val (.int k' b)] K=K (.val (.int k (k.wrap (a*2^(min b.toNat k.bits))))) none:=by
 simp[yi,toV,zr,eqGuard,binOp,Op.shift,h,yX,ofV,xc,bind,Sem.bind,pure]
theorem xw (h:¬ b<0):yi P .shr t ox oy [.val (.int k a),.val (.int k' b)] K=K (.val (.int k (a.fdiv (2^(min b.toNat k.bits))))) none:=by
 simp[yi,toV,zr,eqGuard,binOp,Op.shift,h,yX,ofV,xc,bind,Sem.bind,pure]
theorem NL {x y:ByteArray}:(x.toList == y.toList)=decide (x=y):=by
 have:x.toList=y.toList↔x=y:=by
  constructor
  ·intro h
   have h1:x.data.toList=y.data.toList:=by simpa [ByteArray.toList_eq] using h
   cases x; cases y
   congr 1
   exact Array.ext' h1
  ·rintro rfl; rfl
 by_cases h:x=y
 ·subst h; simp
 ·have:¬ x.toList=y.toList:=fun e=>h (this.1 e)
  simp[h,this]
theorem KX {x y:ByteArray}:yi P .eql t ox oy [.val (.string x),.val (.string y)] K=K (bv (decide (x=y))) none:=by
 simp only[yi,toV,eqGuard,binOp,Op.stringOp,yX,ofV,xc,bind,pure,NL]
 rfl
theorem KY {x y:ByteArray}:yi P .neq t ox oy [.val (.string x),.val (.string y)] K=K (bv (!decide (x=y))) none:=by
 simp only[yi,toV,eqGuard,binOp,Op.stringOp,yX,ofV,xc,bind,pure,NL]
 rfl
end
section
variable {P:Program} {s:St} {KS:St→Prop} {os:List zi} {d:Nat} {k k':IntKind}
theorem KM {ta tb:TypeId} {u:TypeDesc} {n:Int} (ha:P.underlying ta=some u) (hb:P.underlying tb=some (.int k')):jq P ta tb (.val (.int k n))=some (.val (.int k' (k'.wrap n))):=by
 simp only[jq,convert,zZ,yV,ha,hb,Option.bind_some]
 rfl
theorem aas {n:Int}:unA P .neg (.val (.int k n))=some (.val (.int k (k.wrap (0-n)))):=rfl
theorem aat {n:Int}:unA P .xor (.val (.int k n))=some (.val (.int k (uw .xor k (if k.signed then -1 else k.max) n))):=rfl
def SQ (x:ByteArray) (k:Nat):Nat:=(x.data[k]?.getD 0).toNat
def idxA (P:Program) (t:TypeId) (x:AV) (y:AV):Option AV :=
 match toV x,y with
 | some a,.val i=>(zr P (Instr.index t a i)).map ofV
 | _,_=>none
theorem E7 {t:TypeId} {x y:Opd}:zj P (⟨some d,.idxV t,[x,y],none⟩::os) s KS=agP (idxA P t (ev s x) (ev s y)) P os s d KS:=by
 show zN P (s.base+d) (.idxV t) [ev s x,ev s y] (lk s.sto) (xl P os s (some d) KS)=_
 cases hy:ev s y<;>cases hx:toV (ev s x)<;>simp only[zN,idxA,hx,agP]
 rename_i v a
 cases zr P (Instr.index t a v)<;>rfl
theorem EH {t:TypeId} (ht:P.underlying t=some .string) {xs:ByteArray} {ik:IntKind} {i:Int} (h0:0≤i) (h1:i<xs.size):idxA P t (.val (.string xs)) (.val (.int ik i))=some (.val (.int .u8 (SQ xs i.toNat))):=by
 have h2:i.toNat<xs.size:=by omega
 simp only[idxA,toV,Instr.index,asIntOf,zZ,yV,ht,yb,Option.bind_some,if_pos h0]
 rw[getElem?_pos xs i.toNat h2]
 have:SQ xs i.toNat=(xs[i.toNat]'h2).toNat:=by
  unfold SQ
  rw[Array.getElem?_eq_getElem (show i.toNat<xs.data.size from h2)]
  rfl
 rw[this]
 rfl
def X3 (lo hi mx:Bool) (x:AV) (ys:List AV) (k:AV→Option zb→Prop):Prop :=
 match x with
 | .val (.string s)=>wF s.size lo hi mx ys fun l h _=>mx=false∧k (.val (.string (s.extract l h))) none
 | _=>False
theorem Ln {t:TypeId} {lo hi mx:Bool} {x:Opd} {xs:List Opd}:zj P (⟨some d,.sliceV t lo hi mx,x::xs,none⟩::os) s KS=X3 lo hi mx (ev s x) (xs.map (ev s)) (xl P os s (some d) KS):=by
 show zN P (s.base+d) (.sliceV t lo hi mx) (ev s x::xs.map (ev s)) (lk s.sto) (xl P os s (some d) KS)=_
 simp only[zN,X3]
 cases ev s x<;>try rfl
 rename_i v
 cases v<;>rfl
theorem Pn {lo hi mx:Bool} {x:ByteArray} {ys:List AV} {k:AV→Option zb→Prop}:X3 lo hi mx (.val (.string x)) ys k=wF x.size lo hi mx ys fun l h _=>mx=false∧k (.val (.string (x.extract l h))) none:=rfl
theorem JZ {xs:List Opd} {x:Opd} {d:Option Nat} {n:String}:zj P (⟨d,.callm n,x::xs,none⟩::os) s KS=(match ev s x with | .iface t r=>(match bH P t n with | some f=>yM P f=true∧xY P f (lk s.sto) (r::xs.map (ev s)) (xl P os s d KS) | none=>False) | _=>False):=by
 show zN P (s.base+d.getD 0) (.callm n) (ev s x::xs.map (ev s)) (lk s.sto) (xl P os s d KS)=_
 simp only[zN]
 cases ev s x<;>try rfl
theorem J0 {xs:List Opd} {x:Opd} {d:Option Nat}:zj P (⟨d,.callv,x::xs,none⟩::os) s KS=(match ev s x with | .fn (.func f) caps=>yM P f=true∧xY P f (lk s.sto) (xs.map (ev s)++caps) (xl P os s d KS) | .fn (.via _ _ f _) rs=>yM P f=true∧xY P f (lk s.sto) (rs++xs.map (ev s)) (xl P os s d KS) | _=>False):=by
 show zN P (s.base+d.getD 0) .callv (ev s x::xs.map (ev s)) (lk s.sto) (xl P os s d KS)=_
 simp only[zN]
 cases ev s x<;>try rfl
 rename_i f caps
 cases f<;>rfl
theorem aaH {n:Nat} {k:Nat→Nat→Bool→Prop}:wF n false false false [] k=k 0 n false:=rfl
theorem aaG {n:Nat} {ik:IntKind} {l:Int} {k:Nat→Nat→Bool→Prop}:wF n true false false [.val (.int ik l)] k=(0≤l∧l≤n∧k l.toNat n false):=rfl
theorem aaF {n:Nat} {ik:IntKind} {h:Int} {k:Nat→Nat→Bool→Prop}:wF n false true false [.val (.int ik h)] k=(0≤h∧h≤n∧k 0 h.toNat false):=rfl
theorem C8 {n:Nat} {ik jk:IntKind} {l h:Int} {k:Nat→Nat→Bool→Prop}:wF n true true false [.val (.int ik l),.val (.int jk h)] k=(0≤l∧l≤h∧h≤n∧k l.toNat h.toNat false):=rfl
theorem C7 {n:Nat} {ik jk:IntKind} {h m:Int} {k:Nat→Nat→Bool→Prop}:wF n false true true [.val (.int ik h),.val (.int jk m)] k=(0≤h∧h=m∧m≤n∧k 0 h.toNat true):=rfl
theorem FR {n:Nat} {ik jk kk:IntKind} {l h m:Int} {k:Nat→Nat→Bool→Prop}:wF n true true true [.val (.int ik l),.val (.int jk h),.val (.int kk m)] k=(0≤l∧l≤h∧h=m∧m≤n∧k l.toNat h.toNat true):=rfl
theorem Po {sz sz':Nat} {lo hi mx:Bool} {m:Mode} {rows:List (List AV)} {xs:List AV} {k:AV→Option zb→Prop} :
  rP sz lo hi mx (.list sz' m rows::xs) k=((rows=[]∨sz'=sz)∧wF rows.length lo hi mx xs fun l h f=>k (.list sz' (if f=true then .full else .plain) ((rows.take h).drop l)) none):=rfl
theorem K1 {j sz sz' off len:Nat} {lo hi mx:Bool} {xs:List AV} {k:AV→Option zb→Prop} :
  rP sz lo hi mx (.sl j sz' off len::xs) k=(sz'=sz∧wF len lo hi mx xs fun l h _=>k (.sl j sz (off+l) (h-l)) none):=rfl
theorem K3 {j sz sz' off len:Nat} {lo hi mx:Bool} {xs:List AV} {k:AV→Option zb→Prop} :
  rP sz lo hi mx (.us j sz' off len::xs) k=(sz'=sz∧wF len lo hi mx xs fun l h _=>k (.us j sz (off+l) (h-l)) none):=rfl
end
theorem M9 {α:Type} {l:List (Nat × α)} {n:Nat} {x:α}:lk (pt l n x) n=some x:=by rw[xS,if_pos rfl]
theorem Lo {α:Type} {l:List (Nat × α)} {n:Nat} {x y:α}:pt (pt l n x) n y=pt l n y:=by
 induction l with
 | nil=>simp[pt]
 | cons p l ih =>
  obtain ⟨q,z⟩:=p
  by_cases h:q=n
  ·subst h; simp[pt]
  ·simp[pt,h,ih]
section
variable {k:Nat} {e:zb}
theorem Jh:frz k e .undef=.undef:=rfl
theorem BE {v:Value}:frz k e (.val v)=.val v:=rfl
theorem BC {c:List AV}:frz k e (.agg c)=.agg c:=rfl
theorem aa7 {c:List AV}:frz k e (.ro c)=.ro c:=rfl
theorem Jf {t:TypeId} {x:AV}:frz k e (.iface t x)=.iface t x:=rfl
theorem aa6 {f:Fn} {c:List AV}:frz k e (.fn f c)=.fn f c:=rfl
theorem Jg {c:List AV}:frz k e (.tuple c)=.tuple c:=rfl
theorem Zr {sz:Nat} {m:Mode} {r:List (List AV)} (h:stm m=m):frz k e (.list sz m r)=.list sz m r:=by
 cases m with
 | plain=>rfl
 | full=>rfl
 | own l=>cases h
theorem vr {sz:Nat} {r:List (List AV)}:frz k e (.list sz .plain r)=.list sz .plain r:=rfl
theorem Zq {sz:Nat} {r:List (List AV)}:frz k e (.list sz .full r)=.list sz .full r:=rfl
theorem qT {j off:Nat}:frz k e (.ptr j off)=if j=k then (match e with
   | .var cells=>if (cells.drop off).all rf=true then .ro ((cells.drop off).map strip) else .undef
   | _=>.undef) else .ptr j off:=rfl
theorem EC {j sz i off:Nat}:frz k e (.eptr j sz i off)=if j=k then .undef else .eptr j sz i off:=rfl
theorem aa8 {j sz i off:Nat}:frz k e (.up j sz i off)=if j=k then .undef else .up j sz i off:=rfl
theorem Rr {j sz off len:Nat}:frz k e (.sl j sz off len)=if j=k then (match e with
   | .arr sz' rows=>if sz'=sz∧off+len≤rows.length then .list sz .plain ((rows.drop off).take len) else .undef
   | _=>.undef) else .sl j sz off len:=rfl
theorem rQ {j sz off len:Nat}:frz k e (.us j sz off len)=if j=k then (match e with
   | .uarr sz' rows=>if sz'=sz∧off+len≤rows.length∧xB ((rows.drop off).take len)=true then .list sz .plain (zQ ((rows.drop off).take len)) else .undef
   | _=>.undef) else .us j sz off len:=rfl
theorem Rn {x:Nat} {ks:List Nat} {s:St} {K:St→Prop}:tF (x::ks) s K=xf (s.base+x) s (fun s'=>tF ks s' K):=rfl
end
theorem SM {k:IntKind} {a b:Nat} (ha:a<2^k.bits) (hb:b<2^k.bits) (hw:∀ n:Nat,n≤a→k.wrap n=n):uw .and k a b=((a &&& b:Nat):Int):=by
 simp only[uw]
 rw[BitVec.toNat_and]
 have e1:(BitVec.ofInt k.bits (a:Int)).toNat=a:=by simp[Nat.mod_eq_of_lt ha]
 have e2:(BitVec.ofInt k.bits (b:Int)).toNat=b:=by simp[Nat.mod_eq_of_lt hb]
 rw[e1,e2]
 exact hw _ Nat.and_le_left
attribute [simp] M9 Lo
attribute [simp] Jh BE BC aa7 Jf aa6 Jg vr Zq qT EC aa8 Rr rQ Rn
attribute [simp high] aX Mg eH TI
attribute [simp] Em BA Ew Pm KX KY KM aas aat E7 EH Ln Pn J0 JZ aaH aaG aaF C8 C7 FR Po K1 K3
section
variable {P:Program} {t:Nat} {ox oy:Operand} {a b:List AV} {K:AV→Option zb→Prop}
theorem Rc {ks:List Kd} {xs ys:List Value} (hk:kds P Op.maxDepth t=some ks) (hg:P.eqGuardType P.depth t=false) (hA:agT P t=true)
  (ha:sX a=some xs) (hb:sX b=some ys) (fx:uG ks xs=true) (fy:uG ks ys=true):yi P .eql t ox oy [.agg a,.agg b] K=K (bv (eqL xs ys)) none:=by
 have e:=kS Op.maxDepth t _ xs ys hk fx fy
 simp only[valOf,hA,if_true] at e
 have e2:zr P (Op.equal t (.agg xs.toArray) (.agg ys.toArray))=some (eqL xs ys):=e
 have e1:binOp .eql t (.agg xs.toArray) (.agg ys.toArray)=(do pure (.bool (← Op.equal t (.agg xs.toArray) (.agg ys.toArray)))):=rfl
 simp only[yi,toV,ha,hb,Option.map_some,zZ,MN hg,e1,e2,Option.bind_some,yb,yX,ofV,xc]
end
end Go.Am
