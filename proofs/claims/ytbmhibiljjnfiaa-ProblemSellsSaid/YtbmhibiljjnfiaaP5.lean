/- What the proof rests on, part 5: Am22 Am23 Am24 Am25 Am26 Am27 Am28. -/
import Derived.Test.YtbmhibiljjnfiaaP4
import Derived.Scope
import Derived.ScopeJumps
import Derived.Deep.LoopGhost
import Derived.OpenShut
import Derived.SizedLaws
import Derived.Carry
import Derived.ProofKit
set_option maxRecDepth 100000
set_option maxHeartbeats 4000000
namespace Go.Am
open Go.RowKit
section
variable {P:Program} {F:zU}
def bQ (c:Code):Exit→Bool
 | .normal=>true
 | .exit _=>true
 | .ret=>true
 | .goto _=>tt c
 | _=>false
theorem SU {p:Nat→Prop}:∀ n,p n→∃ m,p m∧∀ k,p k→m≤k:=by
 intro n
 induction n using Nat.strongRecOn with
 | ind n ih =>
  intro hn
  by_cases h:∃ m,m<n∧p m
  ·obtain ⟨m,hm,hp⟩:=h; exact ih m hm hp
  ·exact ⟨n,hn,fun k hk=>Nat.le_of_not_lt fun hlt=>h ⟨k,hlt,hk⟩⟩
open Classical in
noncomputable def Xt (J:Nat→Act→World→Prop) (a:Act) (w:World):Nat:=if h:∃ n,J n a w then Classical.choose (SU (p:=fun n=>J n a w) h.choose h.choose_spec) else 0
theorem ZH {J:Nat→Act→World→Prop} {a:Act} {w:World} (h:∃ n,J n a w):J (Xt J a w) a w∧∀ k,J k a w→Xt J a w≤k:=by
 unfold Xt
 rw[dif_pos h]
 exact Classical.choose_spec (SU (p:=fun n=>J n a w) h.choose h.choose_spec)
theorem Zw {ac:zb} {draw:Bool} {l:List zg} (h:zb.region draw [] l [] []=bare ac):∃ FK D DK l',ac=.region draw FK l' D DK∧l=l'.map (yg draw):=by
 cases ac<;>simp only[bare,reduceCtorEq,zb.region.injEq] at h
 obtain ⟨rfl,_,rfl,_,_⟩:=h
 exact ⟨_,_,_,_,rfl,rfl⟩
def jw (P:Program) (F:zU) (c:Code):Prop:=∀ (ac:zb),yh P F.N c=some (bare ac)→∀ {s:St} {a:Act} {w:World} {K:Exit→St→Prop} {Q:Exit→Act→World→Prop},Holds F s a w→awp P ac s K →
  (∀ e s' a' w',bQ c e=true→K e s'→Holds F s' a' w'→Q e a' w')→c.wp P Q a w
theorem Qh:∀ (c:Code),jw P F c∧∀ l r,c=.seq (.label l) r→jw P F (.seq .skip r)∧jw P F r:=by
 intro c
 induction c with
 | skip =>
  refine ⟨?_,fun l r e=>by cases e⟩
  intro ac htr s a w K Q hH h hk
  simp only[yh,Option.some.injEq] at htr
  cases ac<;>simp only[bare,reduceCtorEq] at htr
  exact wp_skip (hk _ _ _ _ rfl h hH)
 | region id ops draw =>
  refine ⟨?_,fun l r e=>by cases e⟩
  intro ac htr s a w K Q hH h hk
  simp only[yh] at htr
  split at htr
  ·rename_i l hl
   split at htr
   ·rename_i hd
    simp only[Option.some.injEq] at htr
    obtain ⟨FK,D,DK,l',rfl,rfl⟩:=Zw htr
    simp only[awp] at h
    obtain ⟨s0,h,hH⟩:=cd FK hH h
    have hk':∀ s' a' w',(aX (s'.drop D) DK fun s''=>K .normal s'')→Holds F s' a' w'→Q .normal a' w':=by
     intro s' a' w' hK hH'
     obtain ⟨s'',h1,h2⟩:=ZG (dw hH') hK
     exact hk _ _ _ _ rfl h1 h2
    cases draw with
    | false=>exact wp_region_list (ND ops ops.toList _ hl hH h hk')
    | true=>exact Ss hl (by simp only[Bool.true_eq_false,false_or] at hd; exact hd.1) hH h hk'
   ·rename_i hnd
    split at htr
    ·rename_i hm
     simp only[Option.some.injEq] at htr
     obtain ⟨FK,D,DK,l',rfl,he⟩:=Zw htr
     simp only[awp] at h
     obtain ⟨s0,h,hH⟩:=cd FK hH h
     have hk':∀ s' a' w',(aX (s'.drop D) DK fun s''=>K .normal s'')→Holds F s' a' w'→Q .normal a' w':=by
      intro s' a' w' hK hH'
      obtain ⟨s'',h1,h2⟩:=ZG (dw hH') hK
      exact hk _ _ _ _ rfl h1 h2
     cases draw with
     | false=>exact absurd (.inl rfl) hnd
     | true=>exact S2 (Eh hl) (fun i f ds e=>(Ec hl e).trans Jk.symm) hm he hH h hk'
    ·cases htr
  ·cases htr
 | seq x y ihx ihy =>
  refine ⟨?_,?_⟩
  ·intro ac htr s a w K Q hH h hk
   simp only[yh] at htr
   split at htr
   ·rename_i bx by_ hx hy
    simp only[Option.some.injEq] at htr
    cases ac<;>simp only[bare,reduceCtorEq,zb.seq.injEq] at htr
    rename_i ax ay
    obtain ⟨rfl,rfl⟩:=htr
    simp only[awp] at h
    refine wp_seq (ihx.1 ax hx hH h fun e s' a' w' hne hK hH'=>?_)
    cases e with
    | normal=>exact ihy.1 ay hy hH' hK fun e s' a' w' hne=>hk e s' a' w' (by cases e<;>simp_all [bQ,tt])
    | exit id=>exact hk _ _ _ _ rfl hK hH'
    | ret=>exact hk _ _ _ _ rfl hK hH'
    | goto l=>exact hk _ _ _ _ (by simp only[bQ,tt,Bool.or_eq_true] at hne ⊢; exact .inl hne) hK hH'
    | panic ch=>cases hne
    | outgrown=>cases hne
   ·cases htr
  ·intro l r e
   cases e
   refine ⟨?_,ihy.1⟩
   intro ac htr s a w K Q hH h hk
   simp only[yh] at htr
   split at htr
   ·rename_i bx by_ hx hy
    simp only[Option.some.injEq] at hx
    subst hx
    simp only[Option.some.injEq] at htr
    cases ac<;>simp only[bare,reduceCtorEq,zb.seq.injEq] at htr
    rename_i ax ay
    obtain ⟨hx,rfl⟩:=htr
    cases ax<;>simp only[bare,reduceCtorEq] at hx
    simp only[awp,Rw] at h
    exact wp_seq (wp_skip (ihy.1 ay hy hH h fun e s' a' w' hne=>hk e s' a' w' (by cases e<;>simp_all [bQ,tt])))
   ·cases htr
 | cond c x y ihx ihy =>
  refine ⟨?_,fun l r e=>by cases e⟩
  intro ac htr s a w K Q hH h hk
  simp only[yh] at htr
  split at htr
  ·rename_i bx by_ hx hy
   simp only[Option.some.injEq] at htr
   cases ac<;>simp only[bare,reduceCtorEq,zb.cond.injEq] at htr
   rename_i c' ax ay
   obtain ⟨rfl,rfl,rfl⟩:=htr
   simp only[awp] at h
   split at h
   ·rename_i b hb
    have hc:a.eval c=.bool b:=by
     obtain ⟨I,β,lam,hI⟩:=hH
     have:=hI.opd c
     rw[hb] at this
     exact this.val_eq
    exact wp_cond_split hc (fun e=>ihx.1 ax hx hH (h.1 e) fun e s' a' w' hne=>hk e s' a' w' (by cases e<;>simp_all [bQ,tt])) (fun e=>ihy.1 ay hy hH (h.2 e) fun e s' a' w' hne=>hk e s' a' w' (by cases e<;>simp_all [bQ,tt]))
   ·exact h.elim
  ·cases htr
 | block id c ih =>
  refine ⟨?_,fun l r e=>by cases e⟩
  intro ac htr s a w K Q hH h hk
  simp only[yh,Option.map_eq_some_iff] at htr
  obtain ⟨bc,hc,htr⟩:=htr
  cases ac<;>simp only[bare,reduceCtorEq,zb.block.injEq] at htr
  rename_i id' ac'
  obtain ⟨rfl,rfl⟩:=htr
  simp only[awp] at h
  refine wp_block (ih.1 ac' hc hH h fun e s' a' w' hne hK hH'=>?_)
  cases e with
  | normal=>exact hk _ _ _ _ rfl hK hH'
  | exit i =>
   simp only[cY] at hK
   simp only[Exit.inBlock]
   split
   ·rename_i e; rw[if_pos e] at hK; exact hk _ _ _ _ rfl hK hH'
   ·rename_i e; rw[if_neg e] at hK; exact hk _ _ _ _ rfl hK hH'
  | ret=>exact hk _ _ _ _ rfl hK hH'
  | goto l=>exact hk _ _ _ _ hne hK hH'
  | panic ch=>cases hne
  | outgrown=>cases hne
 | loop c ih =>
  refine ⟨?_,fun l r e=>by cases e⟩
  intro ac htr s a w K Q hH h hk
  simp only[yh,Option.map_eq_some_iff] at htr
  obtain ⟨bc,hc,htr⟩:=htr
  cases ac<;>simp only[bare,reduceCtorEq,zb.loop.injEq] at htr
  rename_i ac'
  subst htr
  simp only[awp] at h
  obtain ⟨J,n,s0,hi,h0,h⟩:=h
  refine wp_loop_ghost (fun n a w=>∃ s,Holds F s a w∧J n s) n ⟨s0,hi F a w hH,h0⟩ fun n a w ⟨s,hH,hJ⟩=>?_
  refine ih.1 ac' hc hH (h n s hJ) fun e s' a' w' hne hK hH'=>?_
  cases e with
  | normal =>
   obtain ⟨m,s2,hm,hi2,hJ'⟩:=hK
   exact ⟨m,hm,s2,hi2 F a' w' hH',hJ'⟩
  | exit id=>exact hk _ _ _ _ rfl hK hH'
  | ret=>exact hk _ _ _ _ rfl hK hH'
  | goto l=>exact hk _ _ _ _ hne hK hH'
  | panic ch=>cases hne
  | outgrown=>cases hne
 | rangeFunc f ps x y =>
  refine ⟨?_,fun l r e=>by cases e⟩
  intro ac htr; simp[yh] at htr
 | exit id =>
  refine ⟨?_,fun l r e=>by cases e⟩
  intro ac htr s a w K Q hH h hk
  simp only[yh,Option.some.injEq] at htr
  cases ac<;>simp only[bare,reduceCtorEq,zb.exit.injEq] at htr
  subst htr
  exact wp_exit (hk _ _ _ _ rfl h hH)
 | scope c ih =>
  refine ⟨?_,fun l r e=>by cases e⟩
  have straight:∀ ac,tt c=false→yh P F.N c=some (bare ac)→∀ {s:St} {a:Act} {w:World} {K:Exit→St→Prop} {Q:Exit→Act→World→Prop},Holds F s a w→awp P ac s K →
    (∀ e s' a' w',bQ (.scope c) e=true→K e s'→Holds F s' a' w'→Q e a' w')→(Code.scope c).wp P Q a w:=by
   intro ac hg htr s a w K Q hH h hk
   refine wp_scope_straight (ih.1 ac htr hH h fun e s' a' w' hne hK hH'=>?_)
   cases e with
   | normal=>exact hk _ _ _ _ rfl hK hH'
   | exit i=>exact hk _ _ _ _ rfl hK hH'
   | ret=>exact hk _ _ _ _ rfl hK hH'
   | goto l=>simp only[bQ,hg] at hne; cases hne
   | panic ch=>cases hne
   | outgrown=>cases hne
  have other:(∀ l r,c≠.seq (.label l) r)→jw P F (.scope c):=by
   intro hne ac htr
   rw[yh.eq_def] at htr
   split at htr<;>first | (rename_i heq; cases heq; done) | skip
   all_goals first
    | (cases htr; done)
    | (rename_i l r heq; cases heq; exact absurd rfl (hne _ _))
    | (
      rename_i c' _ heq
      cases heq
      split at htr
      ·cases htr
      ·rename_i hg
       exact straight ac (by simpa using hg) htr)
  cases c with
  | seq x r =>
   cases x with
   | label l =>
    intro ac htr s a w K Q hH h hk
    simp only[yh] at htr
    split at htr
    ·rename_i hg
     simp only[Option.map_eq_some_iff] at htr
     obtain ⟨br,hr,htr⟩:=htr
     cases ac<;>simp only[bare,reduceCtorEq,zb.again.injEq] at htr
     rename_i l' ar
     obtain ⟨rfl,rfl⟩:=htr
     simp only[awp] at h
     obtain ⟨J,n,s0,hi,h0,h⟩:=h
     have ihr:=ih.2 _ _ rfl
     have step:∀ n s a w,Holds F s a w→J n s→∀ {c:Code} {ac:zb},jw P F c→yh P F.N c=some (bare ac)→(∀ K,awp P ar s K→awp P ac s K) →
       c.wp P (Exit.jump l (fun a' w'=>∃ m,m<n∧∃ s',Holds F s' a' w'∧J m s') Q) a w:=by
      intro n s a w hH hJ c ac hS htr hto
      refine hS ac htr hH (hto _ (h n s hJ)) fun e s' a' w' hne hK hH'=>?_
      cases e with
      | normal=>exact hk _ _ _ _ rfl hK hH'
      | exit i=>exact hk _ _ _ _ rfl hK hH'
      | ret=>exact hk _ _ _ _ rfl hK hH'
      | goto i =>
       obtain ⟨rfl,m,s2,hm,hi2,hJ'⟩:=hK
       exact ⟨rfl,m,hm,s2,hi2 F a' w' hH',hJ'⟩
      | panic ch=>cases hne
      | outgrown=>cases hne
     let J':Nat→Act→World→Prop:=fun m a w=>∃ s,Holds F s a w∧J m s
     refine wp_scope_jumps (rest:=.seq .skip r) l (fun a w=>∃ m,J' m a w) (Xt J') (by simp[findLabel]) ?_ ?_
     ·have:=step n s0 a w (hi F a w hH) h0 (c:=.seq (.label l) r) (ac:=.seq .skip ar) ih.1 (by simp only[yh,hr]; rfl) (fun K h=>by simpa only[awp,Rw] using h)
      refine wp_mono this ?_
      intro e a' w' hq
      cases e with
      | goto i=>obtain ⟨e1,m,_,s',h1,h2⟩:=hq; exact ⟨e1,m,s',h1,h2⟩
      | _=>exact hq
     ·intro a w hJ
      obtain ⟨⟨s1,h1,h2⟩,hmin⟩:=ZH hJ
      have:=step _ s1 a w h1 h2 (c:=.seq .skip r) (ac:=.seq .skip ar) ihr.1 (by simp only[yh,hr]; rfl) (fun K h=>by simpa only[awp,Rw] using h)
      refine wp_mono this ?_
      intro e a' w' hq
      cases e with
      | goto i =>
       obtain ⟨e1,m,hm,s',h3,h4⟩:=hq
       refine ⟨e1,⟨m,s',h3,h4⟩,?_⟩
       have:=(ZH (J:=J') ⟨m,s',h3,h4⟩).2 m ⟨s',h3,h4⟩
       omega
      | _=>exact hq
    ·rename_i hg
     have htr':yh P F.N (.seq (.label l) r)=some (bare ac):=by
      simp only[Option.map_eq_some_iff] at htr
      obtain ⟨br,hr,htr⟩:=htr
      simp only[yh,hr,htr]
     exact straight ac (by simpa [tt] using hg) htr' hH h hk
   | _=>exact other (by intros; simp)
  | _=>exact other (by intros; simp)
 | label l =>
  refine ⟨?_,fun l r e=>by cases e⟩
  intro ac htr s a w K Q hH h hk
  simp only[yh,Option.some.injEq] at htr
  cases ac<;>simp only[bare,reduceCtorEq] at htr
  exact wp_label (hk _ _ _ _ rfl h hH)
 | goto l =>
  refine ⟨?_,fun l r e=>by cases e⟩
  intro ac htr s a w K Q hH h hk
  simp only[yh,Option.some.injEq] at htr
  cases ac<;>simp only[bare,reduceCtorEq,zb.goto.injEq] at htr
  subst htr
  exact wp_goto (hk _ _ _ _ rfl h hH)
 | ret =>
  refine ⟨?_,fun l r e=>by cases e⟩
  intro ac htr s a w K Q hH h hk
  simp only[yh,Option.some.injEq] at htr
  cases ac<;>simp only[bare,reduceCtorEq] at htr
  exact wp_ret (hk _ _ _ _ rfl h hH)
 | refuse why =>
  refine ⟨?_,fun l r e=>by cases e⟩
  intro ac htr; simp[yh] at htr
theorem Xc (c:Code):jw P F c:=(Qh c).1
inductive zt where
 | t (n:Nat)
 | cell (n:Nat) (k:Option Nat)
def rE (P:Program):ResultVar→Option zt
 | .tmp t=>some (.t t)
 | .cell a t=>(ldT P t).map (.cell a)
def UK (s:St):zt→Option AV
 | .t n=>w8 (lk s.sto) (s.get n)
 | .cell n k=>match s.get n with
  | .ptr j off=>match lk s.sto j with
   | some (.var cells)=>match zx cells off k with
    | some x=>w8 (lk s.sto) x
    | none=>none
   | _=>none
  | _=>none
def rC (l:List zt) (s:St):Option AV :=
 match yA (UK s) l with
 | some [x]=>some x
 | some xs=>some (.tuple xs)
 | none=>none
def uT:Nat→List AV→List (Nat × AV)
 | _,[]=>[]
 | i,x::xs=>(i,x)::uT (i+1) xs
theorem SW:∀ (xs:List AV) (i t:Nat) (x:AV),lk (uT i xs) t=some x→∃ j,t=i+j∧xs[j]?=some x:=by
 intro xs
 induction xs with
 | nil=>intro i t x h; simp[uT,lk] at h
 | cons y xs ih =>
  intro i t x h
  simp only[uT,lk] at h
  split at h
  ·rename_i e
   exact ⟨0,by omega,by simpa using h⟩
  ·obtain ⟨j,h1,h2⟩:=ih _ _ _ h
   exact ⟨j+1,by omega,by simpa using h2⟩
def l7 (tmps:Array Value):ResultVar→Sem Value
 | .tmp t=>pure (tmps.getD t undef)
 | .cell p t=>do loadVar t (← asAddr (tmps.getD p undef))
def p9 (s:St):zt→Option AV
 | .t n=>some (strip (s.get n))
 | .cell n k=>match s.get n with
  | .ptr j off=>match lk s.sto j with
   | some (.var cells)=>(zx cells off k).map strip
   | _=>none
  | _=>none
def tup:List AV→AV
 | [x]=>x
 | xs=>.tuple xs
theorem Gt {l:List zt} {s:St} {r:AV} (h:rC l s=some r):∃ xs,yA (UK s) l=some xs∧r=tup xs:=by
 unfold rC at h
 split at h
 ·rename_i x hx
  simp only[Option.some.injEq] at h
  exact ⟨[x],hx,h.symm⟩
 ·rename_i xs hne hx
  simp only[Option.some.injEq] at h
  refine ⟨xs,hx,?_⟩
  match xs,hne with
  | [],_=>exact h.symm
  | [x],hne=>exact absurd rfl (hne x)
  | _::_::_,_=>exact h.symm
 ·cases h
theorem EF {s:St} {a:Act} {w:World} {I:Nat→Nat→Prop} {β:zO} {lam:zZ} (hI:Inv F s.look (lk s.sto) I β lam a w) {rv:ResultVar} {ra:zt} {x:AV} (htr:rE P rv=some ra) (hx:p9 s ra=some x) :
  ∃ v,(l7 a.tmps rv).run P w=.ok v w∧R I w β lam x v∧∃ y,x=strip y:=by
 have hget:∀ n,R I w β lam (s.get n) (a.tmps.getD n undef):=fun n=>hI.opd (.tmp n)
 cases rv with
 | tmp t =>
  simp only[rE,Option.some.injEq] at htr
  subst htr
  simp only[p9,Option.some.injEq] at hx
  subst hx
  exact ⟨_,rfl,(hget t).strip,_,rfl⟩
 | cell p t =>
  simp only[rE,Option.map_eq_some_iff] at htr
  obtain ⟨k,hk,rfl⟩:=htr
  simp only[p9] at hx
  split at hx
  ·rename_i j off hp
   split at hx
   ·rename_i cells hs
    simp only[Option.map_eq_some_iff] at hx
    obtain ⟨y,hy,rfl⟩:=hx
    have hR:=hget p
    rw[hp] at hR
    obtain ⟨b,hb,hv⟩:=hR.ptr_inv
    have hE:=hI.hread _ _ _ hs hb
    obtain ⟨v,hr,hRv⟩:=Ys (o:=0) hk hy (fun j c hj=>by
     obtain ⟨v,h1,_,h3,h4⟩:=hE j c hj
     exact ⟨v,by rw[Nat.zero_add]; exact h1,h3,h4⟩)
    rw[Nat.zero_add] at hr
    refine ⟨v,?_,hRv.strip,_,rfl⟩
    simp only[Instr.loadAt,Instr.sureAddr,Sem.run_bind,Sem.run_pure,Result.andThen_ok] at hr
    simp only[l7,hv,asAddr,Sem.run_bind,Sem.run_pure,Result.andThen_ok]
    exact hr
   ·cases hx
  ·cases hx
theorem EJ {s:St} {a:Act} {w:World} {I:Nat→Nat→Prop} {β:zO} {lam:zZ} (hI:Inv F s.look (lk s.sto) I β lam a w) {rv:ResultVar} {ra:zt} {x:AV} (htr:rE P rv=some ra) (hx:UK s ra=some x) :
  ∃ v,(l7 a.tmps rv).run P w=.ok v w∧R0 (Seen I β lam) w x v:=by
 have hget:∀ n,R I w β lam (s.get n) (a.tmps.getD n undef):=fun n=>hI.opd (.tmp n)
 cases rv with
 | tmp t =>
  simp only[rE,Option.some.injEq] at htr
  subst htr
  exact ⟨_,rfl,(Zl hI.hread hI.usto hx (hget t)).1⟩
 | cell p t =>
  simp only[rE,Option.map_eq_some_iff] at htr
  obtain ⟨k,hk,rfl⟩:=htr
  simp only[UK] at hx
  split at hx
  ·rename_i j off hp
   split at hx
   ·rename_i cells hs
    split at hx
    ·rename_i y hy
     have hR:=hget p
     rw[hp] at hR
     obtain ⟨b,hb,hv⟩:=hR.ptr_inv
     have hE:=hI.hread _ _ _ hs hb
     obtain ⟨v,hr,hRv⟩:=Ys (o:=0) hk hy (fun j c hj=>by
      obtain ⟨v,h1,_,h3,h4⟩:=hE j c hj
      exact ⟨v,by rw[Nat.zero_add]; exact h1,h3,h4⟩)
     rw[Nat.zero_add] at hr
     refine ⟨v,?_,(Zl hI.hread hI.usto hx hRv).1⟩
     simp only[Instr.loadAt,Instr.sureAddr,Sem.run_bind,Sem.run_pure,Result.andThen_ok] at hr
     simp only[l7,hv,asAddr,Sem.run_bind,Sem.run_pure,Result.andThen_ok]
     exact hr
    ·cases hx
   ·cases hx
  ·cases hx
theorem QF {rd:zt→Option AV} {Rel:AV→Value→Prop} {tmps:Array Value} {w:World} (hrd:∀ rv ra x,rE P rv=some ra→rd ra=some x→∃ v,(l7 tmps rv).run P w=.ok v w∧Rel x v) :
  ∀ (rvs:List ResultVar) (ras:List zt) (xs:List AV),
  yA (rE P) rvs=some ras→yA rd ras=some xs →
  ∃ vs:List Value,(rvs.mapM (l7 tmps)).run P w=.ok vs w ∧
   vs.length=xs.length∧∀ (i:Nat) (x:AV),xs[i]?=some x→∃ v,vs[i]?=some v∧Rel x v:=by
 intro rvs
 induction rvs with
 | nil =>
  intro ras xs h1 h2
  simp only[yA,Option.some.injEq] at h1
  subst h1
  simp only[yA,Option.some.injEq] at h2
  subst h2
  exact ⟨[],rfl,rfl,fun i x h=>by simp at h⟩
 | cons rv rvs ih =>
  intro ras xs h1 h2
  simp only[yA] at h1
  split at h1
  ·rename_i ra hra
   simp only[Option.map_eq_some_iff] at h1
   obtain ⟨ras',h1,rfl⟩:=h1
   simp only[yA] at h2
   split at h2
   ·rename_i x hx
    simp only[Option.map_eq_some_iff] at h2
    obtain ⟨xs',h2,rfl⟩:=h2
    obtain ⟨v,hv,hR⟩:=hrd rv ra x hra hx
    obtain ⟨vs,g1,g2,g3⟩:=ih ras' xs' h1 h2
    refine ⟨v::vs,?_,by simp[g2],fun i x' hi=>?_⟩
    ·rw[List.mapM_cons,Sem.run_bind,hv]
     simp only[Result.andThen_ok,Sem.run_bind,g1,Sem.run_pure]
    ·cases i with
     | zero=>simp at hi; subst hi; exact ⟨v,rfl,hR⟩
     | succ i=>simp at hi; simpa using g3 i x' hi
   ·cases h2
  ·cases h1
theorem ZO {fn:Func} {rd:zt→Option AV} {Rel:AV→Value→Prop} {tmps:Array Value} {w:World} (hrd:∀ rv ra x,rE P rv=some ra→rd ra=some x→∃ v,(l7 tmps rv).run P w=.ok v w∧Rel x v)
  (htup:∀ (xs:List AV) (vs:Array Value),yA rd (Option.getD (yA (rE P) fn.results.toList) [])=some xs→vs.size=xs.length→(∀ i x,xs[i]?=some x→Rel x (vs.getD i undef))→Rel (.tuple xs) (.tuple vs))
  {ras:List zt} {xs:List AV} (h1:yA (rE P) fn.results.toList=some ras) (h2:yA rd ras=some xs):∃ v,(results fn tmps).run P w=.ok v w∧Rel (tup xs) v:=by
 obtain ⟨vl,g1,g2,g3⟩:=QF hrd fn.results.toList ras xs h1 h2
 rw[h1] at htup
 simp only[Option.getD_some] at htup
 refine ⟨if h:vl.toArray.size=1 then vl.toArray[0] else .tuple vl.toArray,?_,?_⟩
 ·have e:results fn tmps=(fn.results.mapM (l7 tmps) >>= fun vs=>pure (if h:vs.size=1 then vs[0] else .tuple vs)):=by
   unfold results
   congr 1
   first | done | (congr 1; funext x; cases x<;>rfl)
  rw[e,Array.mapM_eq_mapM_toList,Sem.run_bind,Sem.run_map,g1]
  rfl
 ·have gt:∀ i x,xs[i]?=some x→Rel x (vl.toArray.getD i undef):=fun i x hi=>by
   obtain ⟨v,hv,hRv⟩:=g3 i x hi
   have:vl.toArray.getD i undef=v:=by simp[hv]
   rw[this]
   exact hRv
  match xs,g2,g3,h2,gt with
  | [x],g2,g3,h2,gt =>
   obtain ⟨v,hv,hRv⟩:=g3 0 x rfl
   have hvl:vl=[v]:=by
    match vl,g2,hv with
    | [v'],_,hv=>simp at hv; rw[hv]
   subst hvl
   simp only[List.size_toArray,List.length_cons,List.length_nil,dite_true]
   exact hRv
  | [],g2,g3,h2,gt =>
   have hvl:vl=[]:=by simpa using g2
   subst hvl
   exact htup [] #[] h2 rfl (fun i c h=>by simp at h)
  | x::y::xs,g2,g3,h2,gt =>
   have hne:¬ vl.toArray.size=1:=by simp at g2 ⊢; omega
   rw[dif_neg hne]
   exact htup _ _ h2 (by simpa using g2) gt
theorem JR {α γ:Type} {f:α→Option γ}:∀ {l:List α} {l':List γ},yA f l=some l'→∀ y∈l',∃ x∈l,f x=some y:=by
 intro l
 induction l with
 | nil=>intro l' h; simp only[yA,Option.some.injEq] at h; subst h; simp
 | cons x l ih =>
  intro l' h
  simp only[yA] at h
  split at h
  ·rename_i y hy
   simp only[Option.map_eq_some_iff] at h
   obtain ⟨l2,h2,rfl⟩:=h
   intro z hz
   rcases List.mem_cons.1 hz with rfl | hz
   ·exact ⟨x,by simp,hy⟩
   ·obtain ⟨x',h3,h4⟩:=ih h2 z hz
    exact ⟨x',by simp[h3],h4⟩
  ·cases h
theorem TQ {x:AV} {sz l:Nat} {rows:List (List AV)}:strip x≠.list sz (.own l) rows:=by
 cases x<;>simp only[strip,ne_eq,reduceCtorEq,not_false_eq_true]
 rename_i sz' m rows'
 cases m<;>simp
theorem Nt {s:St} {ra:zt} {x:AV} (h:p9 s ra=some x):∃ y,x=strip y:=by
 cases ra with
 | t n =>
  simp only[p9,Option.some.injEq] at h
  exact ⟨_,h.symm⟩
 | cell n k =>
  simp only[p9] at h
  split at h
  ·split at h
   ·simp only[Option.map_eq_some_iff] at h
    obtain ⟨y,_,rfl⟩:=h
    exact ⟨_,rfl⟩
   ·cases h
  ·cases h
theorem K0 {f:FuncId} {fn:Func} {code:Code} {ac:zb} {ras:List zt} {args:List AV} {s:St} {K:AV→St→Prop} (B:Nat) (hf:P.funcs[f]?=some fn) (hb:fn.body=some code)
  (htr:yh P fn.ntmps code=some (bare ac)) (hres:yA (rE P) fn.results.toList=some ras) (hn:args.length≤fn.ntmps)
  (h:awp P ac {env:=uT 0 args,sto:=s.sto,out:=s.env::s.out,base:=B} fun e s'=>(e=.normal∨e=.ret)∧∃ xs e0 o0,yA (p9 s') ras=some xs∧s'.out=e0::o0∧K (tup xs) {env:=e0,sto:=s'.sto,out:=o0,base:=s.base}):va P f args s K:=by
 intro F a w I β lam hI vs hs hR
 refine calls_of_wp hf hb ?_
 have hH:Holds {w0:=F.w0,I0:=F.I0,N:=fn.ntmps,outs:=a.tmps::F.outs} {env:=uT 0 args,sto:=s.sto,out:=s.env::s.out,base:=B} {tmps:=vs++Array.replicate (fn.ntmps-vs.size) undef,defers:=[]} w:=by
  refine ⟨I,β,lam,?_⟩
  refine {hI with defers:=rfl,size:=by simp; omega,env:=fun t x ht=>?_}
  obtain ⟨d,t⟩:=t
  cases d with
  | zero =>
   obtain ⟨j,rfl,hj⟩:=SW _ _ _ _ ht
   have hlt:j<vs.size:=by
    have:=(List.getElem?_eq_some_iff.1 hj).1
    omega
   refine ⟨vs.getD j undef,?_,hR j x hj⟩
   simp only[zU.val]
   rw[Nat.zero_add,Array.getElem?_append_left hlt]
   simp[hlt]
  | succ d =>
   cases d with
   | zero =>
    obtain ⟨v,h1,h2⟩:=hI.env (0,t) x ht
    exact ⟨v,h1,h2⟩
   | succ d =>
    obtain ⟨v,h1,h2⟩:=hI.env (d+1,t) x ht
    exact ⟨v,h1,h2⟩
 refine Xc (F:={w0:=F.w0,I0:=F.I0,N:=fn.ntmps,outs:=a.tmps::F.outs}) code ac htr hH h fun e s' a' w' _ hK hH'=>?_
 obtain ⟨he,xs,e0,o0,hxs,hout,hK⟩:=hK
 obtain ⟨I',β',lam',hI'⟩:=hH'
 obtain ⟨v,hrun,hRv⟩:=ZO (fn:=fn) (rd:=p9 s') (Rel:=R I' w' β' lam') (fun rv ra x h1 h2=>by
   obtain ⟨v,g1,g2,_⟩:=EF hI' h1 h2
   exact ⟨v,g1,g2⟩) (fun xs vs h1 h2 h3=>by
   refine .tuple xs vs h2 (fun sz l rows hm=>?_) h3
   obtain ⟨ra,_,hra⟩:=JR h1 _ hm
   obtain ⟨y,hy⟩:=Nt hra
   exact TQ hy.symm) hres hxs
 have hpop:Inv F (St.look {env:=e0,sto:=s'.sto,out:=o0,base:=s.base}) (lk s'.sto) I' β' lam' a w':=by
  refine {hI' with defers:=hI.defers,size:=hI.size,env:=fun t x ht=>?_}
  have key:s'.look (t.1+1,t.2)=some x:=by
   obtain ⟨d,t⟩:=t
   simp only[St.look,hout] at ht ⊢
   cases d with
   | zero=>exact ht
   | succ d=>exact ht
  obtain ⟨v,h1,h2⟩:=hI'.env _ x key
  refine ⟨v,?_,h2⟩
  obtain ⟨d,t⟩:=t
  cases d with
  | zero=>exact h1
  | succ d=>exact h1
 have hpost:a'.defers=[]∧∃ v,(results fn a'.tmps).run P w'=.ok v w'∧∃ u,Ending.returned v=.returned u∧∃ r s' I' β' lam',K r s'∧Inv F s'.look (lk s'.sto) I' β' lam' a w'∧R I' w' β' lam' r u :=
  ⟨hI'.defers,v,hrun,v,rfl,tup xs,_,I',β',lam',hK,hpop,hRv⟩
 rcases he with rfl | rfl
 ·exact hpost
 ·exact hpost
def AV.imp (x y:AV):Prop:=∀ (I:Nat→Nat→Prop) (w:World) (v:Value),R0 I w x v→R0 I w y v
theorem AV.imp.refl {x:AV}:AV.imp x x:=fun _ _ _ h=>h
theorem G4 {f:FuncId} {fn:Func} {code:Code} {ac:zb} {ras:List zt} {args:List AV} {r:AV} {K:Exit→St→Prop} (hK0:∀ e s,K e s→(e=.normal∨e=.ret)∧∃ r0,rC ras s=some r0∧AV.imp r0 r) (hf:P.funcs[f]?=some fn) (hb:fn.body=some code)
  (htr:yh P fn.ntmps code=some (bare ac)) (hres:yA (rE P) fn.results.toList=some ras) (hn:args.length≤fn.ntmps)
  (h:awp P ac {env:=uT 0 args,sto:=[]} K):zf P f args r:=by
 intro I vs w hI hs hR
 refine calls_of_wp hf hb ?_
 have hH:Holds {w0:=w,I0:=I,N:=fn.ntmps} {env:=uT 0 args,sto:=[]} {tmps:=vs++Array.replicate (fn.ntmps-vs.size) undef,defers:=[]} w:=by
  refine ⟨I,fun _=>none,fun _=>none,?_⟩
  refine
   {defers:=rfl
    size:=by simp; omega
    below:=Below.refl _ _
    env:=fun t x ht=>?_
    sto:=fun k en hk=>by simp[lk] at hk
    usto:=fun l sz rows hk=>by simp[lk] at hk
    bdom:=fun k b hk=>by cases hk
    binj:=fun k k' b hk=>by cases hk
    bnew:=fun k b hk=>by cases hk
    Isub:=hI
    I0sub:=fun _ _ h=>h
    Inew:=fun _ _ h=>.inl h
    spare:=fun l a len cap sz hl=>by cases hl
    ldis:=fun l l' b o o' len len' cap cap' sz sz' _ h1=>by cases h1}
  obtain ⟨d,t⟩:=t
  cases d with
  | succ d=>simp[St.look] at ht
  | zero=>?_
  obtain ⟨j,rfl,hj⟩:=SW _ _ _ _ ht
  have hlt:j<vs.size:=by
   have:=(List.getElem?_eq_some_iff.1 hj).1
   omega
  refine ⟨vs.getD j undef,?_,.base (hR j x hj)⟩
  simp only[zU.val]
  rw[Nat.zero_add,Array.getElem?_append_left hlt]
  simp[hlt]
 refine Xc (F:={w0:=w,I0:=I,N:=fn.ntmps}) code ac htr hH h fun e s a' w' _ hK hH'=>?_
 obtain ⟨he,r0,hr,himp⟩:=hK0 _ _ hK
 obtain ⟨I',β,lam,hI'⟩:=hH'
 obtain ⟨xs,hxs,rfl⟩:=Gt hr
 have hJ:∀ b o,Seen I' β lam b o→(I b o∨w.heap.size≤b)∧b<w'.heap.size:=by
  intro b o hb
  rcases hb with hb | ⟨k,hb⟩ | ⟨l,p,cap,sz,hl,h0⟩
  ·exact ⟨hI'.Inew b o hb,hI'.Isub b o hb⟩
  ·exact ⟨.inr (hI'.bnew k b hb).1,(hI'.bnew k b hb).2.1⟩
  ·obtain ⟨g1,g2,_⟩:=hI'.ublock hl h0
   exact ⟨.inr g1,g2⟩
 obtain ⟨v,hrun,hRv⟩:=ZO (fn:=fn) (rd:=UK s) (Rel:=R0 (fun b o=>(I b o∨w.heap.size≤b)∧b<w'.heap.size) w') (fun rv ra x h1 h2=>by
   obtain ⟨v,g1,g2⟩:=EJ hI' h1 h2
   exact ⟨v,g1,g2.mono hJ (fun _ _ _ _ h=>h)⟩) (fun xs vs _ h2 h3=>.tuple xs vs h2 h3) hres hxs
 have hpost:a'.defers=[]∧∃ v,(results fn a'.tmps).run P w'=.ok v w'∧∃ u,Ending.returned v=.returned u∧Below w.heap.size w w'∧R0 (fun b o=>(I b o∨w.heap.size≤b)∧b<w'.heap.size) w' r u :=
  ⟨hI'.defers,v,hrun,v,rfl,hI'.below,himp _ _ _ hRv⟩
 rcases he with rfl | rfl
 ·exact hpost
 ·exact hpost
end
def zl (P:Program) (f:FuncId):Option (zb × List zt × Nat) :=
 match P.funcs[f]? with
 | some fn=>match fn.body with
  | some c=>match yh P fn.ntmps c,yA (rE P) fn.results.toList with
   | some a,some r=>some (a,r,fn.ntmps)
   | _,_=>none
  | none=>none
 | none=>none
theorem Kl {P:Program} {f:FuncId} {ac:zb} {ras:List zt} {N:Nat} {args:List AV} {r:AV} {K:Exit→St→Prop} (hK0:∀ e s,K e s→(e=.normal∨e=.ret)∧∃ r0,rC ras s=some r0∧AV.imp r0 r) (ht:zl P f=some (bare ac,ras,N)) (hn:args.length≤N)
  (h:awp P ac {env:=uT 0 args,sto:=[]} K):zf P f args r:=by
 unfold zl at ht
 split at ht
 ·rename_i fn hf
  split at ht
  ·rename_i c hb
   split at ht
   ·rename_i a r' ha hr
    simp only[Option.some.injEq,Prod.mk.injEq] at ht
    obtain ⟨rfl,rfl,rfl⟩:=ht
    exact G4 hK0 hf hb ha hr hn h
   ·cases ht
  ·cases ht
 ·cases ht
theorem sound {P:Program} {f:FuncId} {ac:zb} {ras:List zt} {N:Nat} {args:List AV} {r:AV} (ht:zl P f=some (bare ac,ras,N)) (hn:args.length≤N)
  (h:awp P ac {env:=uT 0 args,sto:=[]} fun e s=>(e=.normal∨e=.ret)∧rC ras s=some r):zf P f args r :=
 Kl (fun _ _ h=>⟨h.1,r,h.2,AV.imp.refl⟩) ht hn h
theorem Kk {P:Program} {f:FuncId} {ac:zb} {ras:List zt} {N:Nat} {args:List AV} {s:St} {K:AV→St→Prop} (B:Nat) (ht:zl P f=some (bare ac,ras,N)) (hn:args.length≤N)
  (h:awp P ac {env:=uT 0 args,sto:=s.sto,out:=s.env::s.out,base:=B} fun e s'=>(e=.normal∨e=.ret)∧∃ xs e0 o0,yA (p9 s') ras=some xs∧s'.out=e0::o0∧K (tup xs) {env:=e0,sto:=s'.sto,out:=o0,base:=s.base}):va P f args s K:=by
 unfold zl at ht
 split at ht
 ·rename_i fn hf
  split at ht
  ·rename_i c hb
   split at ht
   ·rename_i a r' ha hr
    simp only[Option.some.injEq,Prod.mk.injEq] at ht
    obtain ⟨rfl,rfl,rfl⟩:=ht
    exact K0 B hf hb ha hr hn h
   ·cases ht
  ·cases ht
 ·cases ht
abbrev iv (n:Int):AV:=.val (.int .i64 n)
abbrev bv (b:Bool):AV:=.val (.bool b)
def PZ (D DK:List Nat) (K:Exit→St→Prop):St→Prop:=fun s=>aX (s.drop D) DK fun s=>K .normal s
def Ch (P:Program) (ops:List zg) (D DK:List Nat) (K:Exit→St→Prop):St→Prop:=fun s=>zh P ops s (PZ D DK K)
def rk (P:Program) (b:zb) (K:Exit→St→Prop):Exit→St→Prop:=Rw (awp P b) K
def wA (id:Nat) (K:Exit→St→Prop):Exit→St→Prop:=cY id K
def bR (P:Program) (os:List zg) (K:St→Prop):St→Prop:=fun s=>zh P os s K
def xl (P:Program) (os:List zg) (s:St) (d:Option Nat) (K:St→Prop):AV→Option zd→Prop:=fun x e=>zh P os ((s.put d x).new d e) K
def pB (x:AV) (A B:Prop):Prop :=
 match x with
 | .val (.bool c)=>(c=true→A)∧(c=false→B)
 | _=>False
def rZ (x:AV) (b:Bool) (A B:Prop):Prop :=
 match x with
 | .val (.bool c)=>(c=b→A)∧(c=!b→B)
 | .val _=>B
 | _=>False
theorem B9 {s:St} {n:Nat}:ev s (.t n)=(lk s.env n).getD .undef:=congrArg (fun x=>x) rfl
theorem B8 {s:St} {x:AV}:ev s (.c x)=x:=congrArg (fun x=>x) rfl
theorem DR {s:St} {n:Nat}:s.get n=(lk s.env n).getD .undef:=congrArg (fun x=>x) rfl
@[congr] theorem CE {x x':AV} {A B:Prop} (h:Unit→x=x'):pB x A B=pB x' A B:=by rw[h ()]
@[congr] theorem DS {x x':AV} {b:Bool} {A B:Prop} (h:Unit→x=x'):rZ x b A B=rZ x' b A B:=by rw[h ()]
section
variable {P:Program} {s:St} {K:Exit→St→Prop} {KS:St→Prop} {os:List zg}
theorem PQ {A B:Prop}:pB (bv true) A B=A:=by simp[pB]
theorem Qi {A B:Prop}:pB (bv false) A B=B:=by simp[pB]
theorem PP {c:Bool} {A B:Prop}:pB (bv c) A B=((c=true→A)∧(c=false→B)):=propext Iff.rfl
theorem P4 {b:Bool} {A B:Prop}:rZ (bv b) b A B=A:=by cases b<;>simp[rZ]
theorem SL {A B:Prop}:rZ (bv true) false A B=B:=by simp[rZ]
theorem SM {A B:Prop}:rZ (bv false) true A B=B:=by simp[rZ]
theorem Qw {b:Bool} {A B:Prop}:rZ (.val undef) b A B=B:=propext Iff.rfl
theorem KU:awp P .skip s K=K .normal s:=propext Iff.rfl
theorem PJ {d:Bool} {FK:List Nat} {D DK:List Nat} {ops:List zg}:awp P (.region d FK ops D DK) s K=uA FK s (Ch P ops D DK K):=propext Iff.rfl
theorem FB {a b:zb}:awp P (.seq a b) s K=awp P a s (rk P b K):=propext Iff.rfl
theorem KQ {c:Opd} {a b:zb}:awp P (.cond c a b) s K=pB (ev s c) (awp P a s K) (awp P b s K):=propext Iff.rfl
theorem Mi {id:Nat} {a:zb}:awp P (.block id a) s K=awp P a s (wA id K):=propext Iff.rfl
theorem KT {l:Nat}:awp P (.goto l) s K=K (.goto l) s:=propext Iff.rfl
theorem KR {id:Nat}:awp P (.exit id) s K=K (.exit id) s:=propext Iff.rfl
theorem FA:awp P .ret s K=K .ret s:=propext Iff.rfl
theorem EH {D DK:List Nat} {ops:List zg}:Ch P ops D DK K s=zh P ops s (PZ D DK K):=propext Iff.rfl
theorem Q7 {D DK:List Nat}:PZ D DK K s=(mN (lk s.sto) (DK.map (s.base+·)) ⟨del D s.env,del (DK.map (s.base+·)) s.sto,s.out,s.base⟩=true∧K .normal ⟨del D s.env,del (DK.map (s.base+·)) s.sto,s.out,s.base⟩):=propext Iff.rfl
theorem Q3 {α:Type} (l:List (Nat × α)):del [] l=l:=by
 induction l with
 | nil=>rfl
 | cons p l ih=>simp[del,ih]
theorem Jy {D:List Nat}:PZ D [] K s=K .normal ⟨del D s.env,s.sto,s.out,s.base⟩:=by
 rw[Q7]
 simp[mN,Q3]
theorem QJ {b:zb}:rk P b K .normal s=awp P b s K:=propext Iff.rfl
theorem LV {b:zb} {i:Nat}:rk P b K (.exit i) s=K (.exit i) s:=propext Iff.rfl
theorem GJ {b:zb}:rk P b K .ret s=K .ret s:=propext Iff.rfl
theorem TH {i:Nat}:wA i K .normal s=K .normal s:=propext Iff.rfl
theorem Qd {i j:Nat}:wA i K (.exit j) s=if j=i then K .normal s else K (.exit j) s:=propext Iff.rfl
theorem PK {i:Nat}:wA i K .ret s=K .ret s:=propext Iff.rfl
theorem LW {b:zb} {i:Nat}:rk P b K (.goto i) s=K (.goto i) s:=propext Iff.rfl
theorem Qe {i j:Nat}:wA i K (.goto j) s=K (.goto j) s:=propext Iff.rfl
theorem Qt:uA [] s KS=KS s:=propext Iff.rfl
theorem EB:zh P [] s KS=KS s:=propext Iff.rfl
theorem Lq {d:Option Nat} {op:AOp} {xs:List Opd} {g:Nat} {b:Bool}:zh P (⟨d,op,xs,some (g,b)⟩::os) s KS =
  rZ (s.get g) b (zh P (⟨d,op,xs,none⟩::os) s KS) (zh P os (s.put d (.val undef)) KS):=propext Iff.rfl
variable {d:Nat}
theorem EA {x:Opd}:zh P (⟨some d,.mov,[x],none⟩::os) s KS=zh P os ⟨pt s.env d (ev s x),s.sto,s.out,s.base⟩ KS:=propext Iff.rfl
theorem J8 {c a b:Opd}:zh P (⟨some d,.pick,[c,a,b],none⟩::os) s KS=pB (ev s c) (zh P os ⟨pt s.env d (ev s a),s.sto,s.out,s.base⟩ KS) (zh P os ⟨pt s.env d (ev s b),s.sto,s.out,s.base⟩ KS):=by
 show (match [ev s c,ev s a,ev s b] with | [.val (.bool t),a,b]=>(t=true→xl P os s (some d) KS a none)∧(t=false→xl P os s (some d) KS b none) | _=>False)=_
 unfold pB
 cases ev s c<;>try rfl
 rename_i v
 cases v<;>rfl
theorem Lj {cells:List AV}:zh P (⟨some d,.alloc cells,[],none⟩::os) s KS=(lk s.sto (s.base+d)=none∧zh P os ⟨pt s.env d (.ptr (s.base+d) 0),pt s.sto (s.base+d) (.var cells),s.out,s.base⟩ KS):=propext Iff.rfl
def p6 (x:Option AV) (P:Program) (os:List zg) (s:St) (d:Nat) (KS:St→Prop):Prop :=
 match x with
 | some v=>zh P os ⟨pt s.env d v,s.sto,s.out,s.base⟩ KS
 | none=>False
theorem Lv {v:AV}:p6 (some v) P os s d KS=zh P os ⟨pt s.env d v,s.sto,s.out,s.base⟩ KS:=propext Iff.rfl
theorem Ew {d:Option Nat} {o:BinOp} {t:TypeId} {ox oy:Operand} {x y:Opd}:zh P (⟨d,.bin o t ox oy,[x,y],none⟩::os) s KS=yc P o t ox oy [ev s x,ev s y] (xl P os s d KS):=propext Iff.rfl
theorem J4 {d:Option Nat} {n:Option Nat} {x:Opd}:zh P (⟨d,.load n,[x],none⟩::os) s KS=pD (lk s.sto) n [ev s x] (xl P os s d KS):=propext Iff.rfl
theorem Ni {d:Option Nat} {n m:Nat} {x y:Opd}:zh P (⟨d,.iaddrA n m,[x,y],none⟩::os) s KS=qq n m [ev s x,ev s y] (xl P os s d KS):=propext Iff.rfl
theorem Nj {d:Option Nat} {n:Nat} {x y:Opd}:zh P (⟨d,.iaddrS n,[x,y],none⟩::os) s KS=ww n [ev s x,ev s y] (xl P os s d KS):=propext Iff.rfl
theorem Ls {d:Option Nat} {n:Nat} {a b c:Bool} {xs:List Opd}:zh P (⟨d,.slice n a b c,xs,none⟩::os) s KS=ug n a b c (xs.map (ev s)) (xl P os s d KS):=propext Iff.rfl
theorem Ca {d:Option Nat} {n m:Nat} {z:List AV} {x y:Opd}:zh P (⟨d,.mk n m z,[x,y],none⟩::os) s KS=eMk n m z (s.base+d.getD 0) (lk s.sto) [ev s x,ev s y] (xl P os s d KS):=propext Iff.rfl
theorem Ey {d:Option Nat} {b:Bool} {x:Opd}:zh P (⟨d,.len b,[x],none⟩::os) s KS=mn b [ev s x] (xl P os s d KS):=propext Iff.rfl
theorem J1 {d:Option Nat} {f:FuncId} {xs:List Opd}:zh P (⟨d,.call f,xs,none⟩::os) s KS=xK P f (lk s.sto) (xs.map (ev s)) (xl P os s d KS):=propext Iff.rfl
theorem Ez {d:Nat} {f:FuncId} {xs:List Opd}:zh P (⟨some d,.mkb f,xs,none⟩::os) s KS=zh P os ⟨pt s.env d (.fn (.via 0 #[] f false) ((xs.map (ev s)).map strip)),s.sto,s.out,s.base⟩ KS:=propext Iff.rfl
theorem J5 {d:Nat} {f:FuncId} {xs:List Opd}:zh P (⟨some d,.mkfn f,xs,none⟩::os) s KS=zh P os ⟨pt s.env d (.fn (.func f) ((xs.map (ev s)).map strip)),s.sto,s.out,s.base⟩ KS:=propext Iff.rfl
theorem J6 {d:Nat} {t:TypeId} {x:Opd}:zh P (⟨some d,.mkif t,[x],none⟩::os) s KS=(rf (ev s x)=true∧zh P os ⟨pt s.env d (.iface t (strip (ev s x))),s.sto,s.out,s.base⟩ KS):=propext Iff.rfl
def unA (P:Program) (op:UnOp):AV→Option AV
 | .val v=>(zn P (Op.unary op v)).map ofV
 | _=>none
def gZ (P:Program) (a b:TypeId):AV→Option AV
 | .val v=>(zn P (convert a b v)).map ofV
 | .list _ _ rows=>match nP rows with
  | some ns=>if a8 P a b=true then some (.val (.string (strOfNums ns))) else none
  | none=>none
 | _=>none
def j9 (off:Nat) (n:Option Nat):AV→Option AV
 | .agg cells=>wO cells off n
 | .raw cells=>zx cells off n
 | _=>none
def SC (off:Nat):AV→Option AV
 | .ptr j o=>some (.ptr j (o+off))
 | .eptr j sz i o=>some (.eptr j sz i (o+off))
 | .up j sz i o=>some (.up j sz i (o+off))
 | .ro cells=>some (.ro (cells.drop off))
 | _=>none
def Xm (i:Nat):AV→Option AV
 | .tuple vs=>vs[i]?
 | _=>none
def JX:AV→Option AV
 | .ptr j off=>some (.ptr j off)
 | .eptr j sz i off=>some (.eptr j sz i off)
 | .up j sz i off=>some (.up j sz i off)
 | .ro cells=>some (.ro cells)
 | .fn f caps=>some (.fn f caps)
 | _=>none
theorem Cc {o:UnOp} {x:Opd}:zh P (⟨some d,.un o,[x],none⟩::os) s KS=p6 (unA P o (ev s x)) P os s d KS:=by
 show zw P (s.base+d) (.un o) [ev s x] (lk s.sto) (xl P os s (some d) KS)=_
 simp only[zw]
 cases ev s x<;>try rfl
 rename_i v
 simp only[unA]
 cases zn P (Op.unary o v)<;>rfl
theorem J2 {a b:TypeId} {x:Opd}:zh P (⟨some d,.conv a b,[x],none⟩::os) s KS=p6 (gZ P a b (ev s x)) P os s d KS:=by
 show zw P (s.base+d) (.conv a b) [ev s x] (lk s.sto) (xl P os s (some d) KS)=_
 simp only[zw]
 cases ev s x<;>try rfl
 ·rename_i v
  simp only[gZ]
  cases zn P (convert a b v)<;>rfl
 ·rename_i sz m rows
  simp only[gZ]
  cases nP rows with
  | none=>rfl
  | some ns =>
   by_cases h:a8 P a b=true
   ·simp only[h,if_true,true_and]; rfl
   ·simp only[h,Bool.false_eq_true,if_false,false_and]; rfl
theorem Lp {off:Nat} {n:Option Nat} {x:Opd}:zh P (⟨some d,.field off n,[x],none⟩::os) s KS=p6 (j9 off n (ev s x)) P os s d KS:=by
 show zw P (s.base+d) (.field off n) [ev s x] (lk s.sto) (xl P os s (some d) KS)=_
 simp only[zw]
 cases ev s x<;>try rfl
 ·rename_i v
  simp only[j9]
  cases wO v off n<;>rfl
 ·rename_i v
  simp only[j9]
  cases zx v off n<;>rfl
theorem Lo {off:Nat} {x:Opd}:zh P (⟨some d,.faddr off,[x],none⟩::os) s KS=p6 (SC off (ev s x)) P os s d KS:=by
 show zw P (s.base+d) (.faddr off) [ev s x] (lk s.sto) (xl P os s (some d) KS)=_
 simp only[zw]
 cases ev s x<;>rfl
theorem QA {i:Nat} {x:Opd}:zh P (⟨some d,.extract i,[x],none⟩::os) s KS=p6 (Xm i (ev s x)) P os s d KS:=by
 show zw P (s.base+d) (.extract i) [ev s x] (lk s.sto) (xl P os s (some d) KS)=_
 simp only[zw]
 cases ev s x<;>try rfl
 rename_i v
 simp only[Xm]
 cases v[i]?<;>rfl
theorem Nm {x:Opd}:zh P (⟨some d,.nilChk,[x],none⟩::os) s KS=p6 (JX (ev s x)) P os s d KS:=by
 show zw P (s.base+d) .nilChk [ev s x] (lk s.sto) (xl P os s (some d) KS)=_
 simp only[zw]
 cases ev s x<;>rfl
theorem Lk {z:List AV} {ps:List (Nat × Nat)} {xs:List Opd}:zh P (⟨some d,.build z ps,xs,none⟩::os) s KS=p6 (orR (vh z ps (xs.map (ev s))) (sA z ps (xs.map (ev s)))) P os s d KS:=by
 show zw P (s.base+d) (.build z ps) (xs.map (ev s)) (lk s.sto) (xl P os s (some d) KS)=_
 simp only[zw]
 cases orR (vh z ps (xs.map (ev s))) (sA z ps (xs.map (ev s)))<;>rfl
def orL (sz:Nat):Option (List (List AV))→Option (List (List AV))→Option AV
 | some rows,_=>some (.list sz .full rows)
 | none,some rows=>some (.lit sz rows)
 | none,none=>none
@[congr] theorem BT {a a' b:Option (List AV)} (h:a=a'):orR a b=orR a' b:=by rw[h]
@[congr] theorem BS {sz:Nat} {a a' b:Option (List (List AV))} (h:a=a'):orL sz a b=orL sz a' b:=by rw[h]
theorem Gg {cs:List AV} {b:Option (List AV)}:orR (some cs) b=some (.agg cs):=by cases b<;>exact congrArg (fun x=>x) rfl
theorem Gf {b:Option (List AV)}:orR none b=b.map .raw:=by cases b<;>exact congrArg (fun x=>x) rfl
theorem Ge {sz:Nat} {rows:List (List AV)} {b:Option (List (List AV))}:orL sz (some rows) b=some (.list sz .full rows):=by cases b<;>exact congrArg (fun x=>x) rfl
theorem Gd {sz:Nat} {b:Option (List (List AV))}:orL sz none b=b.map (.lit sz):=by cases b<;>exact congrArg (fun x=>x) rfl
theorem Rb {sz n:Nat} {z:List AV} {ps:List Nat} {xs:List Opd} (h1:z.length=sz) (h2:0<sz) :
  zh P (⟨some d,.mksliceL sz n z ps,xs,none⟩::os) s KS=p6 ((wu sz (List.replicate n z) ps (xs.map (ev s))).map (.lit sz)) P os s d KS:=by
 show zw P (s.base+d) (.mksliceL sz n z ps) (xs.map (ev s)) (lk s.sto) (xl P os s (some d) KS)=_
 simp only[zw]
 cases wu sz (List.replicate n z) ps (xs.map (ev s)) with
 | none=>rfl
 | some rows=>simp only[h1,h2,true_and]; rfl
theorem Lr:zh P (⟨some d,.mkmap,[],none⟩::os) s KS=(lk s.sto (s.base+d)=none∧zh P os ⟨pt s.env d (.mp (s.base+d)),pt s.sto (s.base+d) (.map #[] 0),s.out,s.base⟩ KS):=propext Iff.rfl
theorem Nk {d:Option Nat} {t:TypeId} {ok:Bool} {x y:Opd}:zh P (⟨d,.lookup t ok,[x,y],none⟩::os) s KS=vf P t ok (lk s.sto) [ev s x,ev s y] (xl P os s d KS):=propext Iff.rfl
theorem Nl {d:Option Nat} {t:TypeId} {x y z:Opd}:zh P (⟨d,.mapset t,[x,y,z],none⟩::os) s KS=vg P t s d (bR P os KS) [ev s x,ev s y,ev s z]:=propext Iff.rfl
theorem QB {sz n:Nat} {z:List AV} {ps:List Nat} {xs:List Opd} (h1:z.length=sz) (h2:0<sz) :
  zh P (⟨some d,.mkslice sz n z ps,xs,none⟩::os) s KS=p6 (orL sz (uX sz (List.replicate n z) ps (xs.map (ev s))) (wu sz (List.replicate n z) ps (xs.map (ev s)))) P os s d KS:=by
 show zw P (s.base+d) (.mkslice sz n z ps) (xs.map (ev s)) (lk s.sto) (xl P os s (some d) KS)=_
 simp only[zw]
 cases uX sz (List.replicate n z) ps (xs.map (ev s)) with
 | none =>
  cases wu sz (List.replicate n z) ps (xs.map (ev s)) with
  | none=>rfl
  | some rows=>simp only[h1,h2,true_and]; rfl
 | some rows=>simp only[h1,h2,true_and]; rfl
def Rq (ras:List zt) (r:AV):Exit→St→Prop:=fun e s=>(e=.normal∨e=.ret)∧rC ras s=some r
theorem Gu {ras:List zt} {r:AV}:Rq ras r .ret s=(rC ras s=some r):=by simp[Rq]
theorem QG {ras:List zt} {r:AV}:Rq ras r .normal s=(rC ras s=some r):=by simp[Rq]
theorem zC {f:FuncId} {ac:zb} {ras:List zt} {N:Nat} {args:List AV} {r:AV} (ht:zl P f=some (bare ac,ras,N)) (hn:args.length≤N)
  (h:awp P ac ⟨uT 0 args,[],[],0⟩ (Rq ras r)):zf P f args r:=sound ht hn h
def fZ (ras:List zt) (r:AV):Exit→St→Prop:=fun e s=>(e=.normal∨e=.ret)∧∃ r0,rC ras s=some r0∧AV.imp r0 r
theorem Gv {ras:List zt} {r:AV}:fZ ras r .ret s=∃ r0,rC ras s=some r0∧AV.imp r0 r:=by simp[fZ]
theorem QH {ras:List zt} {r:AV}:fZ ras r .normal s=∃ r0,rC ras s=some r0∧AV.imp r0 r:=by simp[fZ]
theorem uD {f:FuncId} {ac:zb} {ras:List zt} {N:Nat} {args:List AV} {r:AV} (ht:zl P f=some (bare ac,ras,N)) (hn:args.length≤N)
  (h:awp P ac ⟨uT 0 args,[],[],0⟩ (fZ ras r)):zf P f args r:=Kl (fun _ _ h=>h) ht hn h
def Ds (x:Option (List AV)) (P:Program) (os:List zg) (s:St) (d:Nat) (KS:St→Prop):Prop :=
 match x with
 | some cs=>lk s.sto (s.base+d)=none∧zh P os ⟨pt s.env d (.ptr (s.base+d) 0),pt s.sto (s.base+d) (.var cs),s.out,s.base⟩ KS
 | none=>False
theorem Mn {cs:List AV}:Ds (some cs) P os s d KS=(lk s.sto (s.base+d)=none∧zh P os ⟨pt s.env d (.ptr (s.base+d) 0),pt s.sto (s.base+d) (.var cs),s.out,s.base⟩ KS):=propext Iff.rfl
theorem Ex {x:Opd}:zh P (⟨some d,.box,[x],none⟩::os) s KS=Ds (cellsOf (ev s x)) P os s d KS:=propext Iff.rfl
theorem Ga {x:Option AV}:xG x (xl P os s (some d) KS)=p6 x P os s d KS:=by cases x<;>rfl
theorem Rc {x:Option Value}:yU x (xl P os s (some d) KS)=p6 (x.map ofV) P os s d KS:=by cases x<;>rfl
theorem LF {v:AV}:xl P os s (some d) KS v none=zh P os ⟨pt s.env d v,s.sto,s.out,s.base⟩ KS:=propext Iff.rfl
theorem Nr {v:AV}:xl P os s none KS v none=zh P os s KS:=propext Iff.rfl
theorem LG {v:AV} {e:zd}:xl P os s (some d) KS v (some e)=zh P os ⟨pt s.env d v,pt s.sto (s.base+d) e,s.out,s.base⟩ KS:=propext Iff.rfl
theorem Lu {n:Nat} {a b:Opd}:zh P (⟨none,.store n,[a,b],none⟩::os) s KS=rX n s none [ev s a,ev s b] (bR P os KS):=propext Iff.rfl
theorem Qz {sz by_:Nat} {a b:Opd} {d:Option Nat}:zh P (⟨d,.appendU sz by_,[a,b],none⟩::os) s KS=wl sz by_ s d (bR P os KS) [ev s a,ev s b]:=propext Iff.rfl
theorem Ll {f:FuncId} {xs:List Opd} {d:Option Nat}:zh P (⟨d,.callI f,xs,none⟩::os) s KS=(xY P f=true∧sP P f (xs.map (ev s)) s d (bR P os KS)):=propext Iff.rfl
theorem J7 {neg:Bool} {x:Opd} {d:Option Nat}:zh P (⟨d,.nilS neg,[x],none⟩::os) s KS=lI neg s d (bR P os KS) [ev s x]:=propext Iff.rfl
theorem PY {neg:Bool} {d:Option Nat} {sz:Nat} {m:Mode} {rows:List (List AV)} {K:St→Prop}:lI neg s d K [.list sz m rows]=((rows=[]→K (s.put d (bv true))∧K (s.put d (bv false)))∧(rows≠[]→K (s.put d (bv neg)))):=by
 simp only[lI,UC,List.length_eq_zero_iff,ne_eq]
theorem Ev:bR P os KS s=zh P os s KS:=propext Iff.rfl
theorem Nh {sz by_:Nat} {a b:Opd} {d:Option Nat}:zh P (⟨d,.append sz by_,[a,b],none⟩::os) s KS=xu sz by_ s d (bR P os KS) [ev s a,ev s b]:=propext Iff.rfl
end
section
variable {P:Program} {t:TypeId} {ox oy:Operand} {k:IntKind} {a b:Int} {K:AV→Option zd→Prop}
theorem Jl:yc P .add t ox oy [.val (.int k a),.val (.int k b)] K=K (.val (.int k (k.wrap (a+b)))) none:=by
 simp[yc,toV,zn,eqGuard,binOp,Op.intArith,yU,ofV,xh,bind,Sem.bind,pure]
theorem Ju:yc P .sub t ox oy [.val (.int k a),.val (.int k b)] K=K (.val (.int k (k.wrap (a-b)))) none:=by
 simp[yc,toV,zn,eqGuard,binOp,Op.intArith,yU,ofV,xh,bind,Sem.bind,pure]
theorem Js:yc P .mul t ox oy [.val (.int k a),.val (.int k b)] K=K (.val (.int k (k.wrap (a*b)))) none:=by
 simp[yc,toV,zn,eqGuard,binOp,Op.intArith,yU,ofV,xh,bind,Sem.bind,pure]
theorem Jr:yc P .lss t ox oy [.val (.int k a),.val (.int k b)] K=K (bv (decide (a<b))) none:=by
 simp[yc,toV,zn,eqGuard,binOp,Op.intCmp,yU,ofV,xh,bind,Sem.bind,pure]
theorem Jq:yc P .leq t ox oy [.val (.int k a),.val (.int k b)] K=K (bv (decide (a≤b))) none:=by
 simp[yc,toV,zn,eqGuard,binOp,Op.intCmp,yU,ofV,xh,bind,Sem.bind,pure]
theorem Jp:yc P .gtr t ox oy [.val (.int k a),.val (.int k b)] K=K (bv (decide (b<a))) none:=by
 simp[yc,toV,zn,eqGuard,binOp,Op.intCmp,yU,ofV,xh,bind,Sem.bind,pure]
theorem Jo:yc P .geq t ox oy [.val (.int k a),.val (.int k b)] K=K (bv (decide (b≤a))) none:=by
 simp[yc,toV,zn,eqGuard,binOp,Op.intCmp,yU,ofV,xh,bind,Sem.bind,pure]
theorem Jn:yc P .eql t ox oy [.val (.int k a),.val (.int k b)] K=K (bv (decide (a=b))) none:=by
 simp[yc,toV,zn,eqGuard,binOp,Op.intCmp,yU,ofV,xh,bind,Sem.bind,pure]
 rfl
theorem Jt:yc P .neq t ox oy [.val (.int k a),.val (.int k b)] K=K (bv (decide (a≠b))) none:=by
 simp[yc,toV,zn,eqGuard,binOp,Op.intCmp,yU,ofV,xh,bind,Sem.bind,pure]
 rfl
theorem Cz {c:Bool}:zn P (Op.unary .not (.bool c))=some (.bool !c):=by
 simp[zn,Op.unary,pure]
theorem wrap64 {n:Int} (h1:-9223372036854775808≤n) (h2:n≤9223372036854775807):IntKind.i64.wrap n=n:=IntWalk.i64_in n ⟨h1,h2⟩
end
theorem NU {cells:List AV} {off:Nat} {x:AV} (h:off<cells.length):splice cells off [x]=cells.set off x:=by
 unfold splice
 rw[List.set_eq_take_append_cons_drop,if_pos h]
 simp
theorem mJ {cells cs:List AV} (h:cs.length=cells.length):splice cells 0 cs=cs:=by
 unfold splice
 simp[h]
theorem Me (k:Nat) (l:List Int):vA k (l.map iv)=false:=by
 induction l with
 | nil=>rfl
 | cons x l ih=>simp[ih,vA,zT]
theorem RQ:strip∘iv=iv:=rfl
theorem Tk {l:List Int} {n:Nat} (h:l.length=n):zx (l.map iv) 0 (some n)=some (.agg (l.map iv)):=by
 have h1:(l.map iv).all rf=true:=by simp[rf]
 have h2:(l.map iv).map strip=l.map iv:=by simp[RQ]
 simp only[zx,List.drop_zero]
 rw[List.take_of_length_le (by simp; omega),if_pos ⟨by simp; omega,h1⟩,h2]
theorem Qv (cells:List AV) (off:Nat):zx cells off none=cells[off]?:=by simp[zx]
section
variable {σ:Nat→Option zd}
theorem NR:w8 σ .undef=some .undef:=rfl
theorem G3 {v:Value}:w8 σ (.val v)=some (.val v):=rfl
theorem G1 {c:List AV}:w8 σ (.agg c)=some (.agg c):=rfl
theorem NQ {c:List AV}:w8 σ (.tuple c)=if c.all rf=true then some (.tuple (c.map strip)) else none:=rfl
theorem Kj {sz:Nat} {m:Mode} {r:List (List AV)}:w8 σ (.list sz m r)=some (strip (.list sz m r)):=rfl
theorem EW {c:List AV}:w8 σ (.ro c)=some (.ro c):=rfl
theorem G2 {k off:Nat}:w8 σ (.ptr k off)=(match σ k with
  | some (.var cells)=>if (cells.drop off).all rf=true then some (.ro ((cells.drop off).map strip)) else (yA (xM σ) (cells.drop off)).map .ro
  | _=>none):=rfl
theorem Kf {v:Value}:xM σ (.val v)=some (.val v):=rfl
theorem Ke {c:List AV}:xM σ (.agg c)=some (.agg c):=rfl
theorem NN {sz:Nat} {m:Mode} {r:List (List AV)}:xM σ (.list sz m r)=some (strip (.list sz m r)):=rfl
theorem GX {c:List AV}:xM σ (.ro c)=some (.ro c):=rfl
theorem GZ {k sz off n:Nat}:xM σ (.us k sz off n)=(match σ k with
  | some (.uarr sz' rows)=>if sz'=sz∧off+n≤rows.length∧wC ((rows.drop off).take n)=true then some (.list sz .plain (zP ((rows.drop off).take n))) else none
  | _=>none):=rfl
theorem GY {k sz off n:Nat}:xM σ (.sl k sz off n)=(match σ k with
  | some (.arr sz' rows)=>if sz'=sz∧off+n≤rows.length then some (.list sz .plain ((rows.drop off).take n)) else none
  | _=>none):=rfl
theorem Ki {k sz i off:Nat}:w8 σ (.eptr k sz i off)=(match σ k with
  | some (.arr sz' rows)=>if sz'=sz then (rows[i]?).map fun r=>.ro (r.drop off) else none
  | _=>none):=rfl
theorem EX {k sz off n:Nat}:w8 σ (.sl k sz off n)=(match σ k with
  | some (.arr sz' rows)=>if sz'=sz∧off+n≤rows.length then some (.list sz .plain ((rows.drop off).take n)) else none
  | _=>none):=rfl
theorem EZ {k sz off n:Nat}:w8 σ (.us k sz off n)=(match σ k with
  | some (.uarr sz' rows)=>if sz'=sz∧off+n≤rows.length∧wC ((rows.drop off).take n)=true then some (.list sz .plain (zP ((rows.drop off).take n))) else none
  | _=>none):=rfl
theorem EY {k sz i off:Nat}:w8 σ (.up k sz i off)=(match σ k with
  | some (.uarr sz' rows)=>match rows[i]? with
   | some r=>if sz'=sz∧(r.drop off).all rf=true then some (.ro ((r.drop off).map strip)) else none
   | none=>none
  | _=>none):=rfl
theorem NP {t:TypeId} {x:AV}:w8 σ (.iface t x)=some (.iface t x):=rfl
theorem EV {f:Fn} {caps:List AV}:w8 σ (.fn f caps)=(yA (lL σ) caps).map (.fn f):=rfl
theorem Kh {v:Value}:lL σ (.val v)=some (.val v):=rfl
theorem Kg {c:List AV}:lL σ (.agg c)=some (.agg c):=rfl
theorem NO {sz:Nat} {m:Mode} {r:List (List AV)}:lL σ (.list sz m r)=some (strip (.list sz m r)):=rfl
theorem G0 {c:List AV}:lL σ (.ro c)=some (.ro c):=rfl
end
theorem QQ:strip .undef=.undef:=rfl
theorem Kx {v:Value}:strip (.val v)=.val v:=rfl
theorem Kv {c:List AV}:strip (.agg c)=.agg c:=rfl
theorem QP {c:List AV}:strip (.tuple c)=.tuple c:=rfl
theorem G8 {c:List AV}:strip (.ro c)=.ro c:=rfl
theorem Kw {k o:Nat}:strip (.ptr k o)=.ptr k o:=rfl
theorem N4 {k sz i o:Nat}:strip (.eptr k sz i o)=.eptr k sz i o:=rfl
theorem G9 {k sz o n:Nat}:strip (.sl k sz o n)=.sl k sz o n:=rfl
theorem Fb {k sz o n:Nat}:strip (.us k sz o n)=.us k sz o n:=rfl
theorem Fa {k sz i o:Nat}:strip (.up k sz i o)=.up k sz i o:=rfl
theorem QO {t:TypeId} {x:AV}:strip (.iface t x)=.iface t x:=rfl
theorem G7 {f:Fn} {c:List AV}:strip (.fn f c)=.fn f c:=rfl
attribute [simp ↓ low] PP
attribute [simp ↓] PQ Qi P4 SL SM Qw
theorem Rm {k:Nat}:zT k .undef=false:=rfl
theorem Ny {k:Nat} {v:Value}:zT k (.val v)=false:=rfl
theorem Nu {k:Nat} {c:List AV}:zT k (.agg c)=false:=rfl
theorem QE {k sz:Nat} {m:Mode} {r:List (List AV)}:zT k (.list sz m r)=false:=rfl
theorem LJ {k:Nat} {c:List AV}:zT k (.ro c)=false:=rfl
theorem Rk {k:Nat} {t:TypeId} {x:AV}:zT k (.iface t x)=false:=rfl
theorem Nw {k j o:Nat}:zT k (.ptr j o)=(j == k):=rfl
theorem QD {k j a b c:Nat}:zT k (.eptr j a b c)=(j == k):=rfl
theorem LK {k j a b c:Nat}:zT k (.sl j a b c)=(j == k):=rfl
theorem LM {k j a b c:Nat}:zT k (.us j a b c)=(j == k):=rfl
theorem LL {k j a b c:Nat}:zT k (.up j a b c)=(j == k):=rfl
theorem LH {k:Nat} {f:Fn} {c:List AV}:zT k (.fn f c)=c.any (sU k):=rfl
theorem Rl {k:Nat} {c:List AV}:zT k (.tuple c)=c.any (sU k):=rfl
theorem Gy:rf .undef=true:=rfl
theorem Cn {v:Value}:rf (.val v)=true:=rfl
theorem Cj {c:List AV}:rf (.agg c)=true:=rfl
theorem EL {sz:Nat} {m:Mode} {r:List (List AV)}:rf (.list sz m r)=true:=rfl
theorem Bq {c:List AV}:rf (.ro c)=true:=rfl
theorem Gw {t:TypeId} {x:AV}:rf (.iface t x)=true:=rfl
theorem Cl {j o:Nat}:rf (.ptr j o)=false:=rfl
theorem EK {j a b c:Nat}:rf (.eptr j a b c)=false:=rfl
theorem Br {j a b c:Nat}:rf (.sl j a b c)=false:=rfl
theorem Bt {j a b c:Nat}:rf (.us j a b c)=false:=rfl
theorem Bs {j a b c:Nat}:rf (.up j a b c)=false:=rfl
theorem Bo {f:Fn} {c:List AV}:rf (.fn f c)=false:=rfl
theorem Gx {c:List AV}:rf (.tuple c)=false:=rfl
theorem Bp {k:Nat}:rf (.mp k)=false:=rfl
theorem Ck {n:Nat} {c:List (List AV)}:rf (.lit n c)=false:=rfl
theorem Cm {c:List AV}:rf (.raw c)=false:=rfl
theorem LI {j k:Nat}:zT k (.mp j)=(j == k):=rfl
theorem Nv {k n:Nat} {rows:List (List AV)}:zT k (.lit n rows)=rows.any fun r=>r.any (YA k):=rfl
theorem Nx {k:Nat} {c:List AV}:zT k (.raw c)=c.any (YA k):=rfl
attribute [simp] Bp Ck Cm LI Nv Nx YA T2
attribute [simp] Rm Ny Nu QE LJ Rk Nw QD LK LM LL LH Rl sU Gy Cn Cj EL Bq Gw Cl EK Br Bt Bs Bo Gx
attribute [simp] KT LW Qe
attribute [simp] KU PJ FB KQ Mi KR FA EH Jy Q7 QJ LV GJ TH Qd PK Qt EB Lq EA J8 Lj Mn Ex Ew J4 Ni Nj Ls Ca Ey J1 J5 Ez J6 Cc J2 Lp Lo QA Nm Lk QB Rb Lr Nk Nl Gg Gf Ge Gd Gu QG Gv QH Lv Ga Rc LF Nr LG Lu Ev Nh J7 PY Qz Ll Jl Ju Js Jr Jq Jp Jo Jn Jt Me RQ pD qq ww mn vI rX B9 B8 DR lk pt del Tk Qv cellsOf uT rC yA UK NR G3 G1 NQ Kj EW G2 Ki EX EV Kh NO Kg G0 Kf Ke NN GX GZ GY QQ Kx Kv QP G8 Kw N4 G9 G7 EZ EY NP Fb Fa QO St.unmet mN tV zd.isU dA bP bO vA jx jC unA Cz j9 SC Xm JX single Value.oneCell' List.getElem?_eq_getElem
def yn (P:Program) (os:List zg) (s:St) (d:Nat) (KS:St→Prop):AV→Option zd→Prop:=fun x e=>lk s.env d=some x∧lk s.sto (s.base+d)=e∧zh P os s KS
def pY (x:Option AV) (P:Program) (os:List zg) (s:St) (d:Nat) (KS:St→Prop):Prop :=
 match x with
 | some v=>lk s.env d=some v∧lk s.sto (s.base+d)=none∧zh P os s KS
 | none=>False
def Du (x:Option (List AV)) (P:Program) (os:List zg) (s:St) (d:Nat) (KS:St→Prop):Prop :=
 match x with
 | some cs=>lk (del [s.base+d] s.sto) (s.base+d)=none∧lk s.env d=some (.ptr (s.base+d) 0)∧lk s.sto (s.base+d)=some (.var cs)∧zh P os s KS
 | none=>False
section
variable {P:Program} {s:St} {KS:St→Prop} {os:List zg} {d:Nat}
theorem FI {x:AV} {e:Option zd}:yn P os s d KS x e=(lk s.env d=some x∧lk s.sto (s.base+d)=e∧zh P os s KS):=propext Iff.rfl
theorem Ms {x:AV}:pY (some x) P os s d KS=(lk s.env d=some x∧lk s.sto (s.base+d)=none∧zh P os s KS):=propext Iff.rfl
theorem Mp {cs:List AV}:Du (some cs) P os s d KS=(lk (del [s.base+d] s.sto) (s.base+d)=none∧lk s.env d=some (.ptr (s.base+d) 0)∧lk s.sto (s.base+d)=some (.var cs)∧zh P os s KS):=propext Iff.rfl
theorem J9 {x:Option AV}:xG x (yn P os s d KS)=pY x P os s d KS:=by cases x<;>rfl
theorem Gb {x:Option Value}:yU x (yn P os s d KS)=pY (x.map ofV) P os s d KS:=by cases x<;>rfl
theorem Lt {ds:List Nat}:zh P (⟨none,.start ds,[],none⟩::os) s KS=(q7 s.sto s.base ds∧zh P os ⟨del ds s.env,s.sto,s.out,s.base⟩ KS):=propext Iff.rfl
def Ft (P:Program) (os:List zg) (s:St) (d:Nat) (KS:St→Prop):Prop:=lk s.env d=some (.val undef)∧lk s.sto (s.base+d)=none∧zh P os s KS
theorem Mx {op:AOp} {g:Nat} {b:Bool} {xs:List Opd}:zh P (⟨some d,.chkG op g b,xs,none⟩::os) s KS=rZ (s.get g) b (zh P (⟨some d,.chk op,xs,none⟩::os) s KS) (Ft P os s d KS):=propext Iff.rfl
theorem GH:Ft P os s d KS=(lk s.env d=some (.val undef)∧lk s.sto (s.base+d)=none∧zh P os s KS):=propext Iff.rfl
theorem FP {x:Opd}:zh P (⟨some d,.chk .mov,[x],none⟩::os) s KS=yn P os s d KS (ev s x) none:=propext Iff.rfl
theorem K7 {c a b:Opd}:zh P (⟨some d,.chk .pick,[c,a,b],none⟩::os) s KS=pB (ev s c) (yn P os s d KS (ev s a) none) (yn P os s d KS (ev s b) none):=by
 show (match [ev s c,ev s a,ev s b] with | [.val (.bool t),a,b]=>(t=true→yn P os s d KS a none)∧(t=false→yn P os s d KS b none) | _=>False)=_
 unfold pB
 cases ev s c<;>try rfl
 rename_i v
 cases v<;>rfl
theorem Mt {cells:List AV}:zh P (⟨some d,.chk (.alloc cells),[],none⟩::os) s KS=(lk (del [s.base+d] s.sto) (s.base+d)=none∧yn P os s d KS (.ptr (s.base+d) 0) (some (.var cells))):=propext Iff.rfl
theorem FM {x:Opd}:zh P (⟨some d,.chk .box,[x],none⟩::os) s KS=Du (cellsOf (ev s x)) P os s d KS:=by
 show zw P (s.base+d) .box [ev s x] (lk (del [s.base+d] s.sto)) (yn P os s d KS)=_
 simp only[zw]
 cases cellsOf (ev s x)<;>rfl
theorem FL {o:BinOp} {t:TypeId} {ox oy:Operand} {x y:Opd}:zh P (⟨some d,.chk (.bin o t ox oy),[x,y],none⟩::os) s KS=yc P o t ox oy [ev s x,ev s y] (yn P os s d KS):=propext Iff.rfl
theorem K5 {n:Option Nat} {x:Opd}:zh P (⟨some d,.chk (.load n),[x],none⟩::os) s KS=pD (lk (del [s.base+d] s.sto)) n [ev s x] (yn P os s d KS):=propext Iff.rfl
theorem PL {n m:Nat} {x y:Opd}:zh P (⟨some d,.chk (.iaddrA n m),[x,y],none⟩::os) s KS=qq n m [ev s x,ev s y] (yn P os s d KS):=propext Iff.rfl
theorem PM {n:Nat} {x y:Opd}:zh P (⟨some d,.chk (.iaddrS n),[x,y],none⟩::os) s KS=ww n [ev s x,ev s y] (yn P os s d KS):=propext Iff.rfl
theorem My {n:Nat} {a b c:Bool} {xs:List Opd}:zh P (⟨some d,.chk (.slice n a b c),xs,none⟩::os) s KS=ug n a b c (xs.map (ev s)) (yn P os s d KS):=propext Iff.rfl
theorem FN {b:Bool} {x:Opd}:zh P (⟨some d,.chk (.len b),[x],none⟩::os) s KS=mn b [ev s x] (yn P os s d KS):=propext Iff.rfl
theorem K3 {f:FuncId} {xs:List Opd}:zh P (⟨some d,.chk (.call f),xs,none⟩::os) s KS=xK P f (lk (del [s.base+d] s.sto)) (xs.map (ev s)) (yn P os s d KS):=propext Iff.rfl
theorem FO {f:FuncId} {xs:List Opd}:zh P (⟨some d,.chk (.mkb f),xs,none⟩::os) s KS=yn P os s d KS (.fn (.via 0 #[] f false) ((xs.map (ev s)).map strip)) none:=propext Iff.rfl
theorem K6 {f:FuncId} {xs:List Opd}:zh P (⟨some d,.chk (.mkfn f),xs,none⟩::os) s KS=yn P os s d KS (.fn (.func f) ((xs.map (ev s)).map strip)) none:=propext Iff.rfl
theorem Dw {o:UnOp} {x:Opd}:zh P (⟨some d,.chk (.un o),[x],none⟩::os) s KS=pY (unA P o (ev s x)) P os s d KS:=by
 show zw P (s.base+d) (.un o) [ev s x] (lk (del [s.base+d] s.sto)) (yn P os s d KS)=_
 simp only[zw]
 cases ev s x<;>try rfl
 rename_i v
 simp only[unA]
 cases zn P (Op.unary o v)<;>rfl
theorem K4 {a b:TypeId} {x:Opd}:zh P (⟨some d,.chk (.conv a b),[x],none⟩::os) s KS=pY (gZ P a b (ev s x)) P os s d KS:=by
 show zw P (s.base+d) (.conv a b) [ev s x] (lk (del [s.base+d] s.sto)) (yn P os s d KS)=_
 simp only[zw]
 cases ev s x<;>try rfl
 ·rename_i v
  simp only[gZ]
  cases zn P (convert a b v)<;>rfl
 ·rename_i sz m rows
  simp only[gZ]
  cases nP rows with
  | none=>rfl
  | some ns =>
   by_cases h:a8 P a b=true
   ·simp only[h,if_true,true_and]; rfl
   ·simp only[h,Bool.false_eq_true,if_false,false_and]; rfl
theorem Mw {off:Nat} {n:Option Nat} {x:Opd}:zh P (⟨some d,.chk (.field off n),[x],none⟩::os) s KS=pY (j9 off n (ev s x)) P os s d KS:=by
 show zw P (s.base+d) (.field off n) [ev s x] (lk (del [s.base+d] s.sto)) (yn P os s d KS)=_
 simp only[zw]
 cases ev s x<;>try rfl
 ·rename_i v
  simp only[j9]
  cases wO v off n<;>rfl
 ·rename_i v
  simp only[j9]
  cases zx v off n<;>rfl
theorem Mv {off:Nat} {x:Opd}:zh P (⟨some d,.chk (.faddr off),[x],none⟩::os) s KS=pY (SC off (ev s x)) P os s d KS:=by
 show zw P (s.base+d) (.faddr off) [ev s x] (lk (del [s.base+d] s.sto)) (yn P os s d KS)=_
 simp only[zw]
 cases ev s x<;>rfl
theorem Qf {i:Nat} {x:Opd}:zh P (⟨some d,.chk (.extract i),[x],none⟩::os) s KS=pY (Xm i (ev s x)) P os s d KS:=by
 show zw P (s.base+d) (.extract i) [ev s x] (lk (del [s.base+d] s.sto)) (yn P os s d KS)=_
 simp only[zw]
 cases ev s x<;>try rfl
 rename_i v
 simp only[Xm]
 cases v[i]?<;>rfl
theorem PO {x:Opd}:zh P (⟨some d,.chk .nilChk,[x],none⟩::os) s KS=pY (JX (ev s x)) P os s d KS:=by
 show zw P (s.base+d) .nilChk [ev s x] (lk (del [s.base+d] s.sto)) (yn P os s d KS)=_
 simp only[zw]
 cases ev s x<;>rfl
theorem Mu {z:List AV} {ps:List (Nat × Nat)} {xs:List Opd}:zh P (⟨some d,.chk (.build z ps),xs,none⟩::os) s KS=pY (orR (vh z ps (xs.map (ev s))) (sA z ps (xs.map (ev s)))) P os s d KS:=by
 show zw P (s.base+d) (.build z ps) (xs.map (ev s)) (lk (del [s.base+d] s.sto)) (yn P os s d KS)=_
 simp only[zw]
 cases orR (vh z ps (xs.map (ev s))) (sA z ps (xs.map (ev s)))<;>rfl
theorem Sl {sz n:Nat} {z:List AV} {ps:List Nat} {xs:List Opd} (h1:z.length=sz) (h2:0<sz) :
  zh P (⟨some d,.chk (.mksliceL sz n z ps),xs,none⟩::os) s KS=pY ((wu sz (List.replicate n z) ps (xs.map (ev s))).map (.lit sz)) P os s d KS:=by
 show zw P (s.base+d) (.mksliceL sz n z ps) (xs.map (ev s)) (lk (del [s.base+d] s.sto)) (yn P os s d KS)=_
 simp only[zw]
 cases wu sz (List.replicate n z) ps (xs.map (ev s))<;>simp[pY,h1,h2,yn]
theorem PN {t:TypeId} {ok:Bool} {x y:Opd}:zh P (⟨some d,.chk (.lookup t ok),[x,y],none⟩::os) s KS=vf P t ok (lk (del [s.base+d] s.sto)) [ev s x,ev s y] (yn P os s d KS):=propext Iff.rfl
theorem Qg {sz n:Nat} {z:List AV} {ps:List Nat} {xs:List Opd} (h1:z.length=sz) (h2:0<sz) :
  zh P (⟨some d,.chk (.mkslice sz n z ps),xs,none⟩::os) s KS=pY (orL sz (uX sz (List.replicate n z) ps (xs.map (ev s))) (wu sz (List.replicate n z) ps (xs.map (ev s)))) P os s d KS:=by
 show zw P (s.base+d) (.mkslice sz n z ps) (xs.map (ev s)) (lk (del [s.base+d] s.sto)) (yn P os s d KS)=_
 simp only[zw]
 cases uX sz (List.replicate n z) ps (xs.map (ev s)) with
 | none=>cases wu sz (List.replicate n z) ps (xs.map (ev s))<;>simp[pY,h1,h2,yn,orL]
 | some rows=>simp[pY,h1,h2,yn,orL]
end
attribute [simp] FI Mx GH Ms Mp J9 Gb Lt q7 FP K7 Mt FM FL K5 PL PM My FN K3 K6 FO Dw K4 Mw Mv Qf PO Mu Qg Sl PN
theorem zK {α β:Type} (P:Program) (s:Sem α) (f:α→Sem β):zn P (s >>= f)=(zn P s).bind fun a=>zn P (f a):=by
 induction s with
 | pure a=>simp[bind,Sem.bind,zn]
 | program k ih=>simp only[bind,Sem.bind,zn] at *; exact ih P
 | _=>rfl
theorem zR {α:Type} (P:Program) (a:α):zn P (pure a:Sem α)=some a:=rfl
theorem yR {P:Program} {t:TypeId}:zn P (underlying t)=P.underlying t:=by
 simp only[underlying,zK]
 simp only[program,zn]
 simp only[Option.bind]
 cases P.underlying t<;>rfl
theorem TL {P:Program} {t:TypeId}:zn P (typeInfo t)=P.info? t:=by
 simp only[typeInfo,zK]
 simp only[program,zn]
 simp only[Option.bind]
 cases P.info? t<;>rfl
theorem ZK {P:Program} {t:TypeId}:zn P (sizeOf t)=szT P t:=by
 simp only[sizeOf,zK,TL,szT]
 cases P.info? t<;>rfl
theorem Nq {P:Program} {t:TypeId} {d:TypeDesc} (h:P.underlying t=some d):zn P (isAgg t)=some (agT P t):=by
 simp only[isAgg,zK,yR,h,Option.bind,agT]
 cases d<;>rfl
inductive Kd where
 | b
 | i (k:IntKind)
 | s
def Kd.fit:Kd→Value→Bool
 | .b,.bool _=>true
 | .i k,.int k' _=>decide (k=k')
 | .s,.string _=>true
 | _,_=>false
def tS:List Kd→List Value→Bool
 | [],[]=>true
 | k::ks,v::vs=>k.fit v&&tS ks vs
 | _,_=>false
def eq1:Value→Value→Bool
 | .bool a,.bool b=>a == b
 | .int _ a,.int _ b=>a == b
 | .string a,.string b=>a == b
 | _,_=>false
def eqL:List Value→List Value→Bool
 | [],[]=>true
 | x::xs,y::ys=>eq1 x y&&eqL xs ys
 | _,_=>false
def Ux (P:Program) (kd:TypeId→Option (List Kd)):Nat→List Field→Option (List Kd)
 | _,[]=>some []
 | off,f::fs =>
  if f.name = "_" ∨ f.offset ≠ off then none
  else
   match kd f.type with
   | some ks=>if szT P f.type=some ks.length then (Ux P kd (off+ks.length) fs).map (ks++·) else none
   | none=>none
def kds (P:Program):Nat→TypeId→Option (List Kd)
 | 0,_=>none
 | d+1,t =>
  match P.underlying t with
  | some .bool=>some [.b]
  | some (.int k)=>some [.i k]
  | some .string=>some [.s]
  | some (.array n e) =>
   match kds P d e with
   | some ks=>if szT P e=some ks.length then some (List.replicate n ks).flatten else none
   | none=>none
  | some (.struct fs)=>if P.stoodInHeld t=true then none else Ux P (kds P d) 0 fs.toList
  | _=>none
theorem Yp:∀ {ks:List Kd} {xs:List Value},tS ks xs=true→xs.length=ks.length
 | [],[],_=>rfl
 | [],_::_,h=>by cases h
 | _::_,[],h=>by cases h
 | k::ks,x::xs,h=>by simp only[tS,Bool.and_eq_true] at h; simp[Yp h.2]
theorem ga:∀ {ks ls:List Kd} {xs:List Value},tS (ks++ls) xs=true→tS ks (xs.take ks.length)=true∧tS ls (xs.drop ks.length)=true
 | [],_,_,h=>by simpa [tS] using h
 | k::ks,ls,[],h=>by cases h
 | k::ks,ls,x::xs,h=>by
  simp only[List.cons_append,tS,Bool.and_eq_true] at h
  have:=ga h.2
  simp[tS,h.1,this.1,this.2]
theorem Us:∀ {n:Nat} {xs ys:List Value},xs.length=ys.length→eqL xs ys=(eqL (xs.take n) (ys.take n)&&eqL (xs.drop n) (ys.drop n))
 | 0,_,_,_=>by simp[eqL]
 | _+1,[],[],_=>by simp[eqL]
 | _+1,[],_::_,h=>by cases h
 | _+1,_::_,[],h=>by cases h
 | n+1,x::xs,y::ys,h=>by
  simp only[List.length_cons,Nat.add_right_cancel_iff] at h
  simp only[eqL,List.take_succ_cons,List.drop_succ_cons,Bool.and_assoc]
  rw[Us (n:=n) h]
def valOf (P:Program) (t:TypeId) (xs:List Value):Value:=if agT P t=true then .agg xs.toArray else xs.headD undef
theorem Pg {P:Program} {d:Nat} {t:TypeId} {ks:List Kd} (h:kds P d t=some ks):(∃ u,P.underlying t=some u)∧(agT P t=false→ks.length=1):=by
 cases d with
 | zero=>cases h
 | succ d =>
  simp only[kds] at h
  split at h<;>rename_i hu
  ·exact ⟨⟨_,hu⟩,fun _=>by cases h; rfl⟩
  ·exact ⟨⟨_,hu⟩,fun _=>by cases h; rfl⟩
  ·exact ⟨⟨_,hu⟩,fun _=>by cases h; rfl⟩
  ·exact ⟨⟨_,hu⟩,fun ha=>by simp[agT,hu] at ha⟩
  ·exact ⟨⟨_,hu⟩,fun ha=>by simp[agT,hu] at ha⟩
  ·cases h
theorem fh {P:Program} {d:Nat} {t:TypeId} {ks:List Kd} {xs:List Value} {off:Nat} (h:kds P d t=some ks) (hz:szT P t=some ks.length)
  (hl:off+ks.length≤xs.length):zn P (part t xs.toArray off)=some (valOf P t ((xs.drop off).take ks.length)):=by
 obtain ⟨⟨u,hu⟩,h1⟩:=Pg h
 simp only[part,zK,Nq hu,Option.bind_some]
 by_cases ha:agT P t=true
 ·simp only[ha,if_true,zK,ZK,hz,Option.bind_some,zR,valOf]
  congr 2
  apply Array.ext'
  simp
 ·have h2:=h1 (by simpa using ha)
  rw[if_neg ha]
  have h3:off<xs.length:=by omega
  simp only[List.getElem?_toArray,List.getElem?_eq_getElem h3,zR,valOf,if_neg ha,h2]
  rw[List.drop_eq_getElem_cons h3]
  rfl
theorem Tv {P:Program} {α:Type} (f:α→Sem Bool):∀ (l:List α) (g:List α→Bool),g []=true→(∀ a m,(∃ h,h++a::m=l)→∃ b,zn P (f a)=some b∧g (a::m)=(b&&g m)) →
  zn P (forIn l ((none,()):Option Bool × Unit) fun a _=>do
   let b ← f a
   if (!b)=true then pure (ForInStep.done (some false,())) else pure (ForInStep.yield (none,())))=some (if g l=true then (none,()) else (some false,()))
 | [],g,h0,_=>by simp[h0,zR]
 | a::l,g,h0,h=>by
  obtain ⟨b,hb,hg⟩:=h a l ⟨[],rfl⟩
  have ih:=Tv f l g h0 (fun x m ⟨p,hp⟩=>h x m ⟨a::p,by simp[hp]⟩)
  rw[List.forIn_cons]
  simp only[zK,hb,Option.bind_some]
  cases b with
  | false=>simp[hg,zR]
  | true =>
   simp only[hg,Bool.true_and,Bool.not_true,Bool.false_eq_true,if_false,zR,Option.bind_some]
   exact ih
theorem Ci {n:Nat} {α:Type} {l:List α}:(List.replicate n l).flatten.length=n*l.length:=by
 induction n with
 | zero=>simp
 | succ n ih=>simp[List.replicate_succ,ih,Nat.succ_mul,Nat.add_comm]
theorem Pf {P:Program} {d:Nat}:∀ {fs:List Field} {off:Nat} {ks:List Kd} {xs ys:List Value},Ux P (kds P d) off fs=some ks→xs.length=off+ks.length→ys.length=off+ks.length →
  tS ks (xs.drop off)=true→tS ks (ys.drop off)=true →
  (∀ (t:TypeId) (ks:List Kd) (xs ys:List Value),kds P d t=some ks→tS ks xs=true→tS ks ys=true→zn P (Op.equalIn d t (valOf P t xs) (valOf P t ys))=some (eqL xs ys)) →
  zn P (forIn fs ((none,()):Option Bool × Unit) fun f _ =>
   if f.name ≠ "_" then do
    let x ← part f.type xs.toArray f.offset
    let y ← part f.type ys.toArray f.offset
    let b ← Op.equalIn d f.type x y
    if (!b)=true then pure (ForInStep.done (some false,())) else pure (ForInStep.yield (none,()))
   else pure (ForInStep.yield (none,())))=some (if eqL (xs.drop off) (ys.drop off)=true then (none,()) else (some false,()))
 | [],off,ks,xs,ys,h,hx,hy,_,_,_=>by
  simp only[Ux,Option.some.injEq] at h
  subst h
  simp only[List.length_nil,Nat.add_zero] at hx hy
  rw[List.drop_of_length_le (by omega),List.drop_of_length_le (by omega)]
  simp[zR,eqL]
 | f::fs,off,ks,xs,ys,h,hx,hy,h1,h2,IH=>by
  simp only[Ux] at h
  split at h
  ·cases h
  rename_i hn
  simp only[not_or,Decidable.not_not,ne_eq] at hn
  split at h
  rotate_left
  ·cases h
  rename_i ls hk
  split at h
  rotate_left
  ·cases h
  rename_i hz
  cases hr:Ux P (kds P d) (off+ls.length) fs with
  | none=>simp[hr] at h
  | some ms =>
   simp only[hr,Option.map_some,Option.some.injEq] at h
   subst h
   simp only[List.length_append] at hx hy
   have a1:=ga h1
   have a2:=ga h2
   rw[List.drop_drop] at a1 a2
   have ih:=Pf hr (xs:=xs) (ys:=ys) (by omega) (by omega) a1.2 a2.2 IH
   rw[List.forIn_cons]
   have p1:=fh (xs:=xs) (off:=off) hk hz (by omega)
   have p2:=fh (xs:=ys) (off:=off) hk hz (by omega)
   have p3:=IH _ _ _ _ hk a1.1 a2.1
   rw[if_pos hn.1,hn.2]
   simp only[zK,p1,p2,p3,Option.bind_some]
   rw[Us (n:=ls.length) (xs:=xs.drop off) (ys:=ys.drop off) (by simp; omega),List.drop_drop,List.drop_drop]
   cases eqL ((xs.drop off).take ls.length) ((ys.drop off).take ls.length) with
   | false=>simp[zR]
   | true =>
    simp only[Bool.true_and,Bool.not_true,Bool.false_eq_true,if_false,zR,Option.bind_some]
    exact ih
theorem dr {ls:List Kd}:∀ {n:Nat} {xs:List Value} {a:Nat},tS (List.replicate n ls).flatten xs=true→a<n→tS ls ((xs.drop (a*ls.length)).take ls.length)=true
 | 0,_,_,_,h=>by omega
 | n+1,xs,0,h,_=>by
  simp only[List.replicate_succ,List.flatten_cons] at h
  simpa using (ga h).1
 | n+1,xs,a+1,h,ha=>by
  simp only[List.replicate_succ,List.flatten_cons] at h
  have:=dr (ga h).2 (a:=a) (by omega)
  rw[List.drop_drop] at this
  rw[Nat.succ_mul,Nat.add_comm (a*ls.length)]
  exact this
theorem r9 {P:Program}:∀ (d:Nat) (t:TypeId) (ks:List Kd) (xs ys:List Value),kds P d t=some ks→tS ks xs=true→tS ks ys=true →
  zn P (Op.equalIn d t (valOf P t xs) (valOf P t ys))=some (eqL xs ys)
 | 0,_,_,_,_,h,_,_=>by cases h
 | d+1,t,ks,xs,ys,h,hx,hy=>by
  have lx:=Yp hx
  have ly:=Yp hy
  simp only[kds] at h
  split at h<;>rename_i hu
  ·cases h
   match xs,ys,hx,hy with
   | [.bool a],[.bool b],_,_=>simp[valOf,agT,hu,Op.equalIn,zK,yR,zR,eqL,eq1]
  ·cases h
   match xs,ys,hx,hy with
   | [.int k a],[.int k' b],hx,hy =>
    simp only[tS,Kd.fit,decide_eq_true_eq,Bool.and_true] at hx hy
    subst hx; subst hy
    simp[valOf,agT,hu,Op.equalIn,zK,yR,zR,eqL,eq1]
  ·cases h
   match xs,ys,hx,hy with
   | [.string a],[.string b],_,_=>simp[valOf,agT,hu,Op.equalIn,zK,yR,zR,eqL,eq1]
  ·rename_i n e
   split at h
   rotate_left
   ·cases h
   rename_i ls hk
   split at h
   rotate_left
   ·cases h
   rename_i hz
   cases h
   rw[Ci] at lx ly
   simp only[valOf,agT,hu,if_true,Op.equalIn,zK,yR,Option.bind_some,ZK,hz]
   have hloop:=Tv (P:=P) (fun i=>do
     let x ← part e xs.toArray (i*ls.length)
     let y ← part e ys.toArray (i*ls.length)
     Op.equalIn d e x y) (List.range' 0 n) (fun m=>eqL (xs.drop ((n-m.length)*ls.length)) (ys.drop ((n-m.length)*ls.length)))
    (by
     simp only[List.length_nil,Nat.sub_zero]
     rw[List.drop_of_length_le (by omega),List.drop_of_length_le (by omega)]; rfl)
    (by
     rintro a m ⟨p,hp⟩
     have hlen:p.length+(m.length+1)=n:=by
      have:=congrArg List.length hp
      simpa using this
     have ha:a=p.length:=by
      have:=congrArg (·[p.length]?) hp
      simp only[List.getElem?_append_right (Nat.le_refl _),Nat.sub_self,List.getElem?_cons_zero] at this
      rw[List.getElem?_range' (by omega)] at this
      simpa using this
     have hmul:a*ls.length+ls.length≤n*ls.length:=by
      rw[← Nat.succ_mul]; exact Nat.mul_le_mul_right _ (by omega)
     have e1:n-(a::m).length=a:=by simp only[List.length_cons]; omega
     have e2:(n-m.length)*ls.length=a*ls.length+ls.length:=by
      have:n-m.length=a+1:=by omega
      rw[this,Nat.succ_mul]
     have f1:=dr hx (a:=a) (by omega)
     have f2:=dr hy (a:=a) (by omega)
     have p1:=fh (xs:=xs) (off:=a*ls.length) hk hz (by omega)
     have p2:=fh (xs:=ys) (off:=a*ls.length) hk hz (by omega)
     refine ⟨_,by simp only[zK,p1,p2,Option.bind_some]; exact r9 d _ _ _ _ hk f1 f2,?_⟩
     simp only[e1,e2]
     rw[Us (n:=ls.length) (by simp; omega),List.drop_drop,List.drop_drop])
   simp only[List.length_range',Nat.sub_self,Nat.zero_mul,List.drop_zero] at hloop
   simp only[bind_assoc] at hloop
   rw[Std.Legacy.Range.forIn_eq_forIn_range']
   simp only[Std.Legacy.Range.size,Nat.sub_zero,Nat.add_sub_cancel,Nat.div_one] at hloop ⊢
   rw[hloop]
   cases eqL xs ys<;>simp[zR]
  ·rename_i fs
   split at h
   ·cases h
   rename_i hs
   simp only[valOf,agT,hu,if_true,Op.equalIn,zK,yR,Option.bind_some]
   simp only[program,zn,Option.bind_some,hs]
   have:=Pf (xs:=xs) (ys:=ys) h (by omega) (by omega) (by simpa using hx) (by simpa using hy) (r9 d)
   simp only[Bool.false_eq_true,if_false]
   rw[← Array.forIn_toList,zK,this]
   simp only[List.drop_zero,Option.bind_some]
   cases eqL xs ys<;>rfl
  ·cases h
def r5 (n:Nat) (l:List AV):Bool:=decide (l.length=n)&&l.all fun | .val (.int .i64 _)=>true | _=>false
def jp:List AV→List Int
 | .val (.int _ x)::r=>x::jp r
 | _=>[]
theorem fe (l:List Int):jp (l.map iv)=l:=by
 induction l with
 | nil=>rfl
 | cons x l ih=>simp[jp,ih]
theorem Xr (n:Nat) (l:List Int):r5 n (l.map iv)=decide (l.length=n):=by simp[r5]
theorem eo:∀ {l:List AV},(l.all fun | .val (.int .i64 _)=>true | _=>false)=true→∃ xs:List Int,l=xs.map iv
 | [],_=>⟨[],rfl⟩
 | x::l,h=>by
  simp only[List.all_cons,Bool.and_eq_true] at h
  obtain ⟨xs,rfl⟩:=eo h.2
  match x,h.1 with
  | .val (.int .i64 n),_=>exact ⟨n::xs,rfl⟩
theorem eN:∀ l:List Int,qb (l.map iv)=some (l.map (Value.int .i64))
 | []=>rfl
 | x::l=>by simp[qb,eN l]
theorem Xk:∀ (a b:List Int),eqL (a.map (Value.int .i64)) (b.map (Value.int .i64))=decide (a=b)
 | [],[]=>rfl
 | [],_::_=>by simp[eqL]
 | _::_,[]=>by simp[eqL]
 | x::a,y::b=>by
  simp only[List.map_cons,eqL,eq1,Xk a b,List.cons.injEq,Bool.decide_and]
  rfl
theorem lb:∀ (a:List Int),tS (List.replicate a.length (.i .i64)) (a.map (Value.int .i64))=true
 | []=>rfl
 | x::a=>by simp[List.replicate_succ,tS,Kd.fit,lb a]
theorem Xj {P:Program} {op:BinOp} {t:TypeId} {ox oy:Operand} {xs ys:Array Value} (hg:P.eqGuardType P.depth t=false):zn P (eqGuard op t ox oy (.agg xs) (.agg ys))=some ():=by
 have e:zn P program=some P:=rfl
 unfold eqGuard
 cases op<;>simp[zK,e,hg,zR]
section
variable {P:Program} {t n:Nat} {ox oy:Operand} {a b:List AV} {K:AV→Option zd→Prop} {σ:Nat→Option zd}
theorem pC (hk:kds P Op.maxDepth t=some (List.replicate n (.i .i64))) (hg:P.eqGuardType P.depth t=false) (hA:agT P t=true)
  (ha:r5 n a=true) (hb:r5 n b=true):yc P .eql t ox oy [.agg a,.agg b] K=K (bv (decide (jp a=jp b))) none:=by
 simp only[r5,Bool.and_eq_true,decide_eq_true_eq] at ha hb
 obtain ⟨xs,rfl⟩:=eo ha.2
 obtain ⟨ys,rfl⟩:=eo hb.2
 simp only[List.length_map] at ha hb
 have e:=r9 Op.maxDepth t _ (xs.map (Value.int .i64)) (ys.map (Value.int .i64)) hk (by rw[← ha.1]; exact lb xs) (by rw[← hb.1]; exact lb ys)
 simp only[valOf,hA,if_true] at e
 have e2:zn P (Op.equal t (.agg (xs.map (Value.int .i64)).toArray) (.agg (ys.map (Value.int .i64)).toArray))=some (decide (xs=ys)):=by rw[← Xk]; exact e
 have e1:binOp .eql t (.agg (xs.map (Value.int .i64)).toArray) (.agg (ys.map (Value.int .i64)).toArray)=(do pure (.bool (← Op.equal t (.agg (xs.map (Value.int .i64)).toArray) (.agg (ys.map (Value.int .i64)).toArray)))):=rfl
 simp only[yc,toV,eN,Option.map_some,zK,Xj hg,e1,e2,Option.bind_some,zR,yU,ofV,xh,fe]
theorem sO (hk:kds P Op.maxDepth t=some (List.replicate n (.i .i64))) (hg:P.eqGuardType P.depth t=false) (hA:agT P t=true)
  (ha:r5 n a=true) (hb:r5 n b=true):yc P .neq t ox oy [.agg a,.agg b] K=K (bv (!decide (jp a=jp b))) none:=by
 simp only[r5,Bool.and_eq_true,decide_eq_true_eq] at ha hb
 obtain ⟨xs,rfl⟩:=eo ha.2
 obtain ⟨ys,rfl⟩:=eo hb.2
 simp only[List.length_map] at ha hb
 have e:=r9 Op.maxDepth t _ (xs.map (Value.int .i64)) (ys.map (Value.int .i64)) hk (by rw[← ha.1]; exact lb xs) (by rw[← hb.1]; exact lb ys)
 simp only[valOf,hA,if_true] at e
 have e2:zn P (Op.equal t (.agg (xs.map (Value.int .i64)).toArray) (.agg (ys.map (Value.int .i64)).toArray))=some (decide (xs=ys)):=by rw[← Xk]; exact e
 have e1:binOp .neq t (.agg (xs.map (Value.int .i64)).toArray) (.agg (ys.map (Value.int .i64)).toArray)=(do pure (.bool (!(← Op.equal t (.agg (xs.map (Value.int .i64)).toArray) (.agg (ys.map (Value.int .i64)).toArray))))):=rfl
 simp only[yc,toV,eN,Option.map_some,zK,Xj hg,e1,e2,Option.bind_some,zR,yU,ofV,xh,fe]
theorem ze {f:FuncId} {xs args:List AV} {r:AV} (h:zf P f args r) (hs:yA (w8 σ) xs=some args) (hp:xs.any gd=false∨pf r=true) (hk:K r none):xK P f σ xs K:=by
 unfold xK
 rw[hs]
 refine ⟨r,h,fun hr=>?_,hk⟩
 rcases hp with hp | hp
 ·rw[hp] at hr; cases hr
 ·exact hp
end
theorem Tt {k k':AV→Option zd→Prop} (hk:∀ x e,k x e→k' x e):∀ {x:Option Value},yU x k→yU x k'
 | some _,h=>hk _ _ h
 | none,h=>h
theorem r8 {k k':AV→Option zd→Prop} (hk:∀ x e,k x e→k' x e):∀ {x:Option AV},xG x k→xG x k'
 | some _,h=>hk _ _ h
 | none,h=>h
theorem YV {n lo hi mx xs} {k k':Nat→Nat→Bool→Prop} (hk:∀ x e f,k x e f→k' x e f):wh n lo hi mx xs k→wh n lo hi mx xs k':=by
 unfold wh
 repeat' split
 all_goals grind
theorem MH {P:Program} {op t ox oy xs} {k k':AV→Option zd→Prop} (hk:∀ x e,k x e→k' x e):yc P op t ox oy xs k→yc P op t ox oy xs k':=by
 match xs with
 | []=>exact id
 | [_]=>exact id
 | [x,y] =>
  simp only[yc]
  cases toV x<;>cases toV y<;>first | exact r8 hk | exact Tt hk
 | _::_::_::_=>exact id
theorem PX {σ n xs} {k k':AV→Option zd→Prop} (hk:∀ x e,k x e→k' x e):pD σ n xs k→pD σ n xs k':=by
 unfold pD
 split
 ·split
  ·exact r8 hk
  ·exact id
 ·split
  ·refine fun ⟨a,b⟩=>⟨a,?_⟩
   revert b
   split
   ·exact r8 hk
   ·exact id
  ·exact id
 ·exact r8 hk
 ·split
  ·refine fun ⟨a,b⟩=>⟨a,?_⟩
   revert b
   split
   ·exact r8 hk
   ·exact id
  ·exact id
 ·exact id
theorem PW {str x} {k k':AV→Option zd→Prop} (hk:∀ x e,k x e→k' x e):vI str k x→vI str k' x:=by
 unfold vI
 split<;>first | exact id | exact fun ⟨a,b⟩=>⟨a,hk _ _ b⟩
theorem Xh {P:Program} {f σ xs} {k k':AV→Option zd→Prop} (hk:∀ x e,k x e→k' x e):xK P f σ xs k→xK P f σ xs k':=by
 unfold xK
 cases yA (w8 σ) xs with
 | none=>exact id
 | some args=>exact fun ⟨r,h1,h2,h3⟩=>⟨r,h1,h2,hk _ _ h3⟩
theorem Sy {P:Program} {t ok σ xs} {k k':AV→Option zd→Prop} (hk:∀ x e,k x e→k' x e):vf P t ok σ xs k→vf P t ok σ xs k':=by
 unfold vf
 repeat' split
 all_goals first | exact id | exact hk _ _
theorem dl {P:Program} {d op xs σ} {k k':AV→Option zd→Prop} (hk:∀ x e,k x e→k' x e):zw P d op xs σ k→zw P d op xs σ k':=by
 unfold zw
 repeat' split
 all_goals first
  | exact id
  | exact hk _ _
  | exact Tt hk
  | exact r8 hk
  | exact MH hk
  | exact PX hk
  | exact Sy hk
  | exact Xh hk
  | (unfold qq; repeat' split<;>first | exact id | grind)
  | (unfold ww; repeat' split<;>first | exact id | grind)
  | (unfold eMk; repeat' split<;>first | exact id | grind)
  | (unfold mn; split<;>first | exact id | exact PW hk)
  | (unfold ug; repeat' split<;>first | exact id | exact fun ⟨h1,h2⟩=>⟨h1,YV (fun _ _ _=>hk _ _) h2⟩)
  | exact YV (fun _ _ _ h=>⟨h.1,hk _ _ h.2⟩)
  | exact fun ⟨a,b⟩=>⟨a,Xh hk b⟩
  | exact fun ⟨a,b⟩=>⟨a,hk _ _ b⟩
  | exact fun ⟨a,b,c⟩=>⟨a,b,hk _ _ c⟩
  | exact fun ⟨a,b,c⟩=>⟨a,b,r8 hk c⟩
  | exact fun ⟨a,b⟩=>⟨fun h=>hk _ _ (a h),fun h=>hk _ _ (b h)⟩
  | skip
theorem nK {σ sz x} {k k':List (List AV)→Prop} (hk:∀ x,k x→k' x):yB σ sz x k→yB σ sz x k':=by
 unfold yB
 repeat' split
 all_goals grind
theorem Qp {n s dst xs} {K K':St→Prop} (hk:∀ s,K s→K' s):rX n s dst xs K→rX n s dst xs K':=by
 unfold rX
 repeat' split
 all_goals grind
theorem Su {n b s dst xs} {K K':St→Prop} (hk:∀ s,K s→K' s):xu n b s dst K xs→xu n b s dst K' xs:=by
 unfold xu
 split
 ·refine nK fun rows h=>⟨h.1,h.2.1,h.2.2.1,?_⟩
  have:=h.2.2.2
  revert this
  repeat' split
  all_goals grind
 ·refine fun ⟨h1,h⟩=>⟨h1,?_⟩
  revert h
  split
  ·exact fun h=>⟨h.1,hk _ h.2⟩
  ·exact id
 ·exact id
theorem PU {n s dst xs} {K K':St→Prop} (hk:∀ s,K s→K' s):jj n s dst K xs→jj n s dst K' xs:=by
 unfold jj
 split
 ·refine fun ⟨a,a2,b⟩=>⟨a,a2,?_⟩
  unfold j7 at b ⊢
  revert b
  split
  ·exact id
  ·refine nK fun rows h=>?_
   revert h
   split<;>grind
 ·exact id
theorem d7 {σ sz x} {k k':List (List AV)→Prop} (hk:∀ x,k x→k' x):xw σ sz x k→xw σ sz x k':=by
 unfold xw
 split
 ·split
  ·exact fun ⟨a,b,c,d⟩=>⟨a,b,c,hk _ d⟩
  ·exact fun ⟨_,h⟩=>h.elim
 ·exact fun ⟨a,b⟩=>⟨a,hk _ b⟩
 ·exact nK hk
theorem TI {n b s dst xs} {K K':St→Prop} (hk:∀ s,K s→K' s):wl n b s dst K xs→wl n b s dst K' xs:=by
 unfold wl
 split
 ·refine d7 fun rows h=>⟨h.1,h.2.1,h.2.2.1,?_⟩
  have:=h.2.2.2
  revert this
  split
  ·exact fun ⟨a,b,c⟩=>⟨a,b,hk _ c⟩
  ·exact id
 ·refine d7 fun rows h=>⟨h.1,h.2.1,h.2.2.1,?_⟩
  have:=h.2.2.2
  revert this
  split
  ·exact fun ⟨a,b,c,d,e⟩=>⟨a,b,c,d,hk _ e⟩
  ·exact id
 ·exact id
theorem Uq {n b z ps s dst xs} {K K':St→Prop} (hk:∀ s,K s→K' s):sh n b z ps s dst K xs→sh n b z ps s dst K' xs:=by
 unfold sh
 split
 ·exact fun ⟨a,b,c,d⟩=>⟨a,b,c,hk _ d⟩
 ·exact id
theorem Sz {P t s dst xs} {K K':St→Prop} (hk:∀ s,K s→K' s):vg P t s dst K xs→vg P t s dst K' xs:=by
 unfold vg
 repeat' split
 all_goals first | exact id | exact fun ⟨a,b⟩=>⟨a,hk _ b⟩
theorem kU {P f args s} {K K':AV→St→Prop} (hk:∀ r s,K r s→K' r s) (h:va P f args s K):va P f args s K' :=
 fun F a w I β lam hI vs hs hR=>(h F a w I β lam hI vs hs hR).mono fun _e _w' ⟨v,he,r,s',I',β',lam',hK,h⟩=>⟨v,he,r,s',I',β',lam',hk _ _ hK,h⟩
theorem ZA {P f xs s dst} {K K':St→Prop} (hk:∀ s,K s→K' s):sP P f xs s dst K→sP P f xs s dst K' :=
 kU fun _ _ h=>⟨h.1,hk _ h.2⟩
theorem Se {P o s} {K K':St→Prop} (hk:∀ s,K s→K' s):yZ P o s K→yZ P o s K':=by
 have hop:yq P o s K→yq P o s K':=by
  unfold yq
  split
  ·unfold fT
   split
   ·exact dl fun _ _ h=>⟨h.1,h.2.1,hk _ h.2.2⟩
   ·exact id
  ·have hc:∀ {op:AOp} {xs:List AV},fT P op s o.dst K xs→fT P op s o.dst K' xs:=by
    unfold fT
    split
    ·exact dl fun _ _ h=>⟨h.1,h.2.1,hk _ h.2.2⟩
    ·exact id
   have hs:dk s o.dst K→dk s o.dst K':=by
    unfold dk
    split
    ·exact fun h=>⟨h.1,h.2.1,hk _ h.2.2⟩
    ·exact id
   split
   ·exact fun h=>⟨fun e=>hc (h.1 e),fun e=>hs (h.2 e)⟩
   ·exact hs
   ·exact id
  ·exact fun ⟨a,b⟩=>⟨a,hk _ b⟩
  ·exact Qp hk
  ·exact Su hk
  ·exact PU hk
  ·exact TI hk
  ·exact Uq hk
  ·exact Sz hk
  ·unfold lI
   split
   ·split
    ·exact fun ⟨a,b⟩=>⟨fun h=>⟨hk _ (a h).1,hk _ (a h).2⟩,fun h=>hk _ (b h)⟩
    ·exact id
   ·exact id
  ·exact fun ⟨a,b⟩=>⟨a,ZA hk b⟩
  ·split
   ·exact fun ⟨a,b⟩=>⟨a,ZA hk b⟩
   ·exact id
  ·rintro ⟨a,⟨b,c⟩ | c⟩
   ·exact ⟨a,.inl ⟨b,fun D=>kU (fun _ _ ⟨A,h1,h2,h3,h4⟩=>⟨A,h1,h2,h3,hk _ h4⟩) (c D)⟩⟩
   ·exact ⟨a,.inr fun D hD=>kU (fun _ _ ⟨A,h1,h2,h3,h4⟩=>⟨A,h1,h2,h3,hk _ h4⟩) (c D hD)⟩
  ·exact dl fun _ _=>hk _
 unfold yZ
 repeat' split
 ·exact hop
 ·exact fun ⟨a,b⟩=>⟨fun h=>hop (a h),fun h=>hk _ (b h)⟩
 ·exact hk _
 ·exact id
theorem Zv {P}:∀ {os s} {K K':St→Prop},(∀ s,K s→K' s)→zh P os s K→zh P os s K'
 | [],_,_,_,hk,h=>hk _ h
 | _::_,_,_,_,hk,h=>Se (fun _=>Zv hk) h
theorem bG:∀ {ks s} {K K':St→Prop},(∀ s,K s→K' s)→uA ks s K→uA ks s K'
 | [],_,_,_,hk,h=>hk _ h
 | k::ks,s,K,K',hk,h=>by
  simp only[uA,qp] at h ⊢
  split at h
  ·exact ⟨h.1,bG hk h.2⟩
  ·exact h
theorem ya {P}:∀ {c s} {K K':Exit→St→Prop},(∀ e s,K e s→K' e s)→awp P c s K→awp P c s K'
 | .skip,_,_,_,hk,h=>hk _ _ h
 | .region ..,_,_,_,hk,h=>bG (fun _=>Zv fun _ h=>by
   unfold aX at h ⊢
   exact ⟨h.1,hk _ _ h.2⟩) h
 | .seq a b,s,K,K',hk,h=>by
  simp only[awp] at h ⊢
  refine ya (fun e s h=>?_) h
  cases e<;>first | exact ya hk h | exact hk _ _ h
 | .cond c a b,s,K,K',hk,h=>by
  simp only[awp] at h ⊢
  split at h
  ·exact ⟨fun e=>ya hk (h.1 e),fun e=>ya hk (h.2 e)⟩
  ·exact h
 | .block i b,s,K,K',hk,h=>by
  simp only[awp] at h ⊢
  refine ya (fun e s h=>?_) h
  cases e<;>simp only[cY] at h ⊢<;>grind
 | .loop b,s,K,K',hk,⟨J,n,s0,hi,h0,h⟩=>⟨J,n,s0,hi,h0,fun n s hj=>ya (fun e s h=>by
   cases e<;>simp only[Fo] at h ⊢<;>grind) (h n s hj)⟩
 | .goto _,_,_,_,hk,h=>hk _ _ h
 | .again l b,s,K,K',hk,⟨J,n,s0,hi,h0,h⟩=>⟨J,n,s0,hi,h0,fun n s hj=>ya (fun e s h=>by
   cases e<;>simp only[Mb] at h ⊢<;>grind) (h n s hj)⟩
 | .exit i,_,_,_,hk,h=>hk _ _ h
 | .ret,_,_,_,hk,h=>hk _ _ h
section
variable {P:Program} {s:St} {K:Exit→St→Prop} {KS:St→Prop} {os:List zg} {d:Nat}
def mmA (P:Program) (b:Builtin) (ts:Array TypeId) (t:TypeId) (xs:List AV):Option AV :=
 match qb xs with
 | some vs=>(zn P (if b=.max then Builtin.max_ ts t vs.toArray else Builtin.min_ ts t vs.toArray)).map ofV
 | none=>none
theorem Cb {b:Builtin} {ts:Array TypeId} {t:TypeId} {xs:List Opd}:zh P (⟨some d,.mm b ts t,xs,none⟩::os) s KS=p6 (mmA P b ts t (xs.map (ev s))) P os s d KS:=by
 show zw P (s.base+d) (.mm b ts t) (xs.map (ev s)) (lk s.sto) (xl P os s (some d) KS)=_
 simp only[zw,mmA]
 cases qb (xs.map (ev s)) with
 | none=>rfl
 | some vs=>simp only[Rc]
theorem Ei {ts:Array TypeId} {t:TypeId} {x y:Int}:mmA P .max ts t [iv x,iv y]=some (iv (max x y)):=by
 simp only[mmA,qb,Builtin.max_,Option.map_some,if_true,List.foldlM,zK]
 simp only[Builtin.max2,zR,Option.bind_some,Option.map_some,ofV,xh]
 by_cases h:y > x
 ·rw[if_pos h,Int.max_eq_right (by omega)]
 ·rw[if_neg h,Int.max_eq_left (by omega)]
theorem Ej {ts:Array TypeId} {t:TypeId} {x y:Int}:mmA P .min ts t [iv x,iv y]=some (iv (min x y)):=by
 have e:(Go.Builtin.min=Go.Builtin.max)=False:=by simp
 simp only[mmA,qb,Builtin.min_,Option.map_some,e,if_false,List.foldlM,zK]
 simp only[Builtin.min2,zR,Option.bind_some,Option.map_some,ofV,xh]
 by_cases h:y<x
 ·rw[if_pos h,Int.min_eq_right (by omega)]
 ·rw[if_neg h,Int.min_eq_left (by omega)]
def XZ (st:Nat→St) (k:Nat) (K:Exit→St→Prop):Exit→St→Prop
 | .normal,s=>s=st k
 | e,s=>K e s
def qt (K:Exit→St→Prop):Exit→St→Prop
 | .normal,_=>False
 | e,s=>K e s
theorem RN {st:Nat→St} {k:Nat}:XZ st k K .normal s=(s=st k):=rfl
theorem NY {st:Nat→St} {k j:Nat}:XZ st k K (.exit j) s=K (.exit j) s:=rfl
theorem Kp {st:Nat→St} {k:Nat}:XZ st k K .ret s=K .ret s:=rfl
theorem P8 {j:Nat}:qt K (.exit j) s=K (.exit j) s:=rfl
theorem M3:qt K .ret s=K .ret s:=rfl
theorem SS:qt K .normal s=False:=rfl
theorem xt {a:zb} (st:Nat→St) (N:Nat) (h0:s=st 0) (h1:∀ k,k<N→awp P a (st k) (XZ st (k+1) K)) (h2:awp P a (st N) (qt K)):awp P (.loop a) s K:=by
 refine ⟨fun n s=>∃ k,k≤N∧n=N-k∧s=st k,N,s,St.imp.refl,⟨0,by omega,by omega,h0⟩,?_⟩
 rintro n s ⟨k,hk,rfl,rfl⟩
 by_cases h:k<N
 ·refine ya (fun e s hs=>?_) (h1 k h)
  cases e with
  | normal=>exact ⟨N-(k+1),s,by omega,St.imp.refl,k+1,by omega,rfl,hs⟩
  | _=>exact hs
 ·obtain rfl:k=N:=by omega
  refine ya (fun e s hs=>?_) h2
  cases e with
  | normal=>exact hs.elim
  | _=>exact hs
def X0 (st:Nat→St) (I:Nat→Prop) (k:Nat) (K:Exit→St→Prop):Exit→St→Prop
 | .normal,s=>s=st k∧I k
 | e,s=>K e s
theorem RO {st:Nat→St} {I:Nat→Prop} {k:Nat}:X0 st I k K .normal s=(s=st k∧I k):=rfl
theorem N0 {st:Nat→St} {I:Nat→Prop} {k j:Nat}:X0 st I k K (.exit j) s=K (.exit j) s:=rfl
theorem Kq {st:Nat→St} {I:Nat→Prop} {k:Nat}:X0 st I k K .ret s=K .ret s:=rfl
theorem eZ {a:zb} (st:Nat→St) (I:Nat→Prop) (N:Nat) (h0:s=st 0) (i0:I 0) (h1:∀ k,k<N→I k→awp P a (st k) (X0 st I (k+1) K)) (h2:I N→awp P a (st N) (qt K)) :
  awp P (.loop a) s K:=by
 refine ⟨fun n s=>∃ k,k≤N∧n=N-k∧s=st k∧I k,N,s,St.imp.refl,⟨0,by omega,by omega,h0,i0⟩,?_⟩
 rintro n s ⟨k,hk,rfl,rfl,hi⟩
 by_cases h:k<N
 ·refine ya (fun e s hs=>?_) (h1 k h hi)
  cases e with
  | normal=>exact ⟨N-(k+1),s,by omega,St.imp.refl,k+1,by omega,rfl,hs⟩
  | _=>exact hs
 ·obtain rfl:k=N:=by omega
  refine ya (fun e s hs=>?_) (h2 hi)
  cases e with
  | normal=>exact hs.elim
  | _=>exact hs
theorem NZ {st:Nat→St} {k j:Nat}:XZ st k K (.goto j) s=K (.goto j) s:=rfl
theorem N1 {st:Nat→St} {I:Nat→Prop} {k j:Nat}:X0 st I k K (.goto j) s=K (.goto j) s:=rfl
theorem P9 {j:Nat}:qt K (.goto j) s=K (.goto j) s:=rfl
def ne {α:Type} (m:List (Nat × α)):List (Nat × α)→Prop
 | []=>True
 | (t,x)::l=>lk m t=some x∧ne m l
theorem UZ {α:Type} {m l:List (Nat × α)} (h:ne m l) {t:Nat} {x:α} (hx:lk l t=some x):lk m t=some x:=by
 induction l with
 | nil=>simp[lk] at hx
 | cons p l ih =>
  obtain ⟨u,y⟩:=p
  obtain ⟨h1,h2⟩:=h
  simp only[lk] at hx
  split at hx
  ·rename_i e; cases hx; rw[← e]; exact h1
  ·exact ih h2 hx
theorem E4 {α:Type} {m l:List (Nat × α)} (h:ne m l) (h':ne l m):lk l=lk m:=by
 funext t
 cases h1:lk l t with
 | some x=>exact (UZ h h1).symm
 | none =>
  cases h2:lk m t with
  | none=>rfl
  | some y=>rw[UZ h' h2] at h1; cases h1
def fV (s s':St):Prop:=ne s.env s'.env∧(s'.sto=s.sto∨lk s'.sto=lk s.sto∨(ne s.sto s'.sto∧ne s'.sto s.sto))∧s'.out=s.out
theorem St.imp_of {s s':St} (h:fV s s'):St.imp s s':=by
 obtain ⟨h1,h2,h3⟩:=h
 rintro F a w ⟨I,β,lam,hI⟩
 have e:lk s'.sto=lk s.sto:=by
  rcases h2 with h2 | h2 | h2
  ·rw[h2]
  ·exact h2
  ·exact E4 h2.1 h2.2
 refine ⟨I,β,lam,{hI with env:=fun t x hx=>hI.env t x ?_,sto:=by rw[e]; exact hI.sto,usto:=by rw[e]; exact hI.usto,bdom:=by rw[e]; exact hI.bdom}⟩
 obtain ⟨d,t⟩:=t
 cases d with
 | zero=>exact UZ h1 hx
 | succ d =>
  simp only[St.look] at hx ⊢
  rw[← h3]; exact hx
theorem Fc {α:Type} {m:List (Nat × α)}:ne m []=True:=rfl
theorem Ky {α:Type} {m l:List (Nat × α)} {t:Nat} {x:α}:ne m ((t,x)::l)=(lk m t=some x∧ne m l):=rfl
theorem Ed {e e':List (Nat × AV)} {σ σ':List (Nat × zd)} {o o':List (List (Nat × AV))} {b b':Nat}:fV ⟨e,σ,o,b⟩ ⟨e',σ',o',b'⟩=(ne e e'∧(σ'=σ∨lk σ'=lk σ∨(ne σ σ'∧ne σ' σ))∧o'=o):=rfl
def stepW (st:Nat→St) (I:Nat→Prop) (k:Nat) (K:Exit→St→Prop):Exit→St→Prop
 | .normal,s=>fV s (st k)∧I k
 | e,s=>K e s
theorem aB {st:Nat→St} {I:Nat→Prop} {k:Nat}:stepW st I k K .normal s=(fV s (st k)∧I k):=rfl
theorem N2 {st:Nat→St} {I:Nat→Prop} {k j:Nat}:stepW st I k K (.exit j) s=K (.exit j) s:=rfl
theorem Ks {st:Nat→St} {I:Nat→Prop} {k:Nat}:stepW st I k K .ret s=K .ret s:=rfl
theorem N3 {st:Nat→St} {I:Nat→Prop} {k j:Nat}:stepW st I k K (.goto j) s=K (.goto j) s:=rfl
theorem zz {a:zb} (st:Nat→St) (I:Nat→Prop) (N:Nat) (h0:fV s (st 0)) (i0:I 0) (h1:∀ k,k<N→I k→awp P a (st k) (stepW st I (k+1) K)) (h2:I N→awp P a (st N) (qt K)) :
  awp P (.loop a) s K:=by
 refine ⟨fun n s=>∃ k,k≤N∧n=N-k∧s=st k∧I k,N,st 0,St.imp_of h0,⟨0,by omega,by omega,rfl,i0⟩,?_⟩
 rintro n s ⟨k,hk,rfl,rfl,hi⟩
 by_cases h:k<N
 ·refine ya (fun e s hs=>?_) (h1 k h hi)
  cases e with
  | normal=>exact ⟨N-(k+1),st (k+1),by omega,St.imp_of hs.1,k+1,by omega,rfl,rfl,hs.2⟩
  | _=>exact hs
 ·obtain rfl:k=N:=by omega
  refine ya (fun e s hs=>?_) (h2 hi)
  cases e with
  | normal=>exact hs.elim
  | _=>exact hs
end
def rc (sz d:Nat) (rows:List (List AV)):AV:=.list (if rows=[] then 0 else sz) (if rows=[] then .full else .own d) rows
abbrev Gh (sz:Nat) (rows:List (List AV)):AV:=.list (if rows=[] then 0 else sz) (if rows=[] then .full else .plain) rows
theorem dS {sz d:Nat} {rows:List (List AV)}:strip (rc sz d rows)=Gh sz rows:=by
 unfold rc Gh
 split<;>rfl
theorem Pq {sz d:Nat} {rows:List (List AV)}:rf (rc sz d rows)=true:=rfl
theorem ZN {sz d k:Nat} {rows:List (List AV)}:zT k (rc sz d rows)=false:=by simp[rc,zT]
theorem MK {sz d:Nat} {rows:List (List AV)} {K:AV→Option zd→Prop}:mn false [rc sz d rows] K=K (.val (.int .i64 rows.length)) none:=by simp[rc,mn]
theorem KM {sz d:Nat}:rc sz d []=.list 0 .full []:=rfl
theorem TA {sz d:Nat} {rows:List (List AV)} {σ:Nat→Option zd}:w8 σ (rc sz d rows)=some (Gh sz rows):=by
 rw[← dS (d:=d)]; rfl
theorem DA {l:Nat} {v:Value}:dg l (.val v)=.val v:=rfl
theorem Dy {l:Nat} {v:List AV}:dg l (.agg v)=.agg v:=rfl
theorem CQ {l:Nat} {v:List AV}:dg l (.ro v)=.ro v:=rfl
theorem Dz {l k o:Nat}:dg l (.ptr k o)=.ptr k o:=rfl
theorem Jd {l sz:Nat} {r:List (List AV)}:dg l (.list sz .plain r)=.list sz .plain r:=rfl
theorem FV {l sz:Nat} {r:List (List AV)}:dg l (.list sz .full r)=.list sz .full r:=rfl
theorem CR {l k sz off n:Nat}:dg l (.sl k sz off n)=.sl k sz off n:=rfl
theorem CT {l k sz off n:Nat}:dg l (.us k sz off n)=if k=l then .undef else .us k sz off n:=rfl
theorem CS {l k sz i off:Nat}:dg l (.up k sz i off)=if k=l then .undef else .up k sz i off:=rfl
theorem Jf {l:Nat}:dg l .undef=.undef:=rfl
theorem FU {l k sz i o:Nat}:dg l (.eptr k sz i o)=.eptr k sz i o:=rfl
theorem Jc {l:Nat} {t:TypeId} {x:AV}:dg l (.iface t x)=.iface t x:=rfl
theorem CP {l:Nat} {f:Fn} {caps:List AV}:dg l (.fn f caps)=if caps.any (dW l)=true then .undef else .fn f caps:=rfl
theorem Je {l:Nat} {caps:List AV}:dg l (.tuple caps)=if caps.any (dW l)=true then .undef else .tuple caps:=rfl
theorem FT {l sz d:Nat} {rows:List (List AV)} (h:d≠l):dg l (rc sz d rows)=rc sz d rows:=by
 by_cases e:rows=[]
 ·simp[rc,e,dg]
 ·simp[rc,e,dg,h]
theorem bs {sz by_ d l:Nat} {s:St} {KS:St→Prop} {rows:List (List AV)} {m:Mode} {x:List AV} {xs:List (List AV)} (h0:0<sz) (h1:s.base+d=l) :
  xu sz by_ s (some d) KS [rc sz l rows,.list sz m (x::xs)] =
   ((rows.length+(xs.length+1))*by_≤140737488355328∧rows.length+(xs.length+1)≤9223372036854775807∧lk s.sto l=none∧KS ((s.dg l).put (some d) (rc sz l (rows++x::xs)))):=by
 subst h1
 unfold rc
 by_cases h:rows=[]
 ·subst h
  simp[xu,yB,h0,St.put]
 ·simp[xu,yB,h0,h,St.put]
theorem Qu {l:List Int} {off n:Nat} (h:l.length=n) (h0:off=0):zx (l.map iv) off (some n)=some (.agg (l.map iv)):=by
 subst h0
 exact Tk h
def stm:Mode→Mode
 | .own _=>.plain
 | m=>m
theorem dU {sz:Nat} {m:Mode} {rows:List (List AV)}:strip (.list sz m rows)=.list sz (stm m) rows:=by cases m<;>rfl
theorem Kt:stm .plain=.plain:=rfl
theorem G6:stm .full=.full:=rfl
theorem E2 {l:Nat}:stm (.own l)=.plain:=rfl
theorem zj {cells:List AV} {n:Nat} (h:cells.length=n) (h2:cells.all rf=true):zx cells 0 (some n)=some (.agg (cells.map strip)):=by
 simp only[zx,List.drop_zero]
 rw[List.take_of_length_le (by omega),if_pos ⟨by omega,h2⟩]
theorem E3 {m:Mode}:stm (stm m)=stm m:=by cases m<;>rfl
theorem FW {l sz:Nat} {m:Mode} {r:List (List AV)} (h:stm m=m):dg l (.list sz m r)=.list sz m r:=by
 cases m with
 | own k=>cases h
 | _=>rfl
theorem Gn {s:St} {d:Nat} {x:AV}:s.put (some d) x=⟨pt s.env d x,s.sto,s.out,s.base⟩:=rfl
attribute [simp] NZ N1 P9 Fc Ky Ed aB N2 Ks N3
attribute [simp] RO N0 Kq Cb Ei Ej RN NY Kp SS P8 M3 fe Xr jp r5 dS Pq ZN MK KM TA DA Dy CQ Dz Jd FV CR FT CT CS Jf FU Jc CP Je dW bs Gn uX vh St.dg dgE NU mJ dU Kt G6 E2 E3 FW gd lr pf pf1 P6 Qu zj
abbrev XE:=Option (AV × Option zd)
def lO (P:Program) (call:FuncId→List AV→Option AV):Prop:=∀ f as r,call f as=some r→zf P f as r
def aS (n:Nat) (lo hi mx:Bool) (xs:List AV):Option (Nat × Nat × Bool) :=
 match lo,hi,mx,xs with
 | false,false,false,[]=>some (0,n,false)
 | true,false,false,[.val (.int _ l)]=>if 0≤l∧l≤n then some (l.toNat,n,false) else none
 | false,true,false,[.val (.int _ h)]=>if 0≤h∧h≤n then some (0,h.toNat,false) else none
 | true,true,false,[.val (.int _ l),.val (.int _ h)]=>if 0≤l∧l≤h∧h≤n then some (l.toNat,h.toNat,false) else none
 | false,true,true,[.val (.int _ h),.val (.int _ m)]=>if 0≤h∧h=m∧m≤n then some (0,h.toNat,true) else none
 | true,true,true,[.val (.int _ l),.val (.int _ h),.val (.int _ m)]=>if 0≤l∧l≤h∧h=m∧m≤n then some (l.toNat,h.toNat,true) else none
 | _,_,_,_=>none
theorem e7 {n lo hi mx xs l h f} {k:Nat→Nat→Bool→Prop} (hx:aS n lo hi mx xs=some (l,h,f)) (hk:k l h f):wh n lo hi mx xs k:=by
 unfold aS at hx
 unfold wh
 split at hx<;>first
  | (simp only[Option.some.injEq,Prod.mk.injEq] at hx; obtain ⟨rfl,rfl,rfl⟩:=hx; exact hk)
  | (
    split at hx
    ·rename_i hc
     simp only[Option.some.injEq,Prod.mk.injEq] at hx; obtain ⟨rfl,rfl,rfl⟩:=hx
     first
      | exact ⟨hc.1,hc.2,hk⟩
      | exact ⟨hc.1,hc.2.1,hc.2.2,hk⟩
      | exact ⟨hc.1,hc.2.1,hc.2.2.1,hc.2.2.2,hk⟩
    ·cases hx)
  | cases hx
def U2:Option Value→XE
 | some v=>some (ofV v,none)
 | none=>none
def avX:Option AV→XE
 | some v=>some (v,none)
 | none=>none
theorem eP {o:Option Value} {x e} {k:AV→Option zd→Prop} (h:U2 o=some (x,e)) (hk:k x e):yU o k:=by
 cases o with
 | none=>cases h
 | some v=>cases h; exact hk
theorem nM {o:Option AV} {x e} {k:AV→Option zd→Prop} (h:avX o=some (x,e)) (hk:k x e):xG o k:=by
 cases o with
 | none=>cases h
 | some v=>cases h; exact hk
def Dn (P:Program) (op:BinOp) (t:TypeId) (ox oy:Operand):List AV→XE
 | [x,y]=>match toV x,toV y with
  | some a,some b=>U2 (zn P (do eqGuard op t ox oy a b; binOp op t a b))
  | _,_=>none
 | _=>none
def Nb (σ:Nat→Option zd) (n:Option Nat):List AV→XE
 | [.ptr j off]=>match σ j with
  | some (.var cells)=>avX (zx cells off n)
  | _=>none
 | [.eptr j sz i off]=>match σ j with
  | some (.arr sz' rows)=>if sz'=sz then (match rows[i]? with
   | some r=>avX (zx r off n)
   | none=>none) else none
  | _=>none
 | [.ro cells]=>avX (zx cells 0 n)
 | [.up l sz i off]=>match σ l with
  | some (.uarr sz' rows)=>if sz'=sz then (match rows[i]? with
   | some r=>avX (zx r off n)
   | none=>none) else none
  | _=>none
 | _=>none
def Q9 (len esz:Nat):List AV→XE
 | [.ptr j off,.val (.int _ i)]=>if 0≤i∧i<len then some (.ptr j (off+i.toNat * esz),none) else none
 | [.eptr j sz r off,.val (.int _ i)]=>if 0≤i∧i<len then some (.eptr j sz r (off+i.toNat * esz),none) else none
 | [.ro cells,.val (.int _ i)]=>if 0≤i∧i<len then some (.ro (cells.drop (i.toNat * esz)),none) else none
 | [.up j sz r off,.val (.int _ i)]=>if 0≤i∧i<len then some (.up j sz r (off+i.toNat * esz),none) else none
 | _=>none
def Pa (sz:Nat):List AV→XE
 | [.list sz' _ rows,.val (.int _ i)]=>if 0≤i∧i<rows.length∧sz'=sz then (match rows[i.toNat]? with
   | some r=>some (.ro r,none)
   | none=>none) else none
 | [.sl j sz' off len,.val (.int _ i)]=>if 0≤i∧i<len∧sz'=sz then some (.eptr j sz (off+i.toNat) 0,none) else none
 | [.us j sz' off len,.val (.int _ i)]=>if 0≤i∧i<len∧sz'=sz then some (.up j sz (off+i.toNat) 0,none) else none
 | [.lit sz' rows,.val (.int _ i)]=>if wC rows=true∧0≤i∧i<(zP rows).length∧sz'=sz then (match (zP rows)[i.toNat]? with
   | some r=>some (.ro r,none)
   | none=>none) else none
 | _=>none
def Kc (sz:Nat) (lo hi mx:Bool):List AV→XE
 | .list sz' _ rows::xs=>if rows.isEmpty=true∨sz'=sz then (match aS rows.length lo hi mx xs with
   | some (l,h,f)=>some (.list sz' (if f=true then .full else .plain) ((rows.take h).drop l),none)
   | none=>none) else none
 | .sl j sz' off len::xs=>if sz'=sz then (match aS len lo hi mx xs with
   | some (l,h,_)=>some (.sl j sz (off+l) (h-l),none)
   | none=>none) else none
 | .us j sz' off len::xs=>if sz'=sz then (match aS len lo hi mx xs with
   | some (l,h,_)=>some (.us j sz (off+l) (h-l),none)
   | none=>none) else none
 | _=>none
def mkX (sz bytes:Nat) (zero:List AV) (d:Nat) (σ:Nat→Option zd):List AV→XE
 | [.val (.int _ l),.val (.int _ c)] =>
  if l=c∧0≤l∧l*bytes≤140737488355328∧l≤9223372036854775807∧zero.length=sz∧0<sz∧(σ d).isNone=true then
   some (.sl d sz 0 l.toNat,some (.arr sz (List.replicate l.toNat zero))) else none
 | _=>none
def DX (str:Bool):List AV→XE
 | [.list _ _ rows]=>if str=false then some (.val (.int .i64 rows.length),none) else none
 | [.sl _ _ _ len]=>if str=false then some (.val (.int .i64 len),none) else none
 | [.us _ _ _ len]=>if str=false then some (.val (.int .i64 len),none) else none
 | [.lit _ rows]=>if str=false then some (.val (.int .i64 rows.length),none) else none
 | [.val (.string s)]=>if str=true then some (.val (.int .i64 s.size),none) else none
 | _=>none
def eg (call:FuncId→List AV→Option AV) (f:FuncId) (σ:Nat→Option zd) (xs:List AV):XE :=
 match yA (w8 σ) xs with
 | some args=>match call f args with
  | some r=>if xs.any gd=false∨pf r=true then some (r,none) else none
  | none=>none
 | none=>none
def Pi (P:Program) (t:TypeId) (ok:Bool) (σ:Nat→Option zd):List AV→XE
 | [.mp j,y]=>match σ j,toV y with
  | some (.map es _),some kv=>match findM P t kv es with
   | some (v,b)=>some (if ok=true then .tuple [ofV v,.val (.bool b)] else ofV v,none)
   | none=>none
  | _,_=>none
 | _=>none
def TY (P:Program) (call:FuncId→List AV→Option AV) (d:Nat) (op:AOp) (xs:List AV) (σ:Nat→Option zd):XE :=
 match op with
 | .mov=>match xs with
  | [x]=>some (x,none)
  | _=>none
 | .pick=>match xs with
  | [.val (.bool t),a,b]=>some (cond t a b,none)
  | _=>none
 | .alloc cells=>if (σ d).isNone=true then some (.ptr d 0,some (.var cells)) else none
 | .box=>match xs with
  | [x]=>match cellsOf x with
   | some cs=>if (σ d).isNone=true then some (.ptr d 0,some (.var cs)) else none
   | none=>none
  | _=>none
 | .build zero places=>avX (orR (vh zero places xs) (sA zero places xs))
 | .mkslice sz n zero places=>match uX sz (List.replicate n zero) places xs,wu sz (List.replicate n zero) places xs with
  | some rows,_=>if zero.length=sz∧0<sz then some (.list sz .full rows,none) else none
  | none,some rows=>if zero.length=sz∧0<sz then some (.lit sz rows,none) else none
  | none,none=>none
 | .load n=>Nb σ n xs
 | .nilChk=>match xs with
  | [.ptr j off]=>some (.ptr j off,none)
  | [.eptr j sz i off]=>some (.eptr j sz i off,none)
  | [.up j sz i off]=>some (.up j sz i off,none)
  | [.ro cells]=>some (.ro cells,none)
  | [.fn f caps]=>some (.fn f caps,none)
  | _=>none
 | .bin op t ox oy=>Dn P op t ox oy xs
 | .un op=>match xs with
  | [.val v]=>U2 (zn P (Op.unary op v))
  | _=>none
 | .conv s d'=>match xs with
  | [.val v]=>U2 (zn P (convert s d' v))
  | _=>none
 | .idxV t=>match xs with
  | [x,.val i]=>match toV x with
   | some a=>U2 (zn P (Instr.index t a i))
   | none=>none
  | _=>none
 | .sliceV _ lo hi mx=>match xs with
  | .val (.string s)::ys=>match aS s.size lo hi mx ys with
   | some (l,h,_)=>if mx=false then some (.val (.string (s.extract l h)),none) else none
   | none=>none
  | _=>none
 | .mm b ts t=>match qb xs with
  | some vs=>U2 (zn P (if b=.max then Builtin.max_ ts t vs.toArray else Builtin.min_ ts t vs.toArray))
  | none=>none
 | .field off n=>match xs with
  | [.agg cells]=>avX (wO cells off n)
  | [.raw cells]=>avX (zx cells off n)
  | _=>none
 | .faddr off=>match xs with
  | [.ptr j o]=>some (.ptr j (o+off),none)
  | [.eptr j sz i o]=>some (.eptr j sz i (o+off),none)
  | [.up j sz i o]=>some (.up j sz i (o+off),none)
  | [.ro cells]=>some (.ro (cells.drop off),none)
  | _=>none
 | .iaddrA len esz=>Q9 len esz xs
 | .iaddrS sz=>Pa sz xs
 | .idxA len esz n=>match xs with
  | [.agg cells,.val (.int _ i)]=>if 0≤i∧i<len then avX (wO cells (i.toNat * esz) n) else none
  | _=>none
 | .slice sz lo hi mx=>Kc sz lo hi mx xs
 | .mk sz bytes zero=>mkX sz bytes zero d σ xs
 | .len s=>DX s xs
 | .extract i=>match xs with
  | [.tuple vs]=>avX vs[i]?
  | _=>none
 | .mkfn f=>some (.fn (.func f) (xs.map strip),none)
 | .mkb f=>some (.fn (.via 0 #[] f false) (xs.map strip),none)
 | .call f=>eg call f σ xs
 | .callv=>match xs with
  | .fn (.func f) caps::ys=>if xY P f=true then eg call f σ (ys++caps) else none
  | .fn (.via _ _ f _) rs::ys=>if xY P f=true then eg call f σ (rs++ys) else none
  | _=>none
 | .mksliceL sz n zero places=>match wu sz (List.replicate n zero) places xs with
  | some rows=>if zero.length=sz∧0<sz then some (.lit sz rows,none) else none
  | none=>none
 | .mkmap=>if (σ d).isNone=true then some (.mp d,some (.map #[] 0)) else none
 | .lookup t ok=>Pi P t ok σ xs
 | .mkif t=>match xs with
  | [x]=>if rf x=true then some (.iface t (strip x),none) else none
  | _=>none
 | .callm name=>match xs with
  | .iface t x::ys=>match Zf P t name with
   | some f=>if xY P f=true then eg call f σ (x::ys) else none
   | none=>none
  | _=>none
 | _=>none
section
variable {P:Program} {call:FuncId→List AV→Option AV} {k:AV→Option zd→Prop} {x:AV} {e:Option zd} {σ:Nat→Option zd} {xs:List AV}
theorem JM {n:Option Nat} (h:Nb σ n xs=some (x,e)) (hk:k x e):pD σ n xs k:=by
 unfold Nb at h
 unfold pD
 split at h
 ·dsimp only
  split at h
  ·rename_i h1; rw[h1]; exact nM h hk
  ·cases h
 ·dsimp only
  split at h
  ·rename_i h1; rw[h1]
   dsimp only
   split at h
   ·rename_i hz
    split at h
    ·rename_i h2; rw[h2]; exact ⟨hz,nM h hk⟩
    ·cases h
   ·cases h
  ·cases h
 ·exact nM h hk
 ·dsimp only
  split at h
  ·rename_i h1; rw[h1]
   dsimp only
   split at h
   ·rename_i hz
    split at h
    ·rename_i h2; rw[h2]; exact ⟨hz,nM h hk⟩
    ·cases h
   ·cases h
  ·cases h
 ·cases h
theorem x7 {α:Type} {o:Option α} (h:o.isNone=true):o=none:=by cases o<;>first | rfl | cases h
theorem gY {f:FuncId} (hc:lO P call) (h:eg call f σ xs=some (x,e)) (hk:k x e):xK P f σ xs k:=by
 unfold eg at h
 unfold xK
 split at h
 ·rename_i args ha
  rw[ha]
  split at h
  ·rename_i r hr
   split at h
   ·rename_i hp
    cases h
    refine ⟨_,hc _ _ _ hr,fun h1=>?_,hk⟩
    rcases hp with hp | hp
    ·rw[hp] at h1; cases h1
    ·exact hp
   ·cases h
  ·cases h
 ·cases h
theorem SB {d:Nat} {op:AOp} (hc:lO P call) (h:TY P call d op xs σ=some (x,e)) (hk:k x e):zw P d op xs σ k:=by
 unfold TY at h
 split at h
 case h_1 =>
  split at h
  ·cases h; exact hk
  ·cases h
 case h_2 =>
  split at h
  ·rename_i t a b; cases h; simp only[zw]; cases t
   ·exact ⟨fun h=>(by cases h),fun _=>hk⟩
   ·exact ⟨fun _=>hk,fun h=>by cases h⟩
  ·cases h
 case h_3 =>
  split at h
  ·rename_i hn; cases h; exact ⟨x7 hn,hk⟩
  ·cases h
 case h_4 =>
  split at h
  ·split at h
   ·rename_i cs hcs
    split at h
    ·rename_i hn; cases h; simp only[zw,hcs]; exact ⟨x7 hn,hk⟩
    ·cases h
   ·cases h
  ·cases h
 case h_5=>exact nM h hk
 case h_6 =>
  split at h
  ·rename_i cs hcs
   split at h
   ·rename_i hz; cases h; simp only[zw,hcs]; exact ⟨hz.1,hz.2,hk⟩
   ·cases h
  ·rename_i cs hcs hcs2
   split at h
   ·rename_i hz; cases h; simp only[zw,hcs,hcs2]; exact ⟨hz.1,hz.2,hk⟩
   ·cases h
  ·cases h
 case h_7=>exact JM h hk
 case h_8 =>
  split at h<;>first | (cases h; exact hk) | cases h
 case h_9 =>
  simp only[zw]
  unfold Dn at h
  unfold yc
  split at h
  ·dsimp only
   split at h
   ·rename_i h1 h2; rw[h1,h2]; exact eP h hk
   ·cases h
  ·cases h
 case h_10 =>
  split at h
  ·exact eP h hk
  ·cases h
 case h_11 =>
  split at h
  ·exact eP h hk
  ·cases h
 case h_12 =>
  split at h
  ·split at h
   ·rename_i h1; simp only[zw,h1]; exact eP h hk
   ·cases h
  ·cases h
 case h_13 =>
  split at h
  ·split at h
   ·rename_i h1
    split at h
    ·rename_i hm; cases h; simp only[zw]; exact e7 h1 ⟨hm,hk⟩
    ·cases h
   ·cases h
  ·cases h
 case h_14 =>
  split at h
  ·rename_i h1; simp only[zw,h1]; exact eP h hk
  ·cases h
 case h_15 =>
  split at h
  ·exact nM h hk
  ·exact nM h hk
  ·cases h
 case h_16 =>
  split at h<;>first | (cases h; exact hk) | cases h
 case h_17 =>
  simp only[zw]
  unfold Q9 at h
  unfold qq
  split at h<;>first
   | (
     split at h
     ·rename_i hc; cases h; exact ⟨hc.1,hc.2,hk⟩
     ·cases h)
   | cases h
 case h_18 =>
  simp only[zw]
  unfold Pa at h
  unfold ww
  split at h
  ·split at h
   ·rename_i hc
    split at h
    ·rename_i h1; cases h; refine ⟨hc.1,hc.2.1,hc.2.2,?_⟩; rw[h1]; exact hk
    ·cases h
   ·cases h
  ·split at h
   ·rename_i hc; cases h; exact ⟨hc.1,hc.2.1,hc.2.2,hk⟩
   ·cases h
  ·split at h
   ·rename_i hc; cases h; exact ⟨hc.1,hc.2.1,hc.2.2,hk⟩
   ·cases h
  ·split at h
   ·rename_i hc
    split at h
    ·rename_i h1; cases h; refine ⟨hc.1,hc.2.1,hc.2.2.1,hc.2.2.2,?_⟩; rw[h1]; exact hk
    ·cases h
   ·cases h
  ·cases h
 case h_19 =>
  split at h
  ·split at h
   ·rename_i hc; exact ⟨hc.1,hc.2,nM h hk⟩
   ·cases h
  ·cases h
 case h_20 =>
  simp only[zw]
  unfold Kc at h
  unfold ug
  split at h
  ·split at h
   ·rename_i hc
    split at h
    ·rename_i h1; cases h
     refine ⟨?_,e7 h1 hk⟩
     rcases hc with hc | hc
     ·exact .inl (List.isEmpty_iff.1 hc)
     ·exact .inr hc
    ·cases h
   ·cases h
  ·split at h
   ·rename_i hc
    split at h
    ·rename_i h1; cases h
     exact ⟨hc,e7 h1 hk⟩
    ·cases h
   ·cases h
  ·split at h
   ·rename_i hc
    split at h
    ·rename_i h1; cases h
     exact ⟨hc,e7 h1 hk⟩
    ·cases h
   ·cases h
  ·cases h
 case h_21 =>
  simp only[zw]
  unfold mkX at h
  unfold eMk
  split at h
  ·split at h
   ·rename_i hc; cases h
    obtain ⟨h1,h2,h3,h4,h5,h6,h7⟩:=hc
    exact ⟨h1,h2,h3,h4,h5,h6,x7 h7,hk⟩
   ·cases h
  ·cases h
 case h_22 =>
  simp only[zw]
  unfold DX at h
  unfold mn
  split at h<;>first
   | (
     split at h
     ·rename_i hc; cases h; exact ⟨hc,hk⟩
     ·cases h)
   | cases h
 case h_23 =>
  split at h
  ·exact nM h hk
  ·cases h
 case h_24=>cases h; exact hk
 case h_25=>cases h; exact hk
 case h_26=>exact gY hc h hk
 case h_27 =>
  split at h
  ·split at h
   ·rename_i ho; exact ⟨ho,gY hc h hk⟩
   ·cases h
  ·split at h
   ·rename_i ho; exact ⟨ho,gY hc h hk⟩
   ·cases h
  ·cases h
 case h_28 =>
  split at h
  ·rename_i cs hcs
   split at h
   ·rename_i hz; cases h; simp only[zw,hcs]; exact ⟨hz.1,hz.2,hk⟩
   ·cases h
  ·cases h
 case h_29 =>
  split at h
  ·rename_i hn; cases h; exact ⟨x7 hn,hk⟩
  ·cases h
 case h_30 =>
  simp only[zw]
  unfold Pi at h
  unfold vf
  split at h
  ·dsimp only
   split at h
   ·rename_i h1 h2
    rw[h1,h2]
    dsimp only
    split at h
    ·rename_i h3; cases h; rw[h3]; exact hk
    ·cases h
   ·cases h
  ·cases h
 case h_31 =>
  split at h
  ·split at h
   ·rename_i hr; cases h; exact ⟨hr,hk⟩
   ·cases h
  ·cases h
 case h_32 =>
  split at h
  ·split at h
   ·rename_i hm
    split at h
    ·rename_i ho; simp only[zw,hm]; exact ⟨ho,gY hc h hk⟩
    ·cases h
   ·cases h
  ·cases h
 case h_33=>cases h
end
def RP (n:Nat) (s:St) (dst:Option Nat):List AV→Option St
 | [.ptr j off,x]=>match lk s.sto j,cellsOf x with
  | some (.var cells),some cs=>if cs.length=n∧off+n≤cells.length∧dst.isNone=true then some {s with sto:=pt s.sto j (.var (splice cells off cs))} else none
  | _,_=>none
 | [.eptr j sz i off,x]=>match lk s.sto j,cellsOf x with
  | some (.arr sz' rows),some cs=>if sz'=sz∧cs.length=n∧off+n≤sz∧i<rows.length∧cs.all rf=true∧dst.isNone=true then
    (match rows[i]? with
    | some r=>some {s with sto:=pt s.sto j (.arr sz (rows.set i (splice r off (cs.map strip))))}
    | none=>none) else none
  | _,_=>none
 | [.up l sz i off,x]=>match lk s.sto l,cellsOf x with
  | some (.uarr sz' rows),some cs=>if sz'=sz∧cs.length=n∧off+n≤sz∧dst.isNone=true then
    (match rows[i]? with
    | some r=>some {s with sto:=pt s.sto l (.uarr sz (rows.set i (splice r off cs)))}
    | none=>none) else none
  | _,_=>none
 | _=>none
def jH (σ:Nat→Option zd) (sz:Nat):AV→Option (List (List AV))
 | .list sz' _ rows=>if rows.isEmpty=true∨sz'=sz then some rows else none
 | .sl j sz' off len=>if sz'=sz then (match σ j with
   | some (.arr sz'' rows)=>if sz''=sz∧off+len≤rows.length then some ((rows.drop off).take len) else none
   | _=>none) else none
 | .us j sz' off len=>if sz'=sz then (match σ j with
   | some (.uarr sz'' rows)=>if sz''=sz∧off+len≤rows.length∧wC ((rows.drop off).take len)=true then some (zP ((rows.drop off).take len)) else none
   | _=>none) else none
 | .val (.string b)=>if sz=1 then some (b.data.toList.map fun x=>[.val (.int .u8 x.toNat)]) else none
 | .lit sz' rows=>if sz'=sz∧wC rows=true then some (zP rows) else none
 | _=>none
def gN (σ:Nat→Option zd) (sz:Nat):AV→Option (List (List AV))
 | .us j sz' off len=>if sz'=sz then (match σ j with
   | some (.uarr sz'' rows)=>if sz''=sz∧off+len≤rows.length then some ((rows.drop off).take len) else none
   | _=>none) else none
 | .lit sz' rows=>if sz'=sz then some rows else none
 | x=>jH σ sz x
def ZX (sz bytes:Nat) (s:St) (dst:Option Nat):List AV→Option St
 | [.list _ .full rows1,x]=>match gN (lk s.sto) sz x with
  | some rows2=>if 0<sz∧(rows1.length+rows2.length)*bytes≤140737488355328∧rows1.length+rows2.length≤9223372036854775807 then
    (match dst with
    | some d=>if rows1.isEmpty=true∧(lk s.sto (s.base+d)).isNone=true then
      some (((s.dg (s.base+d)).put (some d) (.us (s.base+d) sz 0 rows2.length)).new (some d) (some (.uarr sz (yK (s.base+d) rows2)))) else none
    | none=>none) else none
  | none=>none
 | [.us l sz1 off len,x]=>match gN (lk s.sto) sz x with
  | some rows2=>if 0<sz∧(len+rows2.length)*bytes≤140737488355328∧len+rows2.length≤9223372036854775807 then
    (match lk s.sto l,dst with
    | some (.uarr sz' rows1),some d=>if sz'=sz∧sz1=sz∧off=0∧len=rows1.length then
      some ({(s.dg l) with sto:=pt (s.dg l).sto l (.uarr sz (yK l (rows1++rows2)))}.put (some d) (.us l sz 0 (len+rows2.length))) else none
    | _,_=>none) else none
  | none=>none
 | _=>none
def bM (sz n:Nat) (zero:List AV) (places:List Nat) (s:St) (dst:Option Nat) (xs:List AV):Option St :=
 match wu sz (List.replicate n zero) places xs,dst with
 | some rows,some d=>if zero.length=sz∧0<sz∧(lk s.sto (s.base+d)).isNone=true then
   some (((s.dg (s.base+d)).put (some d) (.us (s.base+d) sz 0 n)).new (some d) (some (.uarr sz (yK (s.base+d) rows)))) else none
 | _,_=>none
abbrev CI:=FuncId→List AV→St→Option (AV × St)
def ju (P:Program) (ci:CI):Prop:=∀ f as s r s',ci f as s=some (r,s')→va P f as s (fun r1 s1=>r1=r∧s1=s')
def Y7 (P:Program) (ci:CI) (f:FuncId) (xs:List AV) (s:St) (dst:Option Nat):Option St :=
 if xY P f=true then (match ci f xs s with
  | some (r,s')=>if s'.base=s.base then some (s'.put dst r) else none
  | none=>none) else none
def X9 (sz bytes:Nat) (s:St) (dst:Option Nat):List AV→Option St
 | [.list sz1 m rows1,x]=>match jH (lk s.sto) sz x with
  | some rows2=>if 0<sz∧(rows1.length+rows2.length)*bytes≤140737488355328∧rows1.length+rows2.length≤9223372036854775807 then
    (match m,dst with
    | .full,some d=>if (rows1.isEmpty=true∨sz1=sz)∧(lk s.sto (s.base+d)).isNone=true then some ((s.dg (s.base+d)).put (some d) (.list sz (.own (s.base+d)) (rows1++rows2))) else none
    | .own l,some d=>if sz1=sz∧(lk s.sto l).isNone=true then some ((s.dg l).put (some d) (.list sz (.own l) (rows1++rows2))) else none
    | _,_=>none) else none
  | none=>none
 | _=>none
def Q2 (σ:Nat→Option zd) (sz:Nat):AV→Option (List (List AV))
 | .val _=>none
 | x=>jH σ sz x
def PR (sz:Nat) (s:St) (dst:Option Nat):List AV→Option St
 | [.sl j sz1 off len,x]=>if sz1=sz∧0<sz then (match Q2 (lk s.sto) sz x with
  | some rows2=>match lk s.sto j with
   | some (.arr sz' rows)=>if sz'=sz∧off+len≤rows.length∧rows2.length≤len then
     some (({s with sto:=pt s.sto j (.arr sz (rows.take off++rows2++rows.drop (off+rows2.length)))}).put dst (.val (.int .i64 (rows2.length:Nat)))) else none
   | _=>none
  | none=>none) else none
 | _=>none
section
variable {P:Program} {call:FuncId→List AV→Option AV} {ci:CI} {K:St→Prop} {s s':St} {xs:List AV} {dst:Option Nat}
theorem Ku {n:Nat} (h:RP n s dst xs=some s') (hk:K s'):rX n s dst xs K:=by
 unfold RP at h
 unfold rX
 split at h
 ·dsimp only
  split at h
  ·rename_i h1 h2; rw[h1,h2]
   split at h
   ·rename_i hc; cases h; exact ⟨hc.1,hc.2.1,x7 hc.2.2,hk⟩
   ·cases h
  ·cases h
 ·dsimp only
  split at h
  ·rename_i h1 h2; rw[h1,h2]
   split at h
   ·rename_i hc
    obtain ⟨c1,c2,c3,c4,c5,c6⟩:=hc
    split at h
    ·rename_i h3; cases h; refine ⟨c1,c2,c3,c4,c5,x7 c6,?_⟩; rw[h3]; exact hk
    ·cases h
   ·cases h
  ·cases h
 ·dsimp only
  split at h
  ·rename_i h1 h2; rw[h1,h2]
   split at h
   ·rename_i hc
    obtain ⟨c1,c2,c3,c6⟩:=hc
    split at h
    ·rename_i h3; cases h; refine ⟨c1,c2,c3,x7 c6,?_⟩; rw[h3]; exact hk
    ·cases h
   ·cases h
  ·cases h
 ·cases h
theorem fK {σ:Nat→Option zd} {sz:Nat} {x:AV} {rows:List (List AV)} {k:List (List AV)→Prop} (h:jH σ sz x=some rows) (hk:k rows):yB σ sz x k:=by
 unfold jH at h
 unfold yB
 split at h
 ·split at h
  ·rename_i hc; cases h
   refine ⟨?_,hk⟩
   rcases hc with hc | hc
   ·exact .inl (List.isEmpty_iff.1 hc)
   ·exact .inr hc
  ·cases h
 ·split at h
  ·rename_i hz
   split at h
   ·rename_i h1
    split at h
    ·rename_i hc; cases h; refine ⟨hz,?_⟩; rw[h1]; exact ⟨hc.1,hc.2,hk⟩
    ·cases h
   ·cases h
  ·cases h
 ·split at h
  ·rename_i hz
   split at h
   ·rename_i h1
    split at h
    ·rename_i hc; cases h; refine ⟨hz,?_⟩; rw[h1]; exact ⟨hc.1,hc.2.1,hc.2.2,hk⟩
    ·cases h
   ·cases h
  ·cases h
 ·split at h
  ·rename_i hz; cases h; exact ⟨hz,hk⟩
  ·cases h
 ·split at h
  ·rename_i hz; cases h; exact ⟨hz.1,hz.2,hk⟩
  ·cases h
 ·cases h
theorem cR {σ:Nat→Option zd} {sz:Nat} {x:AV} {rows:List (List AV)} {k:List (List AV)→Prop} (h:gN σ sz x=some rows) (hk:k rows):xw σ sz x k:=by
 unfold gN at h
 unfold xw
 split at h
 ·split at h
  ·rename_i hz
   split at h
   ·rename_i h1
    split at h
    ·rename_i hc; cases h; refine ⟨hz,?_⟩; rw[h1]; exact ⟨hc.1,hc.2,hk⟩
    ·cases h
   ·cases h
  ·cases h
 ·split at h
  ·rename_i hz; cases h; exact ⟨hz,hk⟩
  ·cases h
 ·rename_i hne hne2
  split
  ·rename_i h1; exact absurd rfl (hne _ _ _ _)
  ·rename_i h1; exact absurd rfl (hne2 _ _)
  ·exact fK h hk
theorem Qc {sz b:Nat} (h:ZX sz b s dst xs=some s') (hk:K s'):wl sz b s dst K xs:=by
 unfold ZX at h
 unfold wl
 split at h
 ·dsimp only
  split at h
  ·rename_i h1
   refine cR h1 ?_
   split at h
   ·rename_i hc
    refine ⟨hc.1,hc.2.1,hc.2.2,?_⟩
    split at h
    ·split at h
     ·rename_i hd; cases h; exact ⟨List.isEmpty_iff.1 hd.1,x7 hd.2,hk⟩
     ·cases h
    ·cases h
   ·cases h
  ·cases h
 ·dsimp only
  split at h
  ·rename_i h1
   refine cR h1 ?_
   split at h
   ·rename_i hc
    refine ⟨hc.1,hc.2.1,hc.2.2,?_⟩
    split at h
    ·rename_i h2
     split at h
     ·rename_i hd; cases h; rw[h2]; exact ⟨hd.1,hd.2.1,hd.2.2.1,hd.2.2.2,hk⟩
     ·cases h
    ·cases h
   ·cases h
  ·cases h
 ·cases h
theorem S3 {sz n:Nat} {z:List AV} {ps:List Nat} (h:bM sz n z ps s dst xs=some s') (hk:K s'):sh sz n z ps s dst K xs:=by
 unfold bM at h
 unfold sh
 split at h
 ·rename_i h1; rw[h1]
  split at h
  ·rename_i hc; cases h; exact ⟨hc.1,hc.2.1,x7 hc.2.2,hk⟩
  ·cases h
 ·cases h
theorem U5 {ci:CI} (hi:ju P ci) {f:FuncId} (h:Y7 P ci f xs s dst=some s') (hk:K s'):xY P f=true∧sP P f xs s dst K:=by
 unfold Y7 at h
 split at h
 ·rename_i hok
  refine ⟨hok,?_⟩
  split at h
  ·rename_i r s1 h1
   split at h
   ·rename_i hb
    cases h
    refine kU ?_ (hi _ _ _ _ _ h1)
    rintro r1 s2 ⟨rfl,rfl⟩
    exact ⟨hb,hk⟩
   ·cases h
  ·cases h
 ·cases h
theorem PG {sz b:Nat} (h:X9 sz b s dst xs=some s') (hk:K s'):xu sz b s dst K xs:=by
 unfold X9 at h
 unfold xu
 split at h
 ·dsimp only
  split at h
  ·rename_i h1
   refine fK h1 ?_
   split at h
   ·rename_i hc
    refine ⟨hc.1,hc.2.1,hc.2.2,?_⟩
    split at h
    ·split at h
     ·rename_i hd; cases h; dsimp only
      obtain ⟨hd,hd2⟩:=hd
      refine ⟨?_,x7 hd2,hk⟩
      rcases hd with hd | hd
      ·exact .inl (List.isEmpty_iff.1 hd)
      ·exact .inr hd
     ·cases h
    ·split at h
     ·rename_i hd; cases h; exact ⟨hd.1,x7 hd.2,hk⟩
     ·cases h
    ·cases h
   ·cases h
  ·cases h
 ·cases h
theorem Jb {sz:Nat} (h:PR sz s dst xs=some s') (hk:K s'):jj sz s dst K xs:=by
 unfold PR at h
 unfold jj
 split at h
 ·dsimp only
  split at h
  ·rename_i hz
   refine ⟨hz.1,hz.2,?_⟩
   split at h
   ·rename_i rows2 h1
    have h2:yB (lk s.sto) sz ‹AV› (fun r=>r=rows2)∧(∀ v,‹AV›≠.val v):=by
     unfold Q2 at h1
     split at h1
     ·cases h1
     ·rename_i hne; exact ⟨fK h1 rfl,fun v e=>hne v e⟩
    unfold j7
    split
    ·rename_i v; exact absurd rfl (h2.2 v)
    ·refine nK ?_ h2.1
     rintro r rfl
     split at h
     ·rename_i h3; rw[h3]
      split at h
      ·rename_i hc; cases h; exact ⟨hc.1,hc.2.1,hc.2.2,hk⟩
      ·cases h
     ·cases h
   ·cases h
  ·cases h
 ·cases h
def vEq:Value→Value→Bool
 | .bool a,.bool b=>a == b
 | .int k a,.int k' b=>decide (k=k')&&decide (a=b)
 | .string a,.string b=>decide (a=b)
 | .pointer none,.pointer none=>true
 | .slice none a b,.slice none c d=>decide (a=c)&&decide (b=d)
 | _,_=>false
theorem CA:∀ {x y:Value},vEq x y=true→x=y:=by
 intro x y h
 unfold vEq at h
 split at h<;>first | cases h | skip
 all_goals simp_all
def mEq:Mode→Mode→Bool
 | .plain,.plain=>true
 | .full,.full=>true
 | .own a,.own b=>decide (a=b)
 | _,_=>false
theorem D0 {x y:Mode} (h:mEq x y=true):x=y:=by
 unfold mEq at h
 split at h<;>first | rfl | simp_all
def fEq:Fn→Fn→Bool
 | .func a,.func b=>decide (a=b)
 | _,_=>false
theorem DJ {x y:Fn} (h:fEq x y=true):x=y:=by
 unfold fEq at h
 split at h<;>simp_all
mutual
def tH:AV→AV→Bool
 | .undef,y=>match y with
  | .undef=>true
  | _=>false
 | .val a,y=>match y with
  | .val b=>vEq a b
  | _=>false
 | .agg a,y=>match y with
  | .agg b=>nL a b
  | _=>false
 | .tuple a,y=>match y with
  | .tuple b=>nL a b
  | _=>false
 | .list n m r,y=>match y with
  | .list n' m' r'=>decide (n=n')&&(mEq m m'&&eX r r')
  | _=>false
 | .ro a,y=>match y with
  | .ro b=>nL a b
  | _=>false
 | .ptr a b,y=>match y with
  | .ptr c d=>decide (a=c)&&decide (b=d)
  | _=>false
 | .eptr a b c d,y=>match y with
  | .eptr a' b' c' d'=>decide (a=a')&&decide (b=b')&&decide (c=c')&&decide (d=d')
  | _=>false
 | .sl a b c d,y=>match y with
  | .sl a' b' c' d'=>decide (a=a')&&decide (b=b')&&decide (c=c')&&decide (d=d')
  | _=>false
 | .us a b c d,y=>match y with
  | .us a' b' c' d'=>decide (a=a')&&decide (b=b')&&decide (c=c')&&decide (d=d')
  | _=>false
 | .up a b c d,y=>match y with
  | .up a' b' c' d'=>decide (a=a')&&decide (b=b')&&decide (c=c')&&decide (d=d')
  | _=>false
 | .fn f c,y=>match y with
  | .fn f' c'=>fEq f f'&&nL c c'
  | _=>false
 | .iface t x,y=>match y with
  | .iface t' x'=>decide (t=t')&&tH x x'
  | _=>false
 | .mp a,y=>match y with
  | .mp b=>decide (a=b)
  | _=>false
 | .lit n r,y=>match y with
  | .lit n' r'=>decide (n=n')&&eX r r'
  | _=>false
 | .raw a,y=>match y with
  | .raw b=>nL a b
  | _=>false
def nL:List AV→List AV→Bool
 | [],y=>match y with
  | []=>true
  | _=>false
 | x::l,y=>match y with
  | z::m=>tH x z&&nL l m
  | _=>false
def eX:List (List AV)→List (List AV)→Bool
 | [],y=>match y with
  | []=>true
  | _=>false
 | x::l,y=>match y with
  | z::m=>nL x z&&eX l m
  | _=>false
end
mutual
theorem Ua:∀ (x y:AV),tH x y=true→x=y
 | .undef,y,h=>by cases y<;>first | rfl | (simp[tH] at h)
 | .val a,y,h=>by cases y<;>simp only[tH,Bool.false_eq_true] at h; rw[CA h]
 | .agg a,y,h=>by cases y<;>simp only[tH,Bool.false_eq_true] at h; rw[rG _ _ h]
 | .tuple a,y,h=>by cases y<;>simp only[tH,Bool.false_eq_true] at h; rw[rG _ _ h]
 | .list n m r,y,h=>by
  cases y<;>simp only[tH,Bool.false_eq_true,Bool.and_eq_true,decide_eq_true_eq] at h
  obtain ⟨rfl,h1,h2⟩:=h
  rw[D0 h1,eY _ _ h2]
 | .ro a,y,h=>by cases y<;>simp only[tH,Bool.false_eq_true] at h; rw[rG _ _ h]
 | .ptr a b,y,h=>by cases y<;>simp only[tH,Bool.false_eq_true,Bool.and_eq_true,decide_eq_true_eq] at h; rw[h.1,h.2]
 | .eptr a b c d,y,h=>by cases y<;>simp only[tH,Bool.false_eq_true,Bool.and_eq_true,decide_eq_true_eq] at h; obtain ⟨⟨⟨rfl,rfl⟩,rfl⟩,rfl⟩:=h; rfl
 | .sl a b c d,y,h=>by cases y<;>simp only[tH,Bool.false_eq_true,Bool.and_eq_true,decide_eq_true_eq] at h; obtain ⟨⟨⟨rfl,rfl⟩,rfl⟩,rfl⟩:=h; rfl
 | .us a b c d,y,h=>by cases y<;>simp only[tH,Bool.false_eq_true,Bool.and_eq_true,decide_eq_true_eq] at h; obtain ⟨⟨⟨rfl,rfl⟩,rfl⟩,rfl⟩:=h; rfl
 | .up a b c d,y,h=>by cases y<;>simp only[tH,Bool.false_eq_true,Bool.and_eq_true,decide_eq_true_eq] at h; obtain ⟨⟨⟨rfl,rfl⟩,rfl⟩,rfl⟩:=h; rfl
 | .fn f c,y,h=>by
  cases y<;>simp only[tH,Bool.false_eq_true,Bool.and_eq_true] at h
  rw[DJ h.1,rG _ _ h.2]
 | .iface t x,y,h=>by
  cases y<;>simp only[tH,Bool.false_eq_true,Bool.and_eq_true,decide_eq_true_eq] at h
  rw[h.1,Ua _ _ h.2]
 | .mp a,y,h=>by cases y<;>simp only[tH,Bool.false_eq_true,decide_eq_true_eq] at h; rw[h]
 | .lit n r,y,h=>by
  cases y<;>simp only[tH,Bool.false_eq_true,Bool.and_eq_true,decide_eq_true_eq] at h
  rw[h.1,eY _ _ h.2]
 | .raw a,y,h=>by cases y<;>simp only[tH,Bool.false_eq_true] at h; rw[rG _ _ h]
theorem rG:∀ (x y:List AV),nL x y=true→x=y
 | [],y,h=>by cases y<;>first | rfl | (simp[nL] at h)
 | x::l,y,h=>by
  cases y<;>simp only[nL,Bool.false_eq_true,Bool.and_eq_true] at h
  rw[Ua _ _ h.1,rG _ _ h.2]
theorem eY:∀ (x y:List (List AV)),eX x y=true→x=y
 | [],y,h=>by cases y<;>first | rfl | (simp[eX] at h)
 | x::l,y,h=>by
  cases y<;>simp only[eX,Bool.false_eq_true,Bool.and_eq_true] at h
  rw[rG _ _ h.1,eY _ _ h.2]
end
def Jx:Option zd→Option zd→Bool
 | none,none=>true
 | some (.var a),some (.var b)=>nL a b
 | some (.arr n a),some (.arr m b)=>decide (n=m)&&eX a b
 | some (.map a n),some (.map b m)=>a.isEmpty&&b.isEmpty&&decide (n=m)
 | _,_=>false
theorem F4 {x y:Option zd} (h:Jx x y=true):x=y:=by
 unfold Jx at h
 split at h
 ·rfl
 ·rw[rG _ _ h]
 ·simp only[Bool.and_eq_true,decide_eq_true_eq] at h; rw[h.1,eY _ _ h.2]
 ·simp only[Bool.and_eq_true,decide_eq_true_eq,Array.isEmpty_iff] at h; rw[h.1.1,h.1.2,h.2]
 ·cases h
def K1 (P:Program) (call:FuncId→List AV→Option AV) (op:AOp) (s:St) (dst:Option Nat) (xs:List AV):Option St :=
 match dst with
 | some d=>match TY P call (s.base+d) op xs (lk (del [s.base+d] s.sto)),lk s.env d with
  | some (x,e),some y=>if tH y x&&Jx (lk s.sto (s.base+d)) e then some s else none
  | _,_=>none
 | none=>none
theorem FJ {op:AOp} (hc:lO P call) (h:K1 P call op s dst xs=some s') (hk:K s'):fT P op s dst K xs:=by
 unfold K1 at h
 unfold fT
 split at h
 ·split at h
  ·rename_i x e y h1 h2
   split at h
   ·rename_i h3
    cases h
    simp only[Bool.and_eq_true] at h3
    exact SB hc h1 ⟨by rw[h2,Ua _ _ h3.1],F4 h3.2,hk⟩
   ·cases h
  ·cases h
 ·cases h
def Xq (σ:List (Nat × zd)) (base:Nat):List Nat→Bool
 | []=>true
 | d::ds=>(lk σ (base+d)).isNone&&Xq σ base ds
theorem Tj {σ:List (Nat × zd)} {base:Nat}:∀ {ds:List Nat},Xq σ base ds=true→q7 σ base ds
 | [],_=>trivial
 | d::ds,h=>by
  simp only[Xq,Bool.and_eq_true] at h
  exact ⟨x7 h.1,Tj h.2⟩
def RM (ds:List Nat) (s:St):Option St:=if Xq s.sto s.base ds=true then some {s with env:=del ds s.env} else none
theorem Ko {ds:List Nat} (h:RM ds s=some s') (hk:K s'):q7 s.sto s.base ds∧K {s with env:=del ds s.env}:=by
 unfold RM at h
 split at h
 ·rename_i h1; cases h; exact ⟨Tj h1,hk⟩
 ·cases h
def Uz (P:Program) (t:TypeId) (s:St) (dst:Option Nat):List AV→Option St
 | [.mp j,y,x]=>match lk s.sto j,toV y,toV x with
  | some (.map es clock),some kv,some v=>match setM P t kv v es clock with
   | some (es',clock')=>if dst.isNone=true then some {s with sto:=pt s.sto j (.map es' clock')} else none
   | none=>none
  | _,_,_=>none
 | _=>none
theorem Ng {t:TypeId} (h:Uz P t s dst xs=some s') (hk:K s'):vg P t s dst K xs:=by
 unfold Uz at h
 unfold vg
 split at h
 ·dsimp only
  split at h
  ·rename_i h1 h2 h3
   rw[h1,h2,h3]
   dsimp only
   split at h
   ·rename_i h4
    split at h
    ·rename_i h5; cases h; rw[h4]; exact ⟨x7 h5,hk⟩
    ·cases h
   ·cases h
  ·cases h
 ·cases h
def execOp (P:Program) (call:FuncId→List AV→Option AV) (ci:CI) (dst:Option Nat) (op:AOp) (xs:List AV) (s:St):Option St :=
 match op with
 | .store n=>RP n s dst xs
 | .append sz b=>X9 sz b s dst xs
 | .copy sz=>PR sz s dst xs
 | .appendU sz b=>ZX sz b s dst xs
 | .mksliceU sz n z ps=>bM sz n z ps s dst xs
 | .callI f=>Y7 P ci f xs s dst
 | .mapset t=>Uz P t s dst xs
 | .chk op=>K1 P call op s dst xs
 | .start ds=>RM ds s
 | .callvI=>match xs with
  | .fn (.func f) caps::ys=>Y7 P ci f (ys++caps) s dst
  | _=>none
 | .nilS neg=>match xs with
  | [x]=>match UC x with
   | some (_+1)=>some (s.put dst (.val (.bool neg)))
   | _=>none
  | _=>none
 | .callM _ _=>none
 | .chkG _ _ _=>none
 | op=>match TY P call (s.base+dst.getD 0) op xs (lk s.sto) with
  | some (x,e)=>some ((s.put dst x).new dst e)
  | none=>none
def Yn (P:Program) (call:FuncId→List AV→Option AV) (ci:CI) (o:zg) (s:St):Option St :=
 match o.guard with
 | none=>execOp P call ci o.dst o.op (o.xs.map (ev s)) s
 | some (g,b)=>match s.get g with
  | .val (.bool c)=>if c=b then execOp P call ci o.dst o.op (o.xs.map (ev s)) s else some (s.put o.dst (.val undef))
  | .val _=>some (s.put o.dst (.val undef))
  | _=>none
def aZ (P:Program) (call:FuncId→List AV→Option AV) (ci:CI):List zg→St→Option St
 | [],s=>some s
 | o::os,s=>match Yn P call ci o s with
  | some s'=>aZ P call ci os s'
  | none=>none
theorem Eo {neg:Bool} (h:(match xs with | [x]=>(match UC x with | some (_+1)=>some (s.put dst (.val (.bool neg))) | _=>none) | _=>none)=some s') (hk:K s'):lI neg s dst K xs:=by
 unfold lI
 split at h
 ·split at h
  ·rename_i h1; cases h; simp only[h1]; exact ⟨fun h=>(by cases h),fun _=>hk⟩
  ·cases h
 ·cases h
theorem Th {o:zg} (hc:lO P call) (hi:ju P ci) (h:execOp P call ci o.dst o.op (o.xs.map (ev s)) s=some s') (hk:K s'):yq P o s K:=by
 obtain ⟨d,op,ys,g⟩:=o
 unfold yq
 cases op<;>first
  | exact Ku h hk
  | exact PG h hk
  | exact Jb h hk
  | exact Qc h hk
  | exact S3 h hk
  | exact U5 hi h hk
  | exact Eo h hk
  | exact Ng h hk
  | exact FJ hc h hk
  | exact Ko h hk
  | (dsimp only[execOp] at h; cases h; done)
  | (
    dsimp only[execOp] at h ⊢
    split at h
    ·rename_i h1; rw[h1]; exact U5 hi h hk
    ·cases h)
  | (
    simp only[execOp] at h
    split at h
    ·rename_i h1; cases h
     exact SB hc h1 hk
    ·cases h)
theorem Qq {o:zg} (hc:lO P call) (hi:ju P ci) (h:Yn P call ci o s=some s') (hk:K s'):yZ P o s K:=by
 unfold Yn at h
 unfold yZ
 split at h
 ·rename_i hg; rw[hg]; exact Th hc hi h hk
 ·rename_i g b hg; rw[hg]; dsimp only
  split at h
  ·rename_i c h1; rw[h1]
   split at h
   ·rename_i e; subst e
    exact ⟨fun _=>Th hc hi h hk,fun e=>by cases c<;>cases e⟩
   ·rename_i e; cases h; exact ⟨fun e2=>absurd e2 e,fun _=>hk⟩
  ·rename_i h1; cases h
   split
   ·rename_i h2; simp_all
   ·exact hk
   ·rename_i h2 _; simp_all
  ·cases h
theorem Xl (hc:lO P call) (hi:ju P ci):∀ {os:List zg} {s s':St},aZ P call ci os s=some s'→K s'→zh P os s K
 | [],_,_,h,hk=>by cases h; exact hk
 | o::os,s,s',h,hk=>by
  simp only[aZ] at h
  split at h
  ·rename_i s1 h1; exact Qq hc hi h1 (Xl hc hi h hk)
  ·cases h
end
def dt:List Nat→St→Option St
 | [],s=>some s
 | k0::ks,s=>match lk s.sto (s.base+k0) with
  | some e=>if St.unmet {env:=s.env.map fun p=>(p.1,frz (s.base+k0) e p.2),sto:=(del [s.base+k0] s.sto).map fun p=>(p.1,gc (s.base+k0) e p.2),out:=s.out.map fun f=>f.map fun p=>(p.1,frz (s.base+k0) e p.2),base:=s.base} (s.base+k0)=true then
    dt ks {env:=s.env.map fun p=>(p.1,frz (s.base+k0) e p.2),sto:=(del [s.base+k0] s.sto).map fun p=>(p.1,gc (s.base+k0) e p.2),out:=s.out.map fun f=>f.map fun p=>(p.1,frz (s.base+k0) e p.2),base:=s.base} else none
  | none=>none
theorem ZD {K:St→Prop}:∀ {ks:List Nat} {s s':St},dt ks s=some s'→K s'→uA ks s K
 | [],_,_,h,hk=>by cases h; exact hk
 | k::ks,s,s',h,hk=>by
  simp only[dt] at h
  simp only[uA,qp]
  split at h
  ·rename_i h1; rw[h1]
   split at h
   ·rename_i hu; exact ⟨hu,ZD h hk⟩
   ·cases h
  ·cases h
abbrev XR:=Option (Exit × St)
def lN (P:Program) (call:FuncId→List AV→Option AV) (ci:CI) (ih:zb→St→XR) (c:zb) (s:St):XR :=
 match c with
 | .skip=>some (.normal,s)
 | .region _ FK ops D DK=>match dt FK s with
  | some s0=>match aZ P call ci ops s0 with
   | some s1=>if mN (lk (s1.drop D).sto) ((s1.drop D).nm DK) {(s1.drop D) with sto:=del ((s1.drop D).nm DK) (s1.drop D).sto}=true then some (.normal,{(s1.drop D) with sto:=del ((s1.drop D).nm DK) (s1.drop D).sto}) else none
   | none=>none
  | none=>none
 | .seq a b=>match ih a s with
  | some (.normal,s')=>ih b s'
  | r=>r
 | .cond x a b=>match ev s x with
  | .val (.bool t)=>cond t (ih a s) (ih b s)
  | _=>none
 | .block id a=>match ih a s with
  | some (.exit i,s')=>if i=id then some (.normal,s') else some (.exit i,s')
  | r=>r
 | .loop a=>match ih a s with
  | some (.normal,s')=>ih (.loop a) s'
  | r=>r
 | .exit id=>some (.exit id,s)
 | .goto l=>some (.goto l,s)
 | .again l a=>match ih a s with
  | some (.goto i,s')=>if i=l then ih (.again l a) s' else none
  | r=>r
 | .ret=>some (.ret,s)
def bA (P:Program) (call:FuncId→List AV→Option AV) (ci:CI) (n:Nat):zb→St→XR :=
 Nat.rec (fun _ _=>none) (fun _ ih=>lN P call ci ih) n
theorem wJ {P:Program} {call:FuncId→List AV→Option AV} {ci:CI} (hc:lO P call) (hi:ju P ci):∀ (n:Nat) (c:zb) (s s':St) (e:Exit),bA P call ci n c s=some (e,s')→awp P c s (fun e1 s1=>e1=e∧s1=s')
 | 0,_,_,_,_,h=>by cases h
 | n+1,c,s,s',e,h=>by
  have h:lN P call ci (bA P call ci n) c s=some (e,s'):=h
  cases c with
  | skip=>cases h; exact ⟨rfl,rfl⟩
  | region d FK ops D DK =>
   simp only[lN] at h
   split at h
   ·rename_i h1
    split at h
    ·rename_i h2
     split at h
     ·rename_i h3; cases h
      exact ZD h1 (Xl hc hi h2 ⟨h3,rfl,rfl⟩)
     ·cases h
    ·cases h
   ·cases h
  | seq a b =>
   simp only[lN] at h
   simp only[awp]
   split at h
   ·rename_i s1 h1
    refine ya ?_ (wJ hc hi n a s s1 .normal h1)
    rintro e1 s2 ⟨rfl,rfl⟩
    exact wJ hc hi n b _ _ _ h
   ·rename_i hne
    refine ya ?_ (wJ hc hi n a s s' e h)
    rintro e1 s2 ⟨rfl,rfl⟩
    cases e1 with
    | normal=>exact absurd h (hne _)
    | _=>exact ⟨rfl,rfl⟩
  | cond x a b =>
   simp only[lN] at h
   simp only[awp]
   split at h
   ·rename_i t h1; rw[h1]
    cases t with
    | true=>exact ⟨fun _=>wJ hc hi n a s s' e h,fun e=>by cases e⟩
    | false=>exact ⟨fun e=>(by cases e),fun _=>wJ hc hi n b s s' e h⟩
   ·cases h
  | block id a =>
   simp only[lN] at h
   simp only[awp]
   split at h
   ·rename_i i s1 h1
    refine ya ?_ (wJ hc hi n a s s1 (.exit i) h1)
    rintro e1 s2 ⟨rfl,rfl⟩
    simp only[cY]
    split at h
    ·rename_i hi; cases h; rw[if_pos hi]; exact ⟨rfl,rfl⟩
    ·rename_i hi; cases h; rw[if_neg hi]; exact ⟨rfl,rfl⟩
   ·rename_i hne
    refine ya ?_ (wJ hc hi n a s s' e h)
    rintro e1 s2 ⟨rfl,rfl⟩
    cases e1 with
    | exit i=>exact absurd h (hne _ _)
    | _=>exact ⟨rfl,rfl⟩
  | loop a =>
   refine ⟨fun m s0=>m≤n+1∧bA P call ci m (.loop a) s0=some (e,s'),n+1,s,St.imp.refl,⟨Nat.le_refl _,h⟩,?_⟩
   rintro m s0 ⟨hm,hj⟩
   cases m with
   | zero=>cases hj
   | succ m =>
    have hj:lN P call ci (bA P call ci m) (.loop a) s0=some (e,s'):=hj
    simp only[lN] at hj
    split at hj
    ·rename_i s1 h1
     have:m<n+1:=hm
     refine ya ?_ (wJ hc hi m a s0 s1 .normal h1)
     rintro e1 s2 ⟨rfl,rfl⟩
     exact ⟨m,_,Nat.lt_succ_self m,St.imp.refl,by omega,hj⟩
    ·rename_i hne
     refine ya ?_ (wJ hc hi m a s0 s' e hj)
     rintro e1 s2 ⟨rfl,rfl⟩
     cases e1 with
     | normal=>exact absurd hj (hne _)
     | _=>exact ⟨rfl,rfl⟩
  | exit id=>cases h; exact ⟨rfl,rfl⟩
  | goto l=>cases h; exact ⟨rfl,rfl⟩
  | again l a =>
   refine ⟨fun m s0=>m≤n+1∧bA P call ci m (.again l a) s0=some (e,s'),n+1,s,St.imp.refl,⟨Nat.le_refl _,h⟩,?_⟩
   rintro m s0 ⟨hm,hj⟩
   cases m with
   | zero=>cases hj
   | succ m =>
    have hj:lN P call ci (bA P call ci m) (.again l a) s0=some (e,s'):=hj
    simp only[lN] at hj
    split at hj
    ·rename_i i s1 h1
     split at hj
     ·rename_i hil
      have:m<n+1:=hm
      refine ya ?_ (wJ hc hi m a s0 s1 (.goto i) h1)
      rintro e1 s2 ⟨rfl,rfl⟩
      exact ⟨hil,m,_,Nat.lt_succ_self m,St.imp.refl,by omega,hj⟩
     ·cases hj
    ·rename_i hne
     refine ya ?_ (wJ hc hi m a s0 s' e hj)
     rintro e1 s2 ⟨rfl,rfl⟩
     cases e1 with
     | goto i=>exact absurd hj (hne _ _)
     | _=>exact ⟨rfl,rfl⟩
  | ret=>cases h; exact ⟨rfl,rfl⟩
termination_by n=>n
decreasing_by all_goals omega
abbrev cP:=FuncId→Option (zb × List zt × Nat)
def gM (P:Program) (tbl:cP):Prop:=∀ f ac ras N,tbl f=some (ac,ras,N)→zl P f=some (bare ac,ras,N)
def Yh (P:Program) (tbl:cP) (fuel:Nat) (ih:FuncId→List AV→Option AV) (ii:CI) (f:FuncId) (args:List AV):Option AV :=
 match tbl f with
 | some (ac,ras,N)=>if args.length≤N then (match bA P ih ii fuel ac ⟨uT 0 args,[],[],0⟩ with
   | some (.normal,s)=>rC ras s
   | some (.ret,s)=>rC ras s
   | _=>none) else none
 | none=>none
def Fi (s:St):Nat:=s.sto.foldl (fun m p=>if m≤p.1 then p.1+1 else m) (s.base+1000)
def No (ras:List zt) (s:St) (s1:St):Option (AV × St) :=
 match yA (p9 s1) ras,s1.out with
 | some xs,e0::o0=>some (tup xs,{env:=e0,sto:=s1.sto,out:=o0,base:=s.base})
 | _,_=>none
def bm (P:Program) (tbl:cP) (fuel:Nat) (ih:FuncId→List AV→Option AV) (ii:CI) (f:FuncId) (args:List AV) (s:St):Option (AV × St) :=
 match tbl f with
 | some (ac,ras,N)=>if args.length≤N then (match bA P ih ii fuel ac {env:=uT 0 args,sto:=s.sto,out:=s.env::s.out,base:=Fi s} with
   | some (.normal,s1)=>No ras s s1
   | some (.ret,s1)=>No ras s s1
   | _=>none) else none
 | none=>none
def j5 (P:Program) (tbl:cP) (fuel:Nat) (n:Nat):(FuncId→List AV→Option AV) × CI :=
 Nat.rec (fun _ _=>none,fun _ _ _=>none) (fun _ ih=>(Yh P tbl fuel ih.1 ih.2,bm P tbl fuel ih.1 ih.2)) n
def CO (P:Program) (tbl:cP) (fuel:Nat) (n:Nat):FuncId→List AV→Option AV:=(j5 P tbl fuel n).1
theorem U6 {P:Program} {tbl:cP} (ht:gM P tbl) (fuel:Nat):∀ n,lO P (j5 P tbl fuel n).1∧ju P (j5 P tbl fuel n).2
 | 0=>⟨fun _ _ _ h=>(by cases h),fun _ _ _ _ _ h=>(by cases h)⟩
 | n+1=>by
  obtain ⟨ih,ii⟩:=U6 ht fuel n
  refine ⟨fun f as r h=>?_,fun f as s r s' h=>?_⟩
  ·have h:Yh P tbl fuel (j5 P tbl fuel n).1 (j5 P tbl fuel n).2 f as=some r:=h
   unfold Yh at h
   split at h
   ·rename_i h1
    split at h
    ·rename_i hl
     refine sound (ht _ _ _ _ h1) hl ?_
     split at h
     ·rename_i h2
      refine ya ?_ (wJ ih ii _ _ _ _ _ h2)
      rintro e s ⟨rfl,rfl⟩
      exact ⟨.inl rfl,h⟩
     ·rename_i h2
      refine ya ?_ (wJ ih ii _ _ _ _ _ h2)
      rintro e s ⟨rfl,rfl⟩
      exact ⟨.inr rfl,h⟩
     ·cases h
    ·cases h
   ·cases h
  ·have h:bm P tbl fuel (j5 P tbl fuel n).1 (j5 P tbl fuel n).2 f as s=some (r,s'):=h
   have pop:∀ {ras:List zt} {s1:St},No ras s s1=some (r,s')→∃ xs e0 o0,yA (p9 s1) ras=some xs∧s1.out=e0::o0∧(tup xs=r∧({env:=e0,sto:=s1.sto,out:=o0,base:=s.base}:St)=s'):=by
    intro ras s1 hp
    unfold No at hp
    split at hp
    ·rename_i xs e0 o0 h1 h2
     cases hp
     exact ⟨xs,e0,o0,h1,h2,rfl,rfl⟩
    ·cases hp
   unfold bm at h
   split at h
   ·rename_i h1
    split at h
    ·rename_i hl
     refine Kk (Fi s) (ht _ _ _ _ h1) hl ?_
     split at h
     ·rename_i h2
      refine ya ?_ (wJ ih ii _ _ _ _ _ h2)
      rintro e s2 ⟨rfl,rfl⟩
      exact ⟨.inl rfl,pop h⟩
     ·rename_i h2
      refine ya ?_ (wJ ih ii _ _ _ _ _ h2)
      rintro e s2 ⟨rfl,rfl⟩
      exact ⟨.inr rfl,pop h⟩
     ·cases h
    ·cases h
   ·cases h
theorem zf.of_run {P:Program} {tbl:cP} (ht:gM P tbl) {f:FuncId} {args:List AV} {r:AV} (fuel n:Nat) (h:CO P tbl fuel n f args=some r):zf P f args r :=
 (U6 ht fuel n).1 f args r h
theorem gM.nil {P:Program}:gM P (lk []):=fun _ _ _ _ h=>by cases h
theorem gM.cons {P:Program} {f:FuncId} {ac:zb} {ras:List zt} {N:Nat} {l:List (Nat × (zb × List zt × Nat))} (h:zl P f=some (bare ac,ras,N)) (hl:gM P (lk l)) :
  gM P (lk ((f,(ac,ras,N))::l)):=fun g a r n hg=>by
 simp only[lk] at hg
 split at hg
 ·rename_i e; subst e; cases hg; exact h
 ·exact hl _ _ _ _ hg
@[simp] theorem Ao {b:Bool}:ofV (.bool b)=.val (.bool b):=rfl
@[simp] theorem Ep {k:IntKind} {n:Int}:ofV (.int k n)=.val (.int k n):=rfl
@[simp] theorem Bh {s:ByteArray}:ofV (.string s)=.val (.string s):=rfl
@[congr] theorem CG {P:Program} {f:FuncId} {σ:Nat→Option zd} {xs xs':List AV} {k:AV→Option zd→Prop} (h:Unit→xs=xs'):xK P f σ xs k=xK P f σ xs' k:=by rw[h ()]
@[congr] theorem Dk {P:Program} {os:List zg} {s s':St} {K:St→Prop} (h:Unit→s=s'):zh P os s K=zh P os s' K:=by rw[h ()]
@[simp] theorem AK {c:Prop} [Decidable c]:stm (if c then Mode.full else Mode.plain)=if c then Mode.full else Mode.plain:=by split<;>rfl
def PV (len esz:Nat) (n:Option Nat) (x y:AV) (k:AV→Option zd→Prop):Prop :=
 match x,y with
 | .agg cells,.val (.int _ i)=>0≤i∧i<len∧xG (wO cells (i.toNat * esz) n) k
 | _,_=>False
@[simp] theorem BF {len esz:Nat} {n:Option Nat} {cells:List AV} {ik:IntKind} {i:Int} {k:AV→Option zd→Prop} :
  PV len esz n (.agg cells) (.val (.int ik i)) k=(0≤i∧i<len∧xG (wO cells (i.toNat * esz) n) k):=rfl
@[simp] theorem Ap {P:Program} {s:St} {KS:St→Prop} {os:List zg} {d:Nat} {len esz:Nat} {n:Option Nat} {x y:Opd} :
  zh P (⟨some d,.idxA len esz n,[x,y],none⟩::os) s KS=PV len esz n (ev s x) (ev s y) (xl P os s (some d) KS):=by
 show zw P (s.base+d) (.idxA len esz n) [ev s x,ev s y] (lk s.sto) (xl P os s (some d) KS)=_
 simp only[zw,PV]
 cases ev s x<;>try rfl
 cases ev s y<;>try rfl
 rename_i v
 cases v<;>rfl
@[simp] theorem Bl {cells:List AV} {off:Nat}:wO cells off none=cells[off]?:=rfl
open Go.ChangeShapes Go.WideShapes
inductive Ty where
 | bool
 | int (k:IntKind)
 | str
 | slice (e:Ty)
 | arr (n:Nat) (e:Ty)
 | st (fs:List Ty)
mutual
def Ty.sz:Ty→Nat
 | .bool=>1
 | .int _=>1
 | .str=>1
 | .slice _=>1
 | .arr n e=>n*e.sz
 | .st fs=>Ty.szs fs
def Ty.szs:List Ty→Nat
 | []=>0
 | t::ts=>t.sz+Ty.szs ts
end
def la (P:Program) (f:TypeId→Option Ty):Nat→List Field→Option (List Ty)
 | _,[]=>some []
 | off,g::gs=>match f g.type with
  | some τ=>if g.offset=off∧P.cellsOf g.type=τ.sz then (la P f (off+τ.sz) gs).map (τ::·) else none
  | none=>none
def gF (P:Program):Nat→TypeId→Option Ty
 | 0,_=>none
 | m+1,t=>match P.underlying t with
  | some .bool=>some .bool
  | some (.int k)=>some (.int k)
  | some .string=>some .str
  | some (.slice e)=>match gF P m e with
   | some τ=>if 0<τ.sz∧P.cellsOf e=τ.sz∧0<P.bytesOf e then some (.slice τ) else none
   | none=>none
  | some (.array n e)=>match gF P m e with
   | some τ=>if P.cellsOf e=τ.sz∧P.cellsOf t=n*τ.sz then some (.arr n τ) else none
   | none=>none
  | some (.struct fs)=>match la P (gF P m) 0 fs.toList with
   | some τs=>if P.cellsOf t=Ty.szs τs then some (.st τs) else none
   | none=>none
  | _=>none
mutual

def TyC:Ty→List AV→Prop
 | .bool,cs=>∃ b,cs=[.val (.bool b)]
 | .int k,cs=>∃ n,cs=[.val (.int k n)]∧(Lit.int k n).wf=true
 | .str,cs=>∃ s:ByteArray,cs=[.val (.string s)]∧s.size≤reachBytes
 | .slice e,cs=>∃ rows:List (List AV),cs=[.list e.sz .plain rows]∧rows.length≤reachBytes∧∀ r∈rows,TyC e r
 | .arr n e,cs=>∃ rows:List (List AV),cs=rows.flatten∧rows.length=n∧∀ r∈rows,TyC e r
 | .st fs,cs=>Sa fs cs
def Sa:List Ty→List AV→Prop
 | [],cs=>cs=[]
 | τ::τs,cs=>∃ a b,cs=a++b∧TyC τ a∧Sa τs b
end
theorem ZC {α:Type} {n:Nat}:∀ {rows:List (List α)},(∀ r∈rows,r.length=n)→rows.flatten.length=rows.length*n
 | [],_=>by simp
 | r::rows,h=>by
  simp only[List.flatten_cons,List.length_append,List.length_cons,Nat.succ_mul]
  rw[ZC (rows:=rows) (fun r hr=>h r (by simp[hr])),h r (by simp)]
  omega
mutual
theorem aP:∀ {τ:Ty} {cs:List AV},TyC τ cs→cs.length=τ.sz
 | .bool,_,h=>by obtain ⟨b,rfl⟩:=h; rfl
 | .int _,_,h=>by obtain ⟨b,rfl,_⟩:=h; rfl
 | .str,_,h=>by obtain ⟨b,rfl,_⟩:=h; rfl
 | .slice _,_,h=>by obtain ⟨b,rfl,_⟩:=h; rfl
 | .arr n e,_,h=>by
  obtain ⟨rows,rfl,rfl,h⟩:=h
  rw[ZC (fun r hr=>aP (h r hr))]; rfl
 | .st fs,_,h=>Sb (show Sa fs _ from h)
theorem Sb:∀ {τs:List Ty} {cs:List AV},Sa τs cs→cs.length=Ty.szs τs
 | [],_,h=>by rw[show _=[] from h]; rfl
 | τ::τs,_,h=>by
  obtain ⟨a,b,rfl,h1,h2⟩:=h
  rw[List.length_append,aP h1,Sb h2]; rfl
end
section
variable {H:Type} {enc:TypeId × Value→H} {P:Program} {w:World}
abbrev PI (ps:List MemPlace):Nat→Nat→Prop:=fun b o=>MemPlace.cell b o∈ps
def xJ (w:World) (ps:List MemPlace) (xs:List AV) (cs:List Value):Prop :=
 xs.length=cs.length∧∀ (i:Nat) x,xs[i]?=some x→R0 (PI ps) w x (cs.getD i undef)∧single (cs.getD i undef)=true
theorem xJ.mono {ps qs:List MemPlace} {xs:List AV} {cs:List Value} (h:xJ w ps xs cs) (hs:∀ p∈ps,p∈qs):xJ w qs xs cs :=
 ⟨h.1,fun i x hx=>⟨(h.2 i x hx).1.mono (fun _ _ hp=>hs _ hp) (fun _ _ _ _ h=>h),(h.2 i x hx).2⟩⟩
theorem xJ.append {ps:List MemPlace} {xs ys:List AV} {cs ds:List Value} (h:xJ w ps xs cs) (k:xJ w ps ys ds):xJ w ps (xs++ys) (cs++ds):=by
 refine ⟨by simp[h.1,k.1],fun i x hx=>?_⟩
 by_cases hi:i<xs.length
 ·rw[List.getElem?_append_left hi] at hx
  have:(cs++ds).getD i undef=cs.getD i undef:=by simp only[List.getD]; rw[List.getElem?_append_left (by rw[← h.1]; exact hi)]
  rw[this]; exact h.2 i x hx
 ·rw[List.getElem?_append_right (by omega)] at hx
  have:(cs++ds).getD i undef=ds.getD (i-xs.length) undef:=by simp only[List.getD]; rw[List.getElem?_append_right (by rw[← h.1]; omega),h.1]
  rw[this]; exact k.2 _ x hx
theorem xJ.one {ps:List MemPlace} {x:AV} {v:Value} (h:R0 (PI ps) w x v) (hs:single v=true):xJ w ps [x] [v]:=by
 refine ⟨rfl,fun i y hy=>?_⟩
 cases i with
 | zero=>simp at hy; subst hy; exact ⟨h,hs⟩
 | succ i=>simp at hy
theorem xJ.nil {ps:List MemPlace}:xJ w ps [] []:=⟨rfl,fun i x h=>by simp at h⟩
theorem XY {ps:List MemPlace} {n:Nat}:∀ {rows:List (List AV)} {cs:List Value},cs.length=rows.length*n →
  (∀ i r,rows[i]?=some r→xJ w ps r ((cs.drop (i*n)).take n))→xJ w ps rows.flatten cs
 | [],cs,hl,_=>by
  have:cs=[]:=List.eq_nil_of_length_eq_zero (by simpa using hl)
  subst this
  exact xJ.nil
 | r::rows,cs,hl,h=>by
  simp only[List.length_cons,Nat.succ_mul] at hl
  have h0:=h 0 r rfl
  simp only[Nat.zero_mul,List.drop_zero] at h0
  have ih:=XY (ps:=ps) (n:=n) (rows:=rows) (cs:=cs.drop n) (by simp; omega) (fun i q hq=>by
   have:=h (i+1) q (by simpa using hq)
   rw[List.drop_drop]
   rwa [Nat.succ_mul,Nat.add_comm] at this)
  have:=h0.append ih
  rwa [List.take_append_drop] at this
theorem Yj {base:Nat} {a:Addr} {n:Nat} {cs:List Value} (h:w.cells? base a n=some cs):cs.length=n∧∀ i,i<n→w.cell? (a.add i)=cs[i]?:=by
 unfold World.cells? at h
 split at h
 ·refine ⟨by simpa using mapM_some_length h,fun i hi=>mapM_some_get h i i (by simp[hi])⟩
 ·cases h
abbrev lD (P:Program) (t:TypeId) (d:DataW H):Prop:=(d.weights P t).all (·≤reachBytes)=true
theorem ah {P:Program} {e:TypeId}:∀ {ds:List (DataW H)},(DataW.weightsAll P e ds).all (·≤reachBytes)=true→∀ d∈ds,lD P e d
 | [],_,_,h=>by cases h
 | d::ds,h,q,hq=>by
  simp only[DataW.weightsAll,List.all_append,Bool.and_eq_true] at h
  rcases List.mem_cons.1 hq with rfl | hq
  ·exact h.1
  ·exact ah h.2 q hq
theorem dO {P:Program}:∀ {ts:List TypeId} {ds:List (DataW H)},(DataW.weightsEach P ts ds).all (·≤reachBytes)=true→∀ (i:Nat) t d,ts[i]?=some t→ds[i]?=some d→lD P t d
 | [],_,_,i,t,d,h1,_=>by simp at h1
 | t::ts,[],_,i,_,_,_,h2=>by simp at h2
 | t::ts,d::ds,h,i,t',d',h1,h2=>by
  simp only[DataW.weightsEach,List.all_append,Bool.and_eq_true] at h
  cases i with
  | zero=>simp at h1 h2; subst h1; subst h2; exact h.1
  | succ i=>simp at h1 h2; exact dO h.2 i _ _ h1 h2
theorem fQ {α β:Type} {Q:Nat→α→β→Prop}:∀ {l:List α} (k:Nat),(∀ i a,l[i]?=some a→∃ b,Q (k+i) a b)→∃ m:List β,m.length=l.length∧∀ i a b,l[i]?=some a→m[i]?=some b→Q (k+i) a b
 | [],_,_=>⟨[],rfl,fun i a b h=>by simp at h⟩
 | a::l,k,h=>by
  obtain ⟨b,hb⟩:=h 0 a rfl
  obtain ⟨m,h1,h2⟩:=fQ (l:=l) (k+1) (fun i a ha=>by
   have:=h (i+1) a (by simpa using ha)
   rwa [show k+1+i=k+(i+1) by omega])
  refine ⟨b::m,by simp[h1],fun i a' b' ha hb'=>?_⟩
  cases i with
  | zero=>simp at ha hb'; subst ha; subst hb'; exact hb
  | succ i =>
   simp at ha hb'
   have:=h2 i a' b' ha hb'
   rwa [show k+1+i=k+(i+1) by omega] at this
theorem aA {ps:List MemPlace} {n:Nat} {f:TypeId→Option Ty} {cs:List Value}:∀ {fs:List Field} {τs:List Ty} {off:Nat} {xs:List (DataW H × List MemPlace)},la P f off fs=some τs→xs.length=fs.length→cs.length=off+Ty.szs τs →
  (∀ (i:Nat) (g:Field) x,fs[i]?=some g→xs[i]?=some x→(∀ p∈x.2,p∈ps)∧∀ τ,f g.type=some τ→∃ ys,TyC τ ys∧xJ w x.2 ys ((cs.drop g.offset).take (P.cellsOf g.type))) →
  ∃ ys,Sa τs ys∧xJ w ps ys (cs.drop off)
 | [],τs,off,xs,h,_,hl,_=>by
  simp only[la,Option.some.injEq] at h
  subst h
  simp only[Ty.szs,Nat.add_zero] at hl
  rw[List.drop_of_length_le (by omega)]
  exact ⟨[],rfl,xJ.nil⟩
 | g::fs,τs,off,xs,h,hx,hl,hf=>by
  simp only[la] at h
  split at h
  ·rename_i τ hτ
   split at h
   ·rename_i hc
    cases hr:la P f (off+τ.sz) fs with
    | none=>simp[hr] at h
    | some τr =>
     simp only[hr,Option.map_some,Option.some.injEq] at h
     subst h
     cases xs with
     | nil=>simp at hx
     | cons x xs =>
      simp only[Ty.szs] at hl
      obtain ⟨h1,h2⟩:=hf 0 g x rfl rfl
      obtain ⟨ys,hy1,hy2⟩:=h2 τ hτ
      obtain ⟨zs,hz1,hz2⟩:=aA (ps:=ps) (n:=n) hr (by simpa using hx) (by omega) (fun i g' x' hg hx'=>hf (i+1) g' x' (by simpa using hg) (by simpa using hx'))
      refine ⟨ys++zs,⟨ys,zs,rfl,hy1,hz1⟩,?_⟩
      have:=(hy2.mono h1).append hz2
      rw[hc.1,hc.2,← List.drop_drop] at this
      rwa [List.take_append_drop] at this
   ·cases h
  ·cases h
theorem dR {held:Bool}:∀ (n m:Nat) (t:TypeId) (τ:Ty) (cs:List Value) (d:DataW H) (ps:List MemPlace),gF P m t=some τ →
  DataW.trod enc P w 0 (fun _=>true) held n t cs=some (d,ps)→lD P t d→∃ xs,TyC τ xs∧xJ w ps xs cs
 | 0,_,_,_,_,_,_,_,h,_=>by simp[DataW.trod] at h
 | n+1,0,_,_,_,_,_,h,_,_=>by cases h
 | n+1,m+1,t,τ,cs,d,ps,hτ,h,hw=>by
  simp only[gF] at hτ
  split at hτ<;>rename_i hu
  ·cases hτ
   obtain ⟨b,rfl,hx⟩:=DataW.trod_bool hu h
   exact ⟨[.val (.bool b)],⟨b,rfl⟩,xJ.one (.val _) rfl⟩
  ·cases hτ
   obtain ⟨k,rfl,hx,hwf⟩:=DataW.trod_int hu h
   exact ⟨[.val (.int _ k)],⟨k,rfl,hwf⟩,xJ.one (.val _) rfl⟩
  ·cases hτ
   obtain ⟨s,rfl,hx,_⟩:=DataW.trod_string hu h
   simp only[Prod.mk.injEq] at hx
   obtain ⟨rfl,rfl⟩:=hx
   refine ⟨[.val (.string s)],⟨s,rfl,?_⟩,xJ.one (.val _) rfl⟩
   simp[lD,DataW.weights] at hw
   exact hw
  ·rename_i e
   split at hτ
   ·rename_i σ hσ
    split at hτ
    ·rename_i hc
     cases hτ
     rcases DataW.trod_slice hu h with ⟨rfl,hx⟩ | ⟨a,len,cap,elems,rest,n',hn,rfl,hx,_,hlc,hcm,hlen,hel,_,_⟩
     ·exact ⟨[.list σ.sz .plain []],⟨[],rfl,by simp,by simp⟩,xJ.one (.listNil _ _ _ _ (fun h=>by cases h) (fun _ h=>by cases h)) rfl⟩
     ·cases hn
      simp only[Prod.mk.injEq] at hx
      obtain ⟨rfl,rfl⟩:=hx
      simp only[lD,DataW.weights,hu,List.all_cons,List.all_append,Bool.and_eq_true,decide_eq_true_eq] at hw
      obtain ⟨hw1,hw2,_⟩:=hw
      have hsz:=ah hw2
      obtain ⟨rows,hr1,hr2⟩:=fQ (l:=elems) (Q:=fun i y r=>TyC σ r∧∃ c,w.cells? 0 (a.add (i*P.cellsOf e)) (P.cellsOf e)=some c∧xJ w y.2 r c) 0 (fun i y hy=>by
       have hi:i<len:=by have:=(List.getElem?_eq_some_iff.1 hy).1; omega
       have:=hel i hi
       rw[hy,Option.bind_eq_some_iff] at this
       obtain ⟨c,hc1,hc2⟩:=this
       obtain ⟨xs,hx1,hx2⟩:=dR n m e σ c y.1 y.2 hσ hc2 (hsz y.1 (List.mem_map.2 ⟨y,List.mem_of_getElem? hy,rfl⟩))
       exact ⟨xs,hx1,c,by rw[Nat.zero_add]; exact hc1,hx2⟩)
      simp only[Nat.zero_add] at hr2
      have hlr:rows.length=len:=by omega
      refine ⟨[.list σ.sz .plain rows],⟨rows,rfl,?_,fun r hr=>?_⟩,xJ.one ?_ rfl⟩
      ·have h1:(elems.length+rest.length)*P.bytesOf e≤reachBytes:=by simpa using hw1
       have h2:elems.length+rest.length≤(elems.length+rest.length)*P.bytesOf e:=Nat.le_mul_of_pos_right _ hc.2.2
       omega
      ·obtain ⟨i,hi⟩:=List.mem_iff_getElem?.1 hr
       have hil:i<elems.length:=by have:=(List.getElem?_eq_some_iff.1 hi).1; omega
       exact (hr2 i elems[i] r (by simp[hil]) hi).1
      ·by_cases h0:len=0
       ·have:rows=[]:=List.eq_nil_of_length_eq_zero (by omega)
        subst this
        subst h0
        exact .listNil _ _ _ _ (fun h=>by cases h) (fun _ h=>by cases h)
       ·have get:∀ (i:Nat) (r:List AV),rows[i]?=some r→∃ y c,elems[i]?=some y∧TyC σ r∧w.cells? 0 (a.add (i*P.cellsOf e)) (P.cellsOf e)=some c∧xJ w y.2 r c:=fun i r hi=>by
         have hil:i<elems.length:=by have:=(List.getElem?_eq_some_iff.1 hi).1; omega
         obtain ⟨g1,c,g2,g3⟩:=hr2 i elems[i] r (by simp[hil]) hi
         exact ⟨elems[i],c,by simp[hil],g1,g2,g3⟩
        obtain ⟨b,o,spot⟩:=a
        have hspot:spot=none:=by
         obtain ⟨y,c,g1,g2,g3,g4⟩:=get 0 rows[0] (List.getElem?_eq_getElem (by omega))
         have g5:=(Yj g3).2 0 (by omega)
         have g6:=(Yj g3).1
         rw[List.getElem?_eq_getElem (by omega)] at g5
         simpa [Addr.add] using World.cell?_spot g5
        subst hspot
        have hget:∀ (i:Nat) (r:List AV) (j:Nat) (x:AV),rows[i]?=some r→r[j]?=some x→∃ y v,elems[i]?=some y∧i<len∧j<σ.sz∧w.cell? ⟨b,o+i*σ.sz+j,none⟩=some v∧R0 (PI y.2) w x v∧single v=true:=fun i r j x hi hj=>by
         obtain ⟨y,c,g1,g2,g3,g4⟩:=get i r hi
         obtain ⟨g5,g6⟩:=Yj g3
         have hjl:j<σ.sz:=by have:=(List.getElem?_eq_some_iff.1 hj).1; have:=aP g2; omega
         have g7:=g6 j (by omega)
         have hjc:j<c.length:=by omega
         rw[List.getElem?_eq_getElem hjc] at g7
         obtain ⟨k1,k2⟩:=g4.2 j x hj
         have:c.getD j undef=c[j]:=by simp[hjc]
         rw[this] at k1 k2
         refine ⟨y,c[j],g1,?_,hjl,?_,k1,k2⟩
         ·have:=(List.getElem?_eq_some_iff.1 hi).1; omega
         ·rw[← g7,hc.2.1,addr_add,addr_add]
        rw[← hlr]
        refine .list _ _ _ _ _ _ (fun i j=>((w.cell? ⟨b,o+i*σ.sz+j,none⟩).getD undef)) (by omega) (fun h=>by cases h) (fun _ h=>by cases h) (fun i r hi=>?_) (fun i r j x hi hj=>?_) (fun i r j x hi hj=>?_)
        ·obtain ⟨_,_,_,g2,_⟩:=get i r hi
         exact aP g2
        ·obtain ⟨y,v,g1,gi,gj,g2,g3,g4⟩:=hget i r j x hi hj
         rw[g2]
         refine ⟨?_,rfl,g4⟩
         refine List.mem_append_left _ (MemPlace.mem_row.2 ⟨i*σ.sz+j,?_,?_⟩)
         ·rw[hc.2.1]
          have h1:i+1≤elems.length+rest.length:=by omega
          have h2:=Nat.mul_le_mul_right σ.sz h1
          rw[Nat.succ_mul] at h2
          omega
         ·simp only[MemPlace.cell.injEq,true_and]; omega
        ·obtain ⟨y,v,g1,gi,gj,g2,g3,g4⟩:=hget i r j x hi hj
         rw[g2]
         refine g3.mono (fun b' o' hp=>?_) (fun _ _ _ _ h=>h)
         exact List.mem_append_right _ (List.mem_flatMap.2 ⟨y,List.mem_append_left _ (List.mem_of_getElem? g1),hp⟩)
    ·cases hτ
   ·cases hτ
  ·rename_i k e
   split at hτ
   ·rename_i σ hσ
    split at hτ
    ·rename_i hc
     cases hτ
     obtain ⟨xs,n',hn,hx,hcl,hxl,hel⟩:=DataW.trod_array hu h
     cases hn
     simp only[Prod.mk.injEq] at hx
     obtain ⟨rfl,rfl⟩:=hx
     simp only[lD,DataW.weights,hu] at hw
     have hsz:=ah hw
     obtain ⟨rows,hr1,hr2⟩:=fQ (l:=xs) (Q:=fun i y r=>TyC σ r∧xJ w y.2 r ((cs.drop (i*P.cellsOf e)).take (P.cellsOf e))) 0 (fun i y hy=>by
      have hi:i<k:=by have:=(List.getElem?_eq_some_iff.1 hy).1; omega
      have:=hel i hi
      rw[hy] at this
      rw[Nat.zero_add]
      exact dR n m e σ _ y.1 y.2 hσ this (hsz y.1 (List.mem_map.2 ⟨y,List.mem_of_getElem? hy,rfl⟩)))
     simp only[Nat.zero_add] at hr2
     refine ⟨rows.flatten,⟨rows,rfl,by omega,fun r hr=>?_⟩,?_⟩
     ·obtain ⟨i,hi⟩:=List.mem_iff_getElem?.1 hr
      have hil:i<xs.length:=by have:=(List.getElem?_eq_some_iff.1 hi).1; omega
      exact (hr2 i xs[i] r (by simp[hil]) hi).1
     ·refine XY (n:=σ.sz) (by rw[hcl,hc.2,hr1,hxl]) (fun i r hi=>?_)
      have hil:i<xs.length:=by have:=(List.getElem?_eq_some_iff.1 hi).1; omega
      have:=(hr2 i xs[i] r (by simp[hil]) hi).2
      rw[hc.1] at this
      exact this.mono (fun p hp=>List.mem_flatMap.2 ⟨xs[i],List.getElem_mem _,hp⟩)
    ·cases hτ
   ·cases hτ
  ·rename_i fs
   split at hτ
   ·rename_i τs hσ
    split at hτ
    ·rename_i hc
     cases hτ
     obtain ⟨xs,n',hn,hx,hcl,hxl,hel⟩:=DataW.trod_struct hu h
     cases hn
     simp only[Prod.mk.injEq] at hx
     obtain ⟨rfl,rfl⟩:=hx
     simp only[lD,DataW.weights,hu] at hw
     have:=aA (P:=P) (w:=w) (ps:=xs.flatMap (·.2)) (n:=n) (cs:=cs) hσ (by simpa using hxl) (by rw[hcl,hc]; omega) (fun i g x hg hx=>by
      have hg':fs[i]?=some g:=by simpa using hg
      have h1:=hel i g hg'
      rw[hx] at h1
      refine ⟨fun p hp=>List.mem_flatMap.2 ⟨x,List.mem_of_getElem? hx,hp⟩,fun τ hτ=>?_⟩
      exact dR n m g.type τ _ x.1 x.2 hτ h1 (dO hw i g.type x.1 (by simp[hg']) (by simp[hx])))
     obtain ⟨ys,h1,h2⟩:=this
     exact ⟨ys,h1,by simpa using h2⟩
    ·cases hτ
   ·cases hτ
  ·cases hτ
end
def cN:Ty→AV→Prop
 | .arr n e,x=>∃ cs,x=.agg cs∧TyC (.arr n e) cs
 | .st fs,x=>∃ cs,x=.agg cs∧TyC (.st fs) cs
 | τ,x=>TyC τ [x]
def aO:List Ty→List AV→Prop
 | [],[]=>True
 | τ::τs,x::xs=>cN τ x∧aO τs xs
 | _,_=>False
section
variable {H:Type} {enc:TypeId × Value→H} {P:Program} {W:World}
theorem TC {ps:List MemPlace} {xs:List AV} {cs:Array Value} (h:xJ W ps xs cs.toList):R0 (PI ps) W (.agg xs) (.agg cs):=by
 obtain ⟨h1,h2⟩:=h
 simp only[Array.length_toList] at h1
 have hg:∀ i,cs.toList.getD i undef=cs.getD i undef:=fun i=>by simp[List.getD,Array.getD_eq_getD_getElem?]
 refine .agg _ _ h1.symm ?_ (fun i x hx=>?_)
 ·rw[Array.all_eq_true]
  intro i hi
  obtain ⟨_,h4⟩:=h2 i xs[i] (by simp[h1,hi])
  rw[hg] at h4
  simpa [hi] using h4
 ·obtain ⟨h3,_⟩:=h2 i x hx
  rw[hg] at h3
  exact h3
theorem Mg {m:Nat} {t:TypeId} {τ:Ty} {v:Value} {d:DataW H} {ps:List MemPlace} {r:Reach} {base:Nat} (hτ:gF P m t=some τ) (hok:Value.okWide P W r base t v)
  (h:DataW.Trod enc P W 0 (fun _=>true) true t v d ps) (hw:lD P t d):∃ x,cN τ x∧R0 (PI ps) W x v:=by
 obtain ⟨n,hn⟩:=h
 obtain ⟨xs,h1,h2⟩:=dR n m t τ _ d ps hτ hn hw
 have one:v.cells=#[v]→(∃ x,xs=[x])→∃ x,TyC τ [x]∧R0 (PI ps) W x v:=by
  rintro hv ⟨x,rfl⟩
  obtain ⟨h3,_⟩:=h2.2 0 x rfl
  rw[hv] at h3
  exact ⟨x,h1,h3⟩
 cases m with
 | zero=>cases hτ
 | succ m =>
  simp only[gF] at hτ
  split at hτ<;>rename_i hu
  ·cases hτ
   obtain ⟨b,rfl⟩:=h1
   refine one ?_ ⟨_,rfl⟩
   simp only[Value.okWide,hu,Cell.okWide,Cell.ok] at hok
   cases v<;>first | rfl | exact hok.elim
  ·cases hτ
   obtain ⟨b,rfl,hb⟩:=h1
   have:=one ?_ ⟨_,rfl⟩
   ·exact this
   simp only[Value.okWide,hu,Cell.okWide,Cell.ok] at hok
   cases v<;>first | rfl | exact hok.elim
  ·cases hτ
   obtain ⟨b,rfl,hb⟩:=h1
   have:=one ?_ ⟨_,rfl⟩
   ·exact this
   simp only[Value.okWide,hu,Cell.okWide,Cell.ok] at hok
   cases v<;>first | rfl | exact hok.elim
  ·split at hτ
   ·split at hτ
    ·cases hτ
     obtain ⟨rows,rfl,hb⟩:=h1
     have:=one ?_ ⟨_,rfl⟩
     ·exact this
     simp only[Value.okWide,hu,Cell.okWide,Cell.ok] at hok
     cases v<;>first | rfl | exact hok.elim
    ·cases hτ
   ·cases hτ
  ·split at hτ
   ·split at hτ
    ·cases hτ
     simp only[Value.okWide,hu] at hok
     obtain ⟨cs,rfl,_⟩:=hok
     exact ⟨.agg xs,⟨xs,rfl,h1⟩,TC h2⟩
    ·cases hτ
   ·cases hτ
  ·split at hτ
   ·split at hτ
    ·cases hτ
     simp only[Value.okWide,hu] at hok
     obtain ⟨cs,rfl,_⟩:=hok
     exact ⟨.agg xs,⟨xs,rfl,h1⟩,TC h2⟩
    ·cases hτ
   ·cases hτ
  ·cases hτ
theorem YP {m:Nat} {r:Reach} {base:Nat}:∀ {ts:List TypeId} {τs:List Ty} {vs:List Value} {ds:List (DataW H)} {ps:List MemPlace},yA (gF P m) ts=some τs →
  (∀ (j:Nat) t v,ts[j]?=some t→vs[j]?=some v→Value.okWide P W r base t v)→DataW.TrodAll enc P W 0 (fun _=>true) true ts vs ds ps →
  (∀ (j:Nat) t d,ts[j]?=some t→ds[j]?=some d→lD P t d) →
  ∃ xs,aO τs xs∧xs.length=vs.length∧ds.length=ts.length∧∀ (i:Nat) x,xs[i]?=some x→R0 (PI ps) W x (vs.getD i undef)
 | [],τs,vs,ds,ps,h,_,hA,_=>by
  simp only[yA,Option.some.injEq] at h
  subst h
  match vs,ds,hA with
  | [],[],_=>exact ⟨[],trivial,rfl,rfl,fun i x hx=>by simp at hx⟩
 | t::ts,τs,vs,ds,ps,h,hv,hA,hs=>by
  simp only[yA] at h
  split at h
  ·rename_i τ hτ
   cases hr:yA (gF P m) ts with
   | none=>simp[hr] at h
   | some σs =>
    simp only[hr,Option.map_some,Option.some.injEq] at h
    subst h
    match vs,ds,hA with
    | v::vs,d::ds,⟨p,q,h1,h2,e⟩ =>
     obtain ⟨x,a1,a2⟩:=Mg hτ (hv 0 t v rfl rfl) h1 (hs 0 t d rfl rfl)
     obtain ⟨xs,b1,b2,b3,b4⟩:=YP hr (fun j t' v' ht hv'=>hv (j+1) t' v' (by simpa using ht) (by simpa using hv')) h2 (fun j t' d' ht hd=>hs (j+1) t' d' (by simpa using ht) (by simpa using hd))
     subst e
     refine ⟨x::xs,⟨a1,b1⟩,by simp[b2],by simp[b3],fun i y hy=>?_⟩
     cases i with
     | zero =>
      simp at hy
      subst hy
      simp only[List.getD_cons_zero]
      exact a2.mono (fun _ _ hp=>List.mem_append_left _ hp) (fun _ _ _ _ h=>h)
     | succ i =>
      simp at hy
      simp only[List.getD_cons_succ]
      exact (b4 i y hy).mono (fun _ _ hp=>List.mem_append_right _ hp) (fun _ _ _ _ h=>h)
  ·cases h
theorem cC {W':World} (hl:laidOutB P=true) (hb:Below W.heap.size W W'):∀ {ts:List TypeId} {vs:List Value} {ds:List (DataW H)} {ps:List MemPlace},
  (∀ t∈ts,P.readableRec t=true∧t<P.types.size)→DataW.TrodAll enc P W 0 (fun _=>true) true ts vs ds ps→(∀ x∈ps,x.block<W.heap.size) →
  DataW.TrodAll enc P W' 0 (fun b=>decide (b<W.heap.size)) true ts vs ds ps
 | [],[],[],_,_,h,_=>h
 | t::ts,v::vs,d::ds,_,ht,⟨p,q,h1,h2,e⟩,hlt=>by
  subst e
  exact ⟨p,q,Below.trod hl (ht t (by simp)).1 (ht t (by simp)).2 h1 hb (fun x hx=>hlt x (List.mem_append_left _ hx)),
   cC hl hb (fun t h=>ht t (by simp[h])) h2 (fun x hx=>hlt x (List.mem_append_right _ hx)),rfl⟩
theorem M4 {f:FuncId} {fn:Func} {s:ChangeSpec} {tb:TypeId} {τs:List Ty} (hl:laidOutB P=true) (hty:yA (gF P 20) fn.params.toList=some τs)
  (hread:(fn.params.toList.all fun t=>P.readableRec t&&decide (t<P.types.size))=true) (hres:fn.resultTypes=#[tb]) (hub:P.underlying tb=some .bool) (hvars:s.vars=[])
  (hfn:∀ ds:List (DataW H),ds.length=fn.params.toList.length→(s.fn H (ds++[])).results=[.lit (.bool true)]∧(s.fn H (ds++[])).args=ds∧(s.fn H (ds++[])).vars=[])
  (hcall:∀ xs,aO τs xs→zf P f xs (bv true)) {base:Nat} {args:Array Value} {ds gs:List (DataW H)} {before:List MemPlace}
  (hval:∀ (j:Nat) t v,fn.params[j]?=some t→args[j]?=some v→Value.okWide P W .any base t v)
  (hW:DataW.Whole enc P fn.params.toList s.vars false W args.toList ds gs before)
  (hsz:(DataW.weightsEach P (fn.params.toList++s.plain.varTypes P) (ds++gs)).all (·≤reachBytes)=true) :
  Calls P f args W fun e W'=>∃ v,e=.returned v∧s.post enc P fn false true false false W args v W':=by
 have hW':=hW
 obtain ⟨p,q,hA,hV,rfl,_,_⟩:=hW
 rw[hvars] at hV
 obtain ⟨rfl,rfl⟩:=trodVars_none hV
 have hsz':∀ (j:Nat) t d,fn.params.toList[j]?=some t→ds[j]?=some d→lD P t d:=fun j t d ht hd=>by
  refine dO hsz j t d ?_ ?_
  ·rw[List.getElem?_append_left (List.getElem?_eq_some_iff.1 ht).1]; exact ht
  ·rw[List.getElem?_append_left (List.getElem?_eq_some_iff.1 hd).1]; exact hd
 obtain ⟨xs,h1,h2,h3,h4⟩:=YP (r:=.any) (base:=base) hty (fun j t v ht hv=>hval j t v (by simpa using ht) (by simpa using hv)) hA hsz'
 have hlt:∀ x∈p,x.block<W.heap.size:=fun x hx=>by simpa using hW'.lt x (List.mem_append_left _ hx)
 refine (hcall xs h1 (PI p) args W (fun b o hb=>hlt _ hb) (by simp[h2]) (fun i x hx=>?_)).mono fun e W' ⟨v,he,hb,hR⟩=>?_
 ·have:=h4 i x hx
  have e:args.toList.getD i undef=args.getD i undef:=by simp[List.getD,Array.getD_eq_getD_getElem?]
  rwa [e] at this
 ·have hv:v=.bool true:=R0.val_eq hR
  subst hv
  obtain ⟨f1,f2,f3⟩:=hfn ds h3
  have hread':∀ t∈fn.params.toList,P.readableRec t=true∧t<P.types.size:=fun t ht=>by
   have:=List.all_eq_true.1 hread t ht
   simpa using this
  refine ⟨_,he,ds,[],p++[],[]++[],p,[],hW',?_,?_,?_,hb.frame _,fun h=>by cases h⟩
  ·rw[f1,hres]
   exact trodAll_mk1 (shut_bool hub _)
  ·rw[f2]; exact cC hl hb hread' hA hlt
  ·rw[f3,hvars]; rfl
end
theorem lu {α:Type} {τ:Ty} (f:α→List AV) (Q:α→Prop) (one:∀ r,TyC τ r→∃ x,r=f x∧Q x):∀ {rows:List (List AV)},(∀ r∈rows,TyC τ r)→∃ a:List α,rows=a.map f∧∀ x∈a,Q x
 | [],_=>⟨[],rfl,by simp⟩
 | r::rows,h=>by
  obtain ⟨a,rfl,h2⟩:=lu f Q one (rows:=rows) (fun r hr=>h r (by simp[hr]))
  obtain ⟨x,rfl,h3⟩:=one r (h r (by simp))
  exact ⟨x::a,rfl,by simpa using ⟨h3,h2⟩⟩
theorem Ma {a b:Ty} {xs:List AV} (h:aO [a,b] xs):∃ x y,xs=[x,y]∧cN a x∧cN b y:=by
 match xs,h with
 | [x,y],h=>exact ⟨x,y,rfl,h.1,h.2.1⟩
theorem CD {a b c:Ty} {xs:List AV} (h:aO [a,b,c] xs):∃ x y z,xs=[x,y,z]∧cN a x∧cN b y∧cN c z:=by
 match xs,h with
 | [x,y,z],h=>exact ⟨x,y,z,rfl,h.1,h.2.1,h.2.2.1⟩
theorem AV.imp_nil {sz sz':Nat} {m':Mode} (hm:m'=.plain):AV.imp (.list sz .full []) (.list sz' m' []):=fun I w v h=>by
 subst hm
 cases h with
 | listNil _ _ a cap hm ho=>exact .listNil _ _ _ _ (by simp) (by simp)
 | list _ _ _ b o cap g h1 h2 h3 h4 h5 h6 =>
  exact .listNil _ _ _ _ (by simp) (by simp)
theorem AV.imp_tuple2 {x x' y:AV} (h:AV.imp x x'):AV.imp (.tuple [x,y]) (.tuple [x',y]):=fun I w v hv=>by
 cases hv with
 | tuple cells vs hs hc =>
  refine .tuple _ _ (by simpa using hs) fun i c hi=>?_
  match i,hi with
  | 0,hi=>simp at hi; subst hi; exact h _ _ _ (hc 0 x rfl)
  | 1,hi=>simp at hi; subst hi; exact hc 1 y rfl
  | i+2,hi=>simp at hi
attribute [simp] Q3
@[simp] theorem BB {σ:Nat→Option zd} {s:St}:mN σ [] s=true:=rfl
@[simp] theorem DC {sz by_ d n sz':Nat} {m:Mode} {rows:List (List AV)} {s:St} {K:St→Prop} :
  wl sz by_ s (some d) K [.list n .full [],.list sz' m rows]=((rows=[]∨sz'=sz)∧0<sz∧rows.length*by_≤140737488355328∧rows.length≤9223372036854775807∧lk s.sto (s.base+d)=none ∧
   K (((s.dg (s.base+d)).put (some d) (.us (s.base+d) sz 0 rows.length)).new (some d) (some (.uarr sz (yK (s.base+d) rows))))):=by
 simp[wl,xw,yB]
@[simp] theorem Dg {sz by_ d l sz1 off len sz':Nat} {m:Mode} {rows1 rows:List (List AV)} {s:St} {K:St→Prop} (h:lk s.sto l=some (.uarr sz rows1)) :
  wl sz by_ s (some d) K [.us l sz1 off len,.list sz' m rows]=((rows=[]∨sz'=sz)∧0<sz∧(len+rows.length)*by_≤140737488355328∧len+rows.length≤9223372036854775807∧sz1=sz∧off=0∧len=rows1.length ∧
   K ({(s.dg l) with sto:=pt (s.dg l).sto l (.uarr sz (yK l (rows1++rows)))}.put (some d) (.us l sz 0 (len+rows.length)))):=by
 simp[wl,xw,yB,h]
@[simp] theorem Aj {s:St} {d:Nat} {e:zd}:s.new (some d) (some e)=⟨s.env,pt s.sto (s.base+d) e,s.out,s.base⟩:=rfl
attribute [simp] p9 tup
def Rr (ras:List zt) (b:Nat) (K:AV→St→Prop):Exit→St→Prop:=fun e s'=>(e=.normal∨e=.ret)∧∃ xs e0 o0,yA (p9 s') ras=some xs∧s'.out=e0::o0∧K (tup xs) {env:=e0,sto:=s'.sto,out:=o0,base:=b}
@[simp] theorem At {ras:List zt} {b:Nat} {K:AV→St→Prop} {env e0:List (Nat × AV)} {sto:List (Nat × zd)} {o0:List (List (Nat × AV))} {B:Nat} :
  Rr ras b K .ret ⟨env,sto,e0::o0,B⟩=∃ xs,yA (p9 ⟨env,sto,e0::o0,B⟩) ras=some xs∧K (tup xs) ⟨e0,sto,o0,b⟩:=by
 simp only[Rr,eq_iff_iff]
 constructor
 ·rintro ⟨_,xs,e1,o1,h1,h2,h3⟩
  cases h2
  exact ⟨xs,h1,h3⟩
 ·rintro ⟨xs,h1,h2⟩
  exact ⟨.inr trivial,xs,_,_,h1,rfl,h2⟩
@[simp] theorem CK {ras:List zt} {b:Nat} {K:AV→St→Prop} {env e0:List (Nat × AV)} {sto:List (Nat × zd)} {o0:List (List (Nat × AV))} {B:Nat} :
  Rr ras b K .normal ⟨env,sto,e0::o0,B⟩=∃ xs,yA (p9 ⟨env,sto,e0::o0,B⟩) ras=some xs∧K (tup xs) ⟨e0,sto,o0,b⟩:=by
 simp only[Rr,eq_iff_iff]
 constructor
 ·rintro ⟨_,xs,e1,o1,h1,h2,h3⟩
  cases h2
  exact ⟨xs,h1,h3⟩
 ·rintro ⟨xs,h1,h2⟩
  exact ⟨.inl trivial,xs,_,_,h1,rfl,h2⟩
theorem Pw {P:Program} {f:FuncId} {ac:zb} {ras:List zt} {N:Nat} {args:List AV} {s:St} {K:AV→St→Prop} (B:Nat) (ht:zl P f=some (bare ac,ras,N)) (hn:args.length≤N)
  (h:awp P ac ⟨uT 0 args,s.sto,s.env::s.out,B⟩ (Rr ras s.base K)):va P f args s K:=Kk B ht hn h
@[simp] theorem DD {sz by_ d sz1 sz':Nat} {m:Mode} {rows1 rows:List (List AV)} {s:St} {K:St→Prop} :
  xu sz by_ s (some d) K [.list sz1 .full rows1,.list sz' m rows]=((rows=[]∨sz'=sz)∧0<sz∧(rows1.length+rows.length)*by_≤140737488355328∧rows1.length+rows.length≤9223372036854775807 ∧
   (rows1=[]∨sz1=sz)∧lk s.sto (s.base+d)=none∧K ((s.dg (s.base+d)).put (some d) (.list sz (.own (s.base+d)) (rows1++rows)))):=by
 simp[xu,yB]
@[simp] theorem CF {sz by_ d l sz1 sz':Nat} {m:Mode} {rows1 rows:List (List AV)} {s:St} {K:St→Prop} :
  xu sz by_ s (some d) K [.list sz1 (.own l) rows1,.list sz' m rows]=((rows=[]∨sz'=sz)∧0<sz∧(rows1.length+rows.length)*by_≤140737488355328∧rows1.length+rows.length≤9223372036854775807 ∧
   sz1=sz∧lk s.sto l=none∧K ((s.dg l).put (some d) (.list sz (.own l) (rows1++rows)))):=by
 simp[xu,yB]
@[simp] theorem AR {l k sz:Nat} {rows:List (List AV)}:dg l (.list sz (.own k) rows)=if k=l then .list sz .plain rows else .list sz (.own k) rows:=rfl
@[simp] theorem aag {l:Nat}:dg l∘iv=iv:=rfl
end Go.Am
