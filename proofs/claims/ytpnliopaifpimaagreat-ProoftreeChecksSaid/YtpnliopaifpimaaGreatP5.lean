/- What the proof rests on, part 5: Am22 Am23 Am24 Am25 Am26 Am27 Am28 Am39 Am40 Am41 Am42. -/
import Derived.Test.YtpnliopaifpimaaGreatP4
import Derived.Scope
import Derived.ScopeJumps
import Derived.Deep.LoopGhost
import Derived.OpenShut
import Derived.SizedLaws
import Derived.Carry
import Derived.ProofKit
set_option maxRecDepth 100000
set_option maxHeartbeats 4000000
namespace Go.Am
open Go.RowKit
section
variable {P:Program} {F:yi}
def Uz (c:Code):Exit→Bool
 | .normal=>true
 | .exit _=>true
 | .ret=>true
 | .goto _=>qa c
 | _=>false
theorem JL {p:Nat→Prop}:∀ n,p n→∃ m,p m∧∀ k,p k→m≤k:=by
 intro n
 induction n using Nat.strongRecOn with
 | ind n ih =>
  intro hn
  by_cases h:∃ m,m<n∧p m
  ·obtain ⟨m,hm,hp⟩:=h; exact ih m hm hp
  ·exact ⟨n,hn,fun k hk=>Nat.le_of_not_lt fun hlt=>h ⟨k,hlt,hk⟩⟩
open Classical in
noncomputable def QY (J:Nat→Act→World→Prop) (a:Act) (w:World):Nat:=if h:∃ n,J n a w then Classical.choose (JL (p:=fun n=>J n a w) h.choose h.choose_spec) else 0
theorem SA {J:Nat→Act→World→Prop} {a:Act} {w:World} (h:∃ n,J n a w):J (QY J a w) a w∧∀ k,J k a w→QY J a w≤k:=by
 unfold QY
 rw[dif_pos h]
 exact Classical.choose_spec (JL (p:=fun n=>J n a w) h.choose h.choose_spec)
theorem Si {ac:zd} {draw:Bool} {l:List zi} (h:zd.region draw [] l [] []=bare ac):∃ FK D DK l',ac=.region draw FK l' D DK∧l=l'.map (yB draw):=by
 cases ac<;>simp only[bare,reduceCtorEq,zd.region.injEq] at h
 obtain ⟨rfl,_,rfl,_,_⟩:=h
 exact ⟨_,_,_,_,rfl,rfl⟩
def dn (P:Program) (F:yi) (c:Code):Prop:=∀ (ac:zd),yD P F.N c=some (bare ac)→∀ {s:St} {a:Act} {w:World} {K:Exit→St→Prop} {Q:Exit→Act→World→Prop},Holds F s a w→awp P ac s K →
  (∀ e s' a' w',Uz c e=true→K e s'→Holds F s' a' w'→Q e a' w')→c.wp P Q a w
theorem Fy:∀ (c:Code),dn P F c∧∀ l r,c=.seq (.label l) r→dn P F (.seq .skip r)∧dn P F r:=by
 intro c
 induction c with
 | skip =>
  refine ⟨?_,fun l r e=>by cases e⟩
  intro ac htr s a w K Q hH h hk
  simp only[yD,Option.some.injEq] at htr
  cases ac<;>simp only[bare,reduceCtorEq] at htr
  exact wp_skip (hk _ _ _ _ rfl h hH)
 | region id ops draw =>
  refine ⟨?_,fun l r e=>by cases e⟩
  intro ac htr s a w K Q hH h hk
  simp only[yD] at htr
  split at htr
  ·rename_i l hl
   split at htr
   ·rename_i hd
    simp only[Option.some.injEq] at htr
    obtain ⟨FK,D,DK,l',rfl,rfl⟩:=Si htr
    simp only[awp] at h
    obtain ⟨s0,h,hH⟩:=XH FK hH h
    have hk':∀ s' a' w',(TC (s'.drop D) DK fun s''=>K .normal s'')→Holds F s' a' w'→Q .normal a' w':=by
     intro s' a' w' hK hH'
     obtain ⟨s'',h1,h2⟩:=Sz (YN hH') hK
     exact hk _ _ _ _ rfl h1 h2
    cases draw with
    | false=>exact wp_region_list (CW ops ops.toList _ hl hH h hk')
    | true=>exact Jb hl (by simp only[Bool.true_eq_false,false_or] at hd; exact hd.1) hH h hk'
   ·rename_i hnd
    split at htr
    ·rename_i hm
     simp only[Option.some.injEq] at htr
     obtain ⟨FK,D,DK,l',rfl,he⟩:=Si htr
     simp only[awp] at h
     obtain ⟨s0,h,hH⟩:=XH FK hH h
     have hk':∀ s' a' w',(TC (s'.drop D) DK fun s''=>K .normal s'')→Holds F s' a' w'→Q .normal a' w':=by
      intro s' a' w' hK hH'
      obtain ⟨s'',h1,h2⟩:=Sz (YN hH') hK
      exact hk _ _ _ _ rfl h1 h2
     cases draw with
     | false=>exact absurd (.inl rfl) hnd
     | true=>exact JZ (agi hl) (fun i f ds e=>(af8 hl e).trans act.symm) hm he hH h hk'
    ·cases htr
  ·cases htr
 | seq x y ihx ihy =>
  refine ⟨?_,?_⟩
  ·intro ac htr s a w K Q hH h hk
   simp only[yD] at htr
   split at htr
   ·rename_i bx by_ hx hy
    simp only[Option.some.injEq] at htr
    cases ac<;>simp only[bare,reduceCtorEq,zd.seq.injEq] at htr
    rename_i ax ay
    obtain ⟨rfl,rfl⟩:=htr
    simp only[awp] at h
    refine wp_seq (ihx.1 ax hx hH h fun e s' a' w' hne hK hH'=>?_)
    cases e with
    | normal=>exact ihy.1 ay hy hH' hK fun e s' a' w' hne=>hk e s' a' w' (by cases e<;>simp_all [Uz,qa])
    | exit id=>exact hk _ _ _ _ rfl hK hH'
    | ret=>exact hk _ _ _ _ rfl hK hH'
    | goto l=>exact hk _ _ _ _ (by simp only[Uz,qa,Bool.or_eq_true] at hne ⊢; exact .inl hne) hK hH'
    | panic ch=>cases hne
    | outgrown=>cases hne
   ·cases htr
  ·intro l r e
   cases e
   refine ⟨?_,ihy.1⟩
   intro ac htr s a w K Q hH h hk
   simp only[yD] at htr
   split at htr
   ·rename_i bx by_ hx hy
    simp only[Option.some.injEq] at hx
    subst hx
    simp only[Option.some.injEq] at htr
    cases ac<;>simp only[bare,reduceCtorEq,zd.seq.injEq] at htr
    rename_i ax ay
    obtain ⟨hx,rfl⟩:=htr
    cases ax<;>simp only[bare,reduceCtorEq] at hx
    simp only[awp,GC] at h
    exact wp_seq (wp_skip (ihy.1 ay hy hH h fun e s' a' w' hne=>hk e s' a' w' (by cases e<;>simp_all [Uz,qa])))
   ·cases htr
 | cond c x y ihx ihy =>
  refine ⟨?_,fun l r e=>by cases e⟩
  intro ac htr s a w K Q hH h hk
  simp only[yD] at htr
  split at htr
  ·rename_i bx by_ hx hy
   simp only[Option.some.injEq] at htr
   cases ac<;>simp only[bare,reduceCtorEq,zd.cond.injEq] at htr
   rename_i c' ax ay
   obtain ⟨rfl,rfl,rfl⟩:=htr
   simp only[awp] at h
   split at h
   ·rename_i b hb
    have hc:a.eval c=.bool b:=by
     obtain ⟨I,β,lam,hI⟩:=hH
     have:=hI.opd c
     rw[hb] at this
     exact this.val_eq
    exact wp_cond_split hc (fun e=>ihx.1 ax hx hH (h.1 e) fun e s' a' w' hne=>hk e s' a' w' (by cases e<;>simp_all [Uz,qa])) (fun e=>ihy.1 ay hy hH (h.2 e) fun e s' a' w' hne=>hk e s' a' w' (by cases e<;>simp_all [Uz,qa]))
   ·exact h.elim
  ·cases htr
 | block id c ih =>
  refine ⟨?_,fun l r e=>by cases e⟩
  intro ac htr s a w K Q hH h hk
  simp only[yD,Option.map_eq_some_iff] at htr
  obtain ⟨bc,hc,htr⟩:=htr
  cases ac<;>simp only[bare,reduceCtorEq,zd.block.injEq] at htr
  rename_i id' ac'
  obtain ⟨rfl,rfl⟩:=htr
  simp only[awp] at h
  refine wp_block (ih.1 ac' hc hH h fun e s' a' w' hne hK hH'=>?_)
  cases e with
  | normal=>exact hk _ _ _ _ rfl hK hH'
  | exit i =>
   simp only[Qh] at hK
   simp only[Exit.inBlock]
   split
   ·rename_i e; rw[if_pos e] at hK; exact hk _ _ _ _ rfl hK hH'
   ·rename_i e; rw[if_neg e] at hK; exact hk _ _ _ _ rfl hK hH'
  | ret=>exact hk _ _ _ _ rfl hK hH'
  | goto l=>exact hk _ _ _ _ hne hK hH'
  | panic ch=>cases hne
  | outgrown=>cases hne
 | loop c ih =>
  refine ⟨?_,fun l r e=>by cases e⟩
  intro ac htr s a w K Q hH h hk
  simp only[yD,Option.map_eq_some_iff] at htr
  obtain ⟨bc,hc,htr⟩:=htr
  cases ac<;>simp only[bare,reduceCtorEq,zd.loop.injEq] at htr
  rename_i ac'
  subst htr
  simp only[awp] at h
  obtain ⟨J,n,s0,hi,h0,h⟩:=h
  refine wp_loop_ghost (fun n a w=>∃ s,Holds F s a w∧J n s) n ⟨s0,hi F a w hH,h0⟩ fun n a w ⟨s,hH,hJ⟩=>?_
  refine ih.1 ac' hc hH (h n s hJ) fun e s' a' w' hne hK hH'=>?_
  cases e with
  | normal =>
   obtain ⟨m,s2,hm,hi2,hJ'⟩:=hK
   exact ⟨m,hm,s2,hi2 F a' w' hH',hJ'⟩
  | exit id=>exact hk _ _ _ _ rfl hK hH'
  | ret=>exact hk _ _ _ _ rfl hK hH'
  | goto l=>exact hk _ _ _ _ hne hK hH'
  | panic ch=>cases hne
  | outgrown=>cases hne
 | rangeFunc f ps x y =>
  refine ⟨?_,fun l r e=>by cases e⟩
  intro ac htr; simp[yD] at htr
 | exit id =>
  refine ⟨?_,fun l r e=>by cases e⟩
  intro ac htr s a w K Q hH h hk
  simp only[yD,Option.some.injEq] at htr
  cases ac<;>simp only[bare,reduceCtorEq,zd.exit.injEq] at htr
  subst htr
  exact wp_exit (hk _ _ _ _ rfl h hH)
 | scope c ih =>
  refine ⟨?_,fun l r e=>by cases e⟩
  have straight:∀ ac,qa c=false→yD P F.N c=some (bare ac)→∀ {s:St} {a:Act} {w:World} {K:Exit→St→Prop} {Q:Exit→Act→World→Prop},Holds F s a w→awp P ac s K →
    (∀ e s' a' w',Uz (.scope c) e=true→K e s'→Holds F s' a' w'→Q e a' w')→(Code.scope c).wp P Q a w:=by
   intro ac hg htr s a w K Q hH h hk
   refine wp_scope_straight (ih.1 ac htr hH h fun e s' a' w' hne hK hH'=>?_)
   cases e with
   | normal=>exact hk _ _ _ _ rfl hK hH'
   | exit i=>exact hk _ _ _ _ rfl hK hH'
   | ret=>exact hk _ _ _ _ rfl hK hH'
   | goto l=>simp only[Uz,hg] at hne; cases hne
   | panic ch=>cases hne
   | outgrown=>cases hne
  have other:(∀ l r,c≠.seq (.label l) r)→dn P F (.scope c):=by
   intro hne ac htr
   rw[yD.eq_def] at htr
   split at htr<;>first | (rename_i heq; cases heq; done) | skip
   all_goals first
    | (cases htr; done)
    | (rename_i l r heq; cases heq; exact absurd rfl (hne _ _))
    | (
      rename_i c' _ heq
      cases heq
      split at htr
      ·cases htr
      ·rename_i hg
       exact straight ac (by simpa using hg) htr)
  cases c with
  | seq x r =>
   cases x with
   | label l =>
    intro ac htr s a w K Q hH h hk
    simp only[yD] at htr
    split at htr
    ·rename_i hg
     simp only[Option.map_eq_some_iff] at htr
     obtain ⟨br,hr,htr⟩:=htr
     cases ac<;>simp only[bare,reduceCtorEq,zd.again.injEq] at htr
     rename_i l' ar
     obtain ⟨rfl,rfl⟩:=htr
     simp only[awp] at h
     obtain ⟨J,n,s0,hi,h0,h⟩:=h
     have ihr:=ih.2 _ _ rfl
     have step:∀ n s a w,Holds F s a w→J n s→∀ {c:Code} {ac:zd},dn P F c→yD P F.N c=some (bare ac)→(∀ K,awp P ar s K→awp P ac s K) →
       c.wp P (Exit.jump l (fun a' w'=>∃ m,m<n∧∃ s',Holds F s' a' w'∧J m s') Q) a w:=by
      intro n s a w hH hJ c ac hS htr hto
      refine hS ac htr hH (hto _ (h n s hJ)) fun e s' a' w' hne hK hH'=>?_
      cases e with
      | normal=>exact hk _ _ _ _ rfl hK hH'
      | exit i=>exact hk _ _ _ _ rfl hK hH'
      | ret=>exact hk _ _ _ _ rfl hK hH'
      | goto i =>
       obtain ⟨rfl,m,s2,hm,hi2,hJ'⟩:=hK
       exact ⟨rfl,m,hm,s2,hi2 F a' w' hH',hJ'⟩
      | panic ch=>cases hne
      | outgrown=>cases hne
     let J':Nat→Act→World→Prop:=fun m a w=>∃ s,Holds F s a w∧J m s
     refine wp_scope_jumps (rest:=.seq .skip r) l (fun a w=>∃ m,J' m a w) (QY J') (by simp[findLabel]) ?_ ?_
     ·have:=step n s0 a w (hi F a w hH) h0 (c:=.seq (.label l) r) (ac:=.seq .skip ar) ih.1 (by simp only[yD,hr]; rfl) (fun K h=>by simpa only[awp,GC] using h)
      refine wp_mono this ?_
      intro e a' w' hq
      cases e with
      | goto i=>obtain ⟨e1,m,_,s',h1,h2⟩:=hq; exact ⟨e1,m,s',h1,h2⟩
      | _=>exact hq
     ·intro a w hJ
      obtain ⟨⟨s1,h1,h2⟩,hmin⟩:=SA hJ
      have:=step _ s1 a w h1 h2 (c:=.seq .skip r) (ac:=.seq .skip ar) ihr.1 (by simp only[yD,hr]; rfl) (fun K h=>by simpa only[awp,GC] using h)
      refine wp_mono this ?_
      intro e a' w' hq
      cases e with
      | goto i =>
       obtain ⟨e1,m,hm,s',h3,h4⟩:=hq
       refine ⟨e1,⟨m,s',h3,h4⟩,?_⟩
       have:=(SA (J:=J') ⟨m,s',h3,h4⟩).2 m ⟨s',h3,h4⟩
       omega
      | _=>exact hq
    ·rename_i hg
     have htr':yD P F.N (.seq (.label l) r)=some (bare ac):=by
      simp only[Option.map_eq_some_iff] at htr
      obtain ⟨br,hr,htr⟩:=htr
      simp only[yD,hr,htr]
     exact straight ac (by simpa [qa] using hg) htr' hH h hk
   | _=>exact other (by intros; simp)
  | _=>exact other (by intros; simp)
 | label l =>
  refine ⟨?_,fun l r e=>by cases e⟩
  intro ac htr s a w K Q hH h hk
  simp only[yD,Option.some.injEq] at htr
  cases ac<;>simp only[bare,reduceCtorEq] at htr
  exact wp_label (hk _ _ _ _ rfl h hH)
 | goto l =>
  refine ⟨?_,fun l r e=>by cases e⟩
  intro ac htr s a w K Q hH h hk
  simp only[yD,Option.some.injEq] at htr
  cases ac<;>simp only[bare,reduceCtorEq,zd.goto.injEq] at htr
  subst htr
  exact wp_goto (hk _ _ _ _ rfl h hH)
 | ret =>
  refine ⟨?_,fun l r e=>by cases e⟩
  intro ac htr s a w K Q hH h hk
  simp only[yD,Option.some.injEq] at htr
  cases ac<;>simp only[bare,reduceCtorEq] at htr
  exact wp_ret (hk _ _ _ _ rfl h hH)
 | refuse why =>
  refine ⟨?_,fun l r e=>by cases e⟩
  intro ac htr; simp[yD] at htr
theorem QL (c:Code):dn P F c:=(Fy c).1
inductive zo where
 | t (n:Nat)
 | cell (n:Nat) (k:Option Nat)
def p8 (P:Program):ResultVar→Option zo
 | .tmp t=>some (.t t)
 | .cell a t=>(ldT P t).map (.cell a)
def NP (s:St):zo→Option AV
 | .t n=>vM (lk s.sto) (s.get n)
 | .cell n k=>match s.get n with
  | .ptr j off=>match lk s.sto j with
   | some (.var cells)=>match zK cells off k with
    | some x=>vM (lk s.sto) x
    | none=>none
   | _=>none
  | _=>none
def ll (l:List zo) (s:St):Option AV :=
 match yY (NP s) l with
 | some [x]=>some x
 | some xs=>some (.tuple xs)
 | none=>none
def pa:Nat→List AV→List (Nat × AV)
 | _,[]=>[]
 | i,x::xs=>(i,x)::pa (i+1) xs
theorem JN:∀ (xs:List AV) (i t:Nat) (x:AV),lk (pa i xs) t=some x→∃ j,t=i+j∧xs[j]?=some x:=by
 intro xs
 induction xs with
 | nil=>intro i t x h; simp[pa,lk] at h
 | cons y xs ih =>
  intro i t x h
  simp only[pa,lk] at h
  split at h
  ·rename_i e
   exact ⟨0,by omega,by simpa using h⟩
  ·obtain ⟨j,h1,h2⟩:=ih _ _ _ h
   exact ⟨j+1,by omega,by simpa using h2⟩
def fS (tmps:Array Value):ResultVar→Sem Value
 | .tmp t=>pure (tmps.getD t undef)
 | .cell p t=>do loadVar t (← asAddr (tmps.getD p undef))
def gO (s:St):zo→Option AV
 | .t n=>some (strip (s.get n))
 | .cell n k=>match s.get n with
  | .ptr j off=>match lk s.sto j with
   | some (.var cells)=>(zK cells off k).map strip
   | _=>none
  | _=>none
def tup:List AV→AV
 | [x]=>x
 | xs=>.tuple xs
theorem ad1 {l:List zo} {s:St} {r:AV} (h:ll l s=some r):∃ xs,yY (NP s) l=some xs∧r=tup xs:=by
 unfold ll at h
 split at h
 ·rename_i x hx
  simp only[Option.some.injEq] at h
  exact ⟨[x],hx,h.symm⟩
 ·rename_i xs hne hx
  simp only[Option.some.injEq] at h
  refine ⟨xs,hx,?_⟩
  match xs,hne with
  | [],_=>exact h.symm
  | [x],hne=>exact absurd rfl (hne x)
  | _::_::_,_=>exact h.symm
 ·cases h
theorem agW {s:St} {a:Act} {w:World} {I:Nat→Nat→Prop} {β:z7} {lam:ym} (hI:Inv F s.look (lk s.sto) I β lam a w) {rv:ResultVar} {ra:zo} {x:AV} (htr:p8 P rv=some ra) (hx:gO s ra=some x) :
  ∃ v,(fS a.tmps rv).run P w=.ok v w∧R I w β lam x v∧∃ y,x=strip y:=by
 have hget:∀ n,R I w β lam (s.get n) (a.tmps.getD n undef):=fun n=>hI.opd (.tmp n)
 cases rv with
 | tmp t =>
  simp only[p8,Option.some.injEq] at htr
  subst htr
  simp only[gO,Option.some.injEq] at hx
  subst hx
  exact ⟨_,rfl,(hget t).strip,_,rfl⟩
 | cell p t =>
  simp only[p8,Option.map_eq_some_iff] at htr
  obtain ⟨k,hk,rfl⟩:=htr
  simp only[gO] at hx
  split at hx
  ·rename_i j off hp
   split at hx
   ·rename_i cells hs
    simp only[Option.map_eq_some_iff] at hx
    obtain ⟨y,hy,rfl⟩:=hx
    have hR:=hget p
    rw[hp] at hR
    obtain ⟨b,hb,hv⟩:=hR.ptr_inv
    have hE:=hI.hread _ _ _ hs hb
    obtain ⟨v,hr,hRv⟩:=Rs (o:=0) hk hy (fun j c hj=>by
     obtain ⟨v,h1,_,h3,h4⟩:=hE j c hj
     exact ⟨v,by rw[Nat.zero_add]; exact h1,h3,h4⟩)
    rw[Nat.zero_add] at hr
    refine ⟨v,?_,hRv.strip,_,rfl⟩
    simp only[Instr.loadAt,Instr.sureAddr,Sem.run_bind,Sem.run_pure,Result.andThen_ok] at hr
    simp only[fS,hv,asAddr,Sem.run_bind,Sem.run_pure,Result.andThen_ok]
    exact hr
   ·cases hx
  ·cases hx
theorem agY {s:St} {a:Act} {w:World} {I:Nat→Nat→Prop} {β:z7} {lam:ym} (hI:Inv F s.look (lk s.sto) I β lam a w) {rv:ResultVar} {ra:zo} {x:AV} (htr:p8 P rv=some ra) (hx:NP s ra=some x) :
  ∃ v,(fS a.tmps rv).run P w=.ok v w∧R0 (Seen I β lam) w x v:=by
 have hget:∀ n,R I w β lam (s.get n) (a.tmps.getD n undef):=fun n=>hI.opd (.tmp n)
 cases rv with
 | tmp t =>
  simp only[p8,Option.some.injEq] at htr
  subst htr
  exact ⟨_,rfl,(TY hI.hread hI.usto hx (hget t)).1⟩
 | cell p t =>
  simp only[p8,Option.map_eq_some_iff] at htr
  obtain ⟨k,hk,rfl⟩:=htr
  simp only[NP] at hx
  split at hx
  ·rename_i j off hp
   split at hx
   ·rename_i cells hs
    split at hx
    ·rename_i y hy
     have hR:=hget p
     rw[hp] at hR
     obtain ⟨b,hb,hv⟩:=hR.ptr_inv
     have hE:=hI.hread _ _ _ hs hb
     obtain ⟨v,hr,hRv⟩:=Rs (o:=0) hk hy (fun j c hj=>by
      obtain ⟨v,h1,_,h3,h4⟩:=hE j c hj
      exact ⟨v,by rw[Nat.zero_add]; exact h1,h3,h4⟩)
     rw[Nat.zero_add] at hr
     refine ⟨v,?_,(TY hI.hread hI.usto hx hRv).1⟩
     simp only[Instr.loadAt,Instr.sureAddr,Sem.run_bind,Sem.run_pure,Result.andThen_ok] at hr
     simp only[fS,hv,asAddr,Sem.run_bind,Sem.run_pure,Result.andThen_ok]
     exact hr
    ·cases hx
   ·cases hx
  ·cases hx
theorem FZ {rd:zo→Option AV} {Rel:AV→Value→Prop} {tmps:Array Value} {w:World} (hrd:∀ rv ra x,p8 P rv=some ra→rd ra=some x→∃ v,(fS tmps rv).run P w=.ok v w∧Rel x v) :
  ∀ (rvs:List ResultVar) (ras:List zo) (xs:List AV),
  yY (p8 P) rvs=some ras→yY rd ras=some xs →
  ∃ vs:List Value,(rvs.mapM (fS tmps)).run P w=.ok vs w ∧
   vs.length=xs.length∧∀ (i:Nat) (x:AV),xs[i]?=some x→∃ v,vs[i]?=some v∧Rel x v:=by
 intro rvs
 induction rvs with
 | nil =>
  intro ras xs h1 h2
  simp only[yY,Option.some.injEq] at h1
  subst h1
  simp only[yY,Option.some.injEq] at h2
  subst h2
  exact ⟨[],rfl,rfl,fun i x h=>by simp at h⟩
 | cons rv rvs ih =>
  intro ras xs h1 h2
  simp only[yY] at h1
  split at h1
  ·rename_i ra hra
   simp only[Option.map_eq_some_iff] at h1
   obtain ⟨ras',h1,rfl⟩:=h1
   simp only[yY] at h2
   split at h2
   ·rename_i x hx
    simp only[Option.map_eq_some_iff] at h2
    obtain ⟨xs',h2,rfl⟩:=h2
    obtain ⟨v,hv,hR⟩:=hrd rv ra x hra hx
    obtain ⟨vs,g1,g2,g3⟩:=ih ras' xs' h1 h2
    refine ⟨v::vs,?_,by simp[g2],fun i x' hi=>?_⟩
    ·rw[List.mapM_cons,Sem.run_bind,hv]
     simp only[Result.andThen_ok,Sem.run_bind,g1,Sem.run_pure]
    ·cases i with
     | zero=>simp at hi; subst hi; exact ⟨v,rfl,hR⟩
     | succ i=>simp at hi; simpa using g3 i x' hi
   ·cases h2
  ·cases h1
theorem SM {fn:Func} {rd:zo→Option AV} {Rel:AV→Value→Prop} {tmps:Array Value} {w:World} (hrd:∀ rv ra x,p8 P rv=some ra→rd ra=some x→∃ v,(fS tmps rv).run P w=.ok v w∧Rel x v)
  (htup:∀ (xs:List AV) (vs:Array Value),yY rd (Option.getD (yY (p8 P) fn.results.toList) [])=some xs→vs.size=xs.length→(∀ i x,xs[i]?=some x→Rel x (vs.getD i undef))→Rel (.tuple xs) (.tuple vs))
  {ras:List zo} {xs:List AV} (h1:yY (p8 P) fn.results.toList=some ras) (h2:yY rd ras=some xs):∃ v,(results fn tmps).run P w=.ok v w∧Rel (tup xs) v:=by
 obtain ⟨vl,g1,g2,g3⟩:=FZ hrd fn.results.toList ras xs h1 h2
 rw[h1] at htup
 simp only[Option.getD_some] at htup
 refine ⟨if h:vl.toArray.size=1 then vl.toArray[0] else .tuple vl.toArray,?_,?_⟩
 ·have e:results fn tmps=(fn.results.mapM (fS tmps) >>= fun vs=>pure (if h:vs.size=1 then vs[0] else .tuple vs)):=by
   unfold results
   congr 1
   first | done | (congr 1; funext x; cases x<;>rfl)
  rw[e,Array.mapM_eq_mapM_toList,Sem.run_bind,Sem.run_map,g1]
  rfl
 ·have gt:∀ i x,xs[i]?=some x→Rel x (vl.toArray.getD i undef):=fun i x hi=>by
   obtain ⟨v,hv,hRv⟩:=g3 i x hi
   have:vl.toArray.getD i undef=v:=by simp[hv]
   rw[this]
   exact hRv
  match xs,g2,g3,h2,gt with
  | [x],g2,g3,h2,gt =>
   obtain ⟨v,hv,hRv⟩:=g3 0 x rfl
   have hvl:vl=[v]:=by
    match vl,g2,hv with
    | [v'],_,hv=>simp at hv; rw[hv]
   subst hvl
   simp only[List.size_toArray,List.length_cons,List.length_nil,dite_true]
   exact hRv
  | [],g2,g3,h2,gt =>
   have hvl:vl=[]:=by simpa using g2
   subst hvl
   exact htup [] #[] h2 rfl (fun i c h=>by simp at h)
  | x::y::xs,g2,g3,h2,gt =>
   have hne:¬ vl.toArray.size=1:=by simp at g2 ⊢; omega
   rw[dif_neg hne]
   exact htup _ _ h2 (by simpa using g2) gt
theorem ac2 {α γ:Type} {f:α→Option γ}:∀ {l:List α} {l':List γ},yY f l=some l'→∀ y∈l',∃ x∈l,f x=some y:=by
 intro l
 induction l with
 | nil=>intro l' h; simp only[yY,Option.some.injEq] at h; subst h; simp
 | cons x l ih =>
  intro l' h
  simp only[yY] at h
  split at h
  ·rename_i y hy
   simp only[Option.map_eq_some_iff] at h
   obtain ⟨l2,h2,rfl⟩:=h
   intro z hz
   rcases List.mem_cons.1 hz with rfl | hz
   ·exact ⟨x,by simp,hy⟩
   ·obtain ⟨x',h3,h4⟩:=ih h2 z hz
    exact ⟨x',by simp[h3],h4⟩
  ·cases h
theorem LO {x:AV} {sz l:Nat} {rows:List (List AV)}:strip x≠.list sz (.own l) rows:=by
 cases x<;>simp only[strip,ne_eq,reduceCtorEq,not_false_eq_true]
 rename_i sz' m rows'
 cases m<;>simp
theorem CN {s:St} {ra:zo} {x:AV} (h:gO s ra=some x):∃ y,x=strip y:=by
 cases ra with
 | t n =>
  simp only[gO,Option.some.injEq] at h
  exact ⟨_,h.symm⟩
 | cell n k =>
  simp only[gO] at h
  split at h
  ·split at h
   ·simp only[Option.map_eq_some_iff] at h
    obtain ⟨y,_,rfl⟩:=h
    exact ⟨_,rfl⟩
   ·cases h
  ·cases h
theorem ab9 {f:FuncId} {fn:Func} {code:Code} {ac:zd} {ras:List zo} {args:List AV} {s:St} {K:AV→St→Prop} (B:Nat) (hf:P.funcs[f]?=some fn) (hb:fn.body=some code)
  (htr:yD P fn.ntmps code=some (bare ac)) (hres:yY (p8 P) fn.results.toList=some ras) (hn:args.length≤fn.ntmps)
  (h:awp P ac {env:=pa 0 args,sto:=s.sto,out:=s.env::s.out,base:=B} fun e s'=>(e=.normal∨e=.ret)∧∃ xs e0 o0,yY (gO s') ras=some xs∧s'.out=e0::o0∧K (tup xs) {env:=e0,sto:=s'.sto,out:=o0,base:=s.base}):yw P f args s K:=by
 intro F a w I β lam hI vs hs hR
 refine calls_of_wp hf hb ?_
 have hH:Holds {w0:=F.w0,I0:=F.I0,N:=fn.ntmps,outs:=a.tmps::F.outs} {env:=pa 0 args,sto:=s.sto,out:=s.env::s.out,base:=B} {tmps:=vs++Array.replicate (fn.ntmps-vs.size) undef,defers:=[]} w:=by
  refine ⟨I,β,lam,?_⟩
  refine {hI with defers:=rfl,size:=by simp; omega,env:=fun t x ht=>?_}
  obtain ⟨d,t⟩:=t
  cases d with
  | zero =>
   obtain ⟨j,rfl,hj⟩:=JN _ _ _ _ ht
   have hlt:j<vs.size:=by
    have:=(List.getElem?_eq_some_iff.1 hj).1
    omega
   refine ⟨vs.getD j undef,?_,hR j x hj⟩
   simp only[yi.val]
   rw[Nat.zero_add,Array.getElem?_append_left hlt]
   simp[hlt]
  | succ d =>
   cases d with
   | zero =>
    obtain ⟨v,h1,h2⟩:=hI.env (0,t) x ht
    exact ⟨v,h1,h2⟩
   | succ d =>
    obtain ⟨v,h1,h2⟩:=hI.env (d+1,t) x ht
    exact ⟨v,h1,h2⟩
 refine QL (F:={w0:=F.w0,I0:=F.I0,N:=fn.ntmps,outs:=a.tmps::F.outs}) code ac htr hH h fun e s' a' w' _ hK hH'=>?_
 obtain ⟨he,xs,e0,o0,hxs,hout,hK⟩:=hK
 obtain ⟨I',β',lam',hI'⟩:=hH'
 obtain ⟨v,hrun,hRv⟩:=SM (fn:=fn) (rd:=gO s') (Rel:=R I' w' β' lam') (fun rv ra x h1 h2=>by
   obtain ⟨v,g1,g2,_⟩:=agW hI' h1 h2
   exact ⟨v,g1,g2⟩) (fun xs vs h1 h2 h3=>by
   refine .tuple xs vs h2 (fun sz l rows hm=>?_) h3
   obtain ⟨ra,_,hra⟩:=ac2 h1 _ hm
   obtain ⟨y,hy⟩:=CN hra
   exact LO hy.symm) hres hxs
 have hpop:Inv F (St.look {env:=e0,sto:=s'.sto,out:=o0,base:=s.base}) (lk s'.sto) I' β' lam' a w':=by
  refine {hI' with defers:=hI.defers,size:=hI.size,env:=fun t x ht=>?_}
  have key:s'.look (t.1+1,t.2)=some x:=by
   obtain ⟨d,t⟩:=t
   simp only[St.look,hout] at ht ⊢
   cases d with
   | zero=>exact ht
   | succ d=>exact ht
  obtain ⟨v,h1,h2⟩:=hI'.env _ x key
  refine ⟨v,?_,h2⟩
  obtain ⟨d,t⟩:=t
  cases d with
  | zero=>exact h1
  | succ d=>exact h1
 have hpost:a'.defers=[]∧∃ v,(results fn a'.tmps).run P w'=.ok v w'∧∃ u,Ending.returned v=.returned u∧∃ r s' I' β' lam',K r s'∧Inv F s'.look (lk s'.sto) I' β' lam' a w'∧R I' w' β' lam' r u :=
  ⟨hI'.defers,v,hrun,v,rfl,tup xs,_,I',β',lam',hK,hpop,hRv⟩
 rcases he with rfl | rfl
 ·exact hpost
 ·exact hpost
def AV.imp (x y:AV):Prop:=∀ (I:Nat→Nat→Prop) (w:World) (v:Value),R0 I w x v→R0 I w y v
theorem AV.imp.refl {x:AV}:AV.imp x x:=fun _ _ _ h=>h
theorem aeD {f:FuncId} {fn:Func} {code:Code} {ac:zd} {ras:List zo} {args:List AV} {r:AV} {K:Exit→St→Prop} (hK0:∀ e s,K e s→(e=.normal∨e=.ret)∧∃ r0,ll ras s=some r0∧AV.imp r0 r) (hf:P.funcs[f]?=some fn) (hb:fn.body=some code)
  (htr:yD P fn.ntmps code=some (bare ac)) (hres:yY (p8 P) fn.results.toList=some ras) (hn:args.length≤fn.ntmps)
  (h:awp P ac {env:=pa 0 args,sto:=[]} K):ze P f args r:=by
 intro I vs w hI hs hR
 refine calls_of_wp hf hb ?_
 have hH:Holds {w0:=w,I0:=I,N:=fn.ntmps} {env:=pa 0 args,sto:=[]} {tmps:=vs++Array.replicate (fn.ntmps-vs.size) undef,defers:=[]} w:=by
  refine ⟨I,fun _=>none,fun _=>none,?_⟩
  refine
   {defers:=rfl
    size:=by simp; omega
    below:=Below.refl _ _
    env:=fun t x ht=>?_
    sto:=fun k en hk=>by simp[lk] at hk
    usto:=fun l sz rows hk=>by simp[lk] at hk
    bdom:=fun k b hk=>by cases hk
    binj:=fun k k' b hk=>by cases hk
    bnew:=fun k b hk=>by cases hk
    Isub:=hI
    I0sub:=fun _ _ h=>h
    Inew:=fun _ _ h=>.inl h
    spare:=fun l a len cap sz hl=>by cases hl
    ldis:=fun l l' b o o' len len' cap cap' sz sz' _ h1=>by cases h1}
  obtain ⟨d,t⟩:=t
  cases d with
  | succ d=>simp[St.look] at ht
  | zero=>?_
  obtain ⟨j,rfl,hj⟩:=JN _ _ _ _ ht
  have hlt:j<vs.size:=by
   have:=(List.getElem?_eq_some_iff.1 hj).1
   omega
  refine ⟨vs.getD j undef,?_,.base (hR j x hj)⟩
  simp only[yi.val]
  rw[Nat.zero_add,Array.getElem?_append_left hlt]
  simp[hlt]
 refine QL (F:={w0:=w,I0:=I,N:=fn.ntmps}) code ac htr hH h fun e s a' w' _ hK hH'=>?_
 obtain ⟨he,r0,hr,himp⟩:=hK0 _ _ hK
 obtain ⟨I',β,lam,hI'⟩:=hH'
 obtain ⟨xs,hxs,rfl⟩:=ad1 hr
 have hJ:∀ b o,Seen I' β lam b o→(I b o∨w.heap.size≤b)∧b<w'.heap.size:=by
  intro b o hb
  rcases hb with hb | ⟨k,hb⟩ | ⟨l,p,cap,sz,hl,h0⟩
  ·exact ⟨hI'.Inew b o hb,hI'.Isub b o hb⟩
  ·exact ⟨.inr (hI'.bnew k b hb).1,(hI'.bnew k b hb).2.1⟩
  ·obtain ⟨g1,g2,_⟩:=hI'.ublock hl h0
   exact ⟨.inr g1,g2⟩
 obtain ⟨v,hrun,hRv⟩:=SM (fn:=fn) (rd:=NP s) (Rel:=R0 (fun b o=>(I b o∨w.heap.size≤b)∧b<w'.heap.size) w') (fun rv ra x h1 h2=>by
   obtain ⟨v,g1,g2⟩:=agY hI' h1 h2
   exact ⟨v,g1,g2.mono hJ (fun _ _ _ _ h=>h)⟩) (fun xs vs _ h2 h3=>.tuple xs vs h2 h3) hres hxs
 have hpost:a'.defers=[]∧∃ v,(results fn a'.tmps).run P w'=.ok v w'∧∃ u,Ending.returned v=.returned u∧Below w.heap.size w w'∧R0 (fun b o=>(I b o∨w.heap.size≤b)∧b<w'.heap.size) w' r u :=
  ⟨hI'.defers,v,hrun,v,rfl,hI'.below,himp _ _ _ hRv⟩
 rcases he with rfl | rfl
 ·exact hpost
 ·exact hpost
end
def zj (P:Program) (f:FuncId):Option (zd × List zo × Nat) :=
 match P.funcs[f]? with
 | some fn=>match fn.body with
  | some c=>match yD P fn.ntmps c,yY (p8 P) fn.results.toList with
   | some a,some r=>some (a,r,fn.ntmps)
   | _,_=>none
  | none=>none
 | none=>none
theorem abk {P:Program} {f:FuncId} {ac:zd} {ras:List zo} {N:Nat} {args:List AV} {r:AV} {K:Exit→St→Prop} (hK0:∀ e s,K e s→(e=.normal∨e=.ret)∧∃ r0,ll ras s=some r0∧AV.imp r0 r) (ht:zj P f=some (bare ac,ras,N)) (hn:args.length≤N)
  (h:awp P ac {env:=pa 0 args,sto:=[]} K):ze P f args r:=by
 unfold zj at ht
 split at ht
 ·rename_i fn hf
  split at ht
  ·rename_i c hb
   split at ht
   ·rename_i a r' ha hr
    simp only[Option.some.injEq,Prod.mk.injEq] at ht
    obtain ⟨rfl,rfl,rfl⟩:=ht
    exact aeD hK0 hf hb ha hr hn h
   ·cases ht
  ·cases ht
 ·cases ht
theorem sound {P:Program} {f:FuncId} {ac:zd} {ras:List zo} {N:Nat} {args:List AV} {r:AV} (ht:zj P f=some (bare ac,ras,N)) (hn:args.length≤N)
  (h:awp P ac {env:=pa 0 args,sto:=[]} fun e s=>(e=.normal∨e=.ret)∧ll ras s=some r):ze P f args r :=
 abk (fun _ _ h=>⟨h.1,r,h.2,AV.imp.refl⟩) ht hn h
theorem ajj {P:Program} {f:FuncId} {ac:zd} {ras:List zo} {N:Nat} {args:List AV} {s:St} {K:AV→St→Prop} (B:Nat) (ht:zj P f=some (bare ac,ras,N)) (hn:args.length≤N)
  (h:awp P ac {env:=pa 0 args,sto:=s.sto,out:=s.env::s.out,base:=B} fun e s'=>(e=.normal∨e=.ret)∧∃ xs e0 o0,yY (gO s') ras=some xs∧s'.out=e0::o0∧K (tup xs) {env:=e0,sto:=s'.sto,out:=o0,base:=s.base}):yw P f args s K:=by
 unfold zj at ht
 split at ht
 ·rename_i fn hf
  split at ht
  ·rename_i c hb
   split at ht
   ·rename_i a r' ha hr
    simp only[Option.some.injEq,Prod.mk.injEq] at ht
    obtain ⟨rfl,rfl,rfl⟩:=ht
    exact ab9 B hf hb ha hr hn h
   ·cases ht
  ·cases ht
 ·cases ht
abbrev iv (n:Int):AV:=.val (.int .i64 n)
abbrev bv (b:Bool):AV:=.val (.bool b)
def Cg (D DK:List Nat) (K:Exit→St→Prop):St→Prop:=fun s=>TC (s.drop D) DK fun s=>K .normal s
def ai3 (P:Program) (ops:List zi) (D DK:List Nat) (K:Exit→St→Prop):St→Prop:=fun s=>zm P ops s (Cg D DK K)
def qM (P:Program) (b:zd) (K:Exit→St→Prop):Exit→St→Prop:=GC (awp P b) K
def wj (id:Nat) (K:Exit→St→Prop):Exit→St→Prop:=Qh id K
def Zh (P:Program) (os:List zi) (K:St→Prop):St→Prop:=fun s=>zm P os s K
def xZ (P:Program) (os:List zi) (s:St) (d:Option Nat) (K:St→Prop):AV→Option zg→Prop:=fun x e=>zm P os ((s.put d x).new d e) K
def la (x:AV) (A B:Prop):Prop :=
 match x with
 | .val (.bool c)=>(c=true→A)∧(c=false→B)
 | _=>False
def nB (x:AV) (b:Bool) (A B:Prop):Prop :=
 match x with
 | .val (.bool c)=>(c=b→A)∧(c=!b→B)
 | .val _=>B
 | _=>False
theorem al7 {s:St} {n:Nat}:ev s (.t n)=(lk s.env n).getD .undef:=congrArg (fun x=>x) rfl
theorem al6 {s:St} {x:AV}:ev s (.c x)=x:=congrArg (fun x=>x) rfl
theorem aiH {s:St} {n:Nat}:s.get n=(lk s.env n).getD .undef:=congrArg (fun x=>x) rfl
@[congr] theorem ajE {x x':AV} {A B:Prop} (h:Unit→x=x'):la x A B=la x' A B:=by rw[h ()]
@[congr] theorem aiI {x x':AV} {b:Bool} {A B:Prop} (h:Unit→x=x'):nB x b A B=nB x' b A B:=by rw[h ()]
section
variable {P:Program} {s:St} {K:Exit→St→Prop} {KS:St→Prop} {os:List zi}
theorem D7 {A B:Prop}:la (bv true) A B=A:=by simp[la]
theorem Fz {A B:Prop}:la (bv false) A B=B:=by simp[la]
theorem D6 {c:Bool} {A B:Prop}:la (bv c) A B=((c=true→A)∧(c=false→B)):=propext Iff.rfl
theorem Co {b:Bool} {A B:Prop}:nB (bv b) b A B=A:=by cases b<;>simp[nB]
theorem JC {A B:Prop}:nB (bv true) false A B=B:=by simp[nB]
theorem JD {A B:Prop}:nB (bv false) true A B=B:=by simp[nB]
theorem FO {b:Bool} {A B:Prop}:nB (.val undef) b A B=B:=propext Iff.rfl
theorem ab2:awp P .skip s K=K .normal s:=propext Iff.rfl
theorem DY {d:Bool} {FK:List Nat} {D DK:List Nat} {ops:List zi}:awp P (.region d FK ops D DK) s K=pD FK s (ai3 P ops D DK K):=propext Iff.rfl
theorem afu {a b:zd}:awp P (.seq a b) s K=awp P a s (qM P b K):=propext Iff.rfl
theorem abZ {c:Opd} {a b:zd}:awp P (.cond c a b) s K=la (ev s c) (awp P a s K) (awp P b s K):=propext Iff.rfl
theorem BE {id:Nat} {a:zd}:awp P (.block id a) s K=awp P a s (wj id K):=propext Iff.rfl
theorem ab1 {l:Nat}:awp P (.goto l) s K=K (.goto l) s:=propext Iff.rfl
theorem ab0 {id:Nat}:awp P (.exit id) s K=K (.exit id) s:=propext Iff.rfl
theorem aft:awp P .ret s K=K .ret s:=propext Iff.rfl
theorem agX {D DK:List Nat} {ops:List zi}:ai3 P ops D DK K s=zm P ops s (Cg D DK K):=propext Iff.rfl
theorem EV {D DK:List Nat}:Cg D DK K s=(fW (lk s.sto) (DK.map (s.base+·)) ⟨del D s.env,del (DK.map (s.base+·)) s.sto,s.out,s.base⟩=true∧K .normal ⟨del D s.env,del (DK.map (s.base+·)) s.sto,s.out,s.base⟩):=propext Iff.rfl
theorem EQ {α:Type} (l:List (Nat × α)):del [] l=l:=by
 induction l with
 | nil=>rfl
 | cons p l ih=>simp[del,ih]
theorem acG {D:List Nat}:Cg D [] K s=K .normal ⟨del D s.env,s.sto,s.out,s.base⟩:=by
 rw[EV]
 simp[fW,EQ]
theorem F6 {b:zd}:qM P b K .normal s=awp P b s K:=propext Iff.rfl
theorem aaS {b:zd} {i:Nat}:qM P b K (.exit i) s=K (.exit i) s:=propext Iff.rfl
theorem aeh {b:zd}:qM P b K .ret s=K .ret s:=propext Iff.rfl
theorem LD {i:Nat}:wj i K .normal s=K .normal s:=propext Iff.rfl
theorem Fu {i j:Nat}:wj i K (.exit j) s=if j=i then K .normal s else K (.exit j) s:=propext Iff.rfl
theorem D0 {i:Nat}:wj i K .ret s=K .ret s:=propext Iff.rfl
theorem aaT {b:zd} {i:Nat}:qM P b K (.goto i) s=K (.goto i) s:=propext Iff.rfl
theorem Fv {i j:Nat}:wj i K (.goto j) s=K (.goto j) s:=propext Iff.rfl
theorem FI:pD [] s KS=KS s:=propext Iff.rfl
theorem agN:zm P [] s KS=KS s:=propext Iff.rfl
theorem aam {d:Option Nat} {op:AOp} {xs:List Opd} {g:Nat} {b:Bool}:zm P (⟨d,op,xs,some (g,b)⟩::os) s KS =
  nB (s.get g) b (zm P (⟨d,op,xs,none⟩::os) s KS) (zm P os (s.put d (.val undef)) KS):=propext Iff.rfl
variable {d:Nat}
theorem agM {x:Opd}:zm P (⟨some d,.mov,[x],none⟩::os) s KS=zm P os ⟨pt s.env d (ev s x),s.sto,s.out,s.base⟩ KS:=propext Iff.rfl
theorem adC {c a b:Opd}:zm P (⟨some d,.pick,[c,a,b],none⟩::os) s KS=la (ev s c) (zm P os ⟨pt s.env d (ev s a),s.sto,s.out,s.base⟩ KS) (zm P os ⟨pt s.env d (ev s b),s.sto,s.out,s.base⟩ KS):=by
 show (match [ev s c,ev s a,ev s b] with | [.val (.bool t),a,b]=>(t=true→xZ P os s (some d) KS a none)∧(t=false→xZ P os s (some d) KS b none) | _=>False)=_
 unfold la
 cases ev s c<;>try rfl
 rename_i v
 cases v<;>rfl
theorem aag {cells:List AV}:zm P (⟨some d,.alloc cells,[],none⟩::os) s KS=(lk s.sto (s.base+d)=none∧zm P os ⟨pt s.env d (.ptr (s.base+d) 0),pt s.sto (s.base+d) (.var cells),s.out,s.base⟩ KS):=propext Iff.rfl
def lS (x:Option AV) (P:Program) (os:List zi) (s:St) (d:Nat) (KS:St→Prop):Prop :=
 match x with
 | some v=>zm P os ⟨pt s.env d v,s.sto,s.out,s.base⟩ KS
 | none=>False
theorem aar {v:AV}:lS (some v) P os s d KS=zm P os ⟨pt s.env d v,s.sto,s.out,s.base⟩ KS:=propext Iff.rfl
theorem agI {d:Option Nat} {o:BinOp} {t:TypeId} {ox oy:Operand} {x y:Opd}:zm P (⟨d,.bin o t ox oy,[x,y],none⟩::os) s KS=yj P o t ox oy [ev s x,ev s y] (xZ P os s d KS):=propext Iff.rfl
theorem ady {d:Option Nat} {n:Option Nat} {x:Opd}:zm P (⟨d,.load n,[x],none⟩::os) s KS=ff (lk s.sto) n [ev s x] (xZ P os s d KS):=propext Iff.rfl
theorem CB {d:Option Nat} {n m:Nat} {x y:Opd}:zm P (⟨d,.iaddrA n m,[x,y],none⟩::os) s KS=kS n m [ev s x,ev s y] (xZ P os s d KS):=propext Iff.rfl
theorem CC {d:Option Nat} {n:Nat} {x y:Opd}:zm P (⟨d,.iaddrS n,[x,y],none⟩::os) s KS=vS n [ev s x,ev s y] (xZ P os s d KS):=propext Iff.rfl
theorem aao {d:Option Nat} {n:Nat} {a b c:Bool} {xs:List Opd}:zm P (⟨d,.slice n a b c,xs,none⟩::os) s KS=mS n a b c (xs.map (ev s)) (xZ P os s d KS):=propext Iff.rfl
theorem aiV {d:Option Nat} {n m:Nat} {z:List AV} {x y:Opd}:zm P (⟨d,.mk n m z,[x,y],none⟩::os) s KS=eMk n m z (s.base+d.getD 0) (lk s.sto) [ev s x,ev s y] (xZ P os s d KS):=propext Iff.rfl
theorem agK {d:Option Nat} {b:Bool} {x:Opd}:zm P (⟨d,.len b,[x],none⟩::os) s KS=gw b [ev s x] (xZ P os s d KS):=propext Iff.rfl
theorem adv {d:Option Nat} {f:FuncId} {xs:List Opd}:zm P (⟨d,.call f,xs,none⟩::os) s KS=wK P f (lk s.sto) (xs.map (ev s)) (xZ P os s d KS):=propext Iff.rfl
theorem agL {d:Nat} {f:FuncId} {xs:List Opd}:zm P (⟨some d,.mkb f,xs,none⟩::os) s KS=zm P os ⟨pt s.env d (.fn (.via 0 #[] f false) ((xs.map (ev s)).map strip)),s.sto,s.out,s.base⟩ KS:=propext Iff.rfl
theorem adz {d:Nat} {f:FuncId} {xs:List Opd}:zm P (⟨some d,.mkfn f,xs,none⟩::os) s KS=zm P os ⟨pt s.env d (.fn (.func f) ((xs.map (ev s)).map strip)),s.sto,s.out,s.base⟩ KS:=propext Iff.rfl
theorem adA {d:Nat} {t:TypeId} {x:Opd}:zm P (⟨some d,.mkif t,[x],none⟩::os) s KS=(rf (ev s x)=true∧zm P os ⟨pt s.env d (.iface t (strip (ev s x))),s.sto,s.out,s.base⟩ KS):=propext Iff.rfl
def unA (P:Program) (op:UnOp):AV→Option AV
 | .val v=>(zt P (Op.unary op v)).map ofV
 | _=>none
def fc (P:Program) (a b:TypeId):AV→Option AV
 | .val v=>(zt P (convert a b v)).map ofV
 | .list _ _ rows=>match pq rows with
  | some ns=>if YQ P a b=true then some (.val (.string (strOfNums ns))) else none
  | none=>none
 | _=>none
def cy (off:Nat) (n:Option Nat):AV→Option AV
 | .agg cells=>tB cells off n
 | .raw cells=>zK cells off n
 | _=>none
def Jp (off:Nat):AV→Option AV
 | .ptr j o=>some (.ptr j (o+off))
 | .eptr j sz i o=>some (.eptr j sz i (o+off))
 | .up j sz i o=>some (.up j sz i (o+off))
 | .ro cells=>some (.ro (cells.drop off))
 | _=>none
def QS (i:Nat):AV→Option AV
 | .tuple vs=>vs[i]?
 | _=>none
def adf:AV→Option AV
 | .ptr j off=>some (.ptr j off)
 | .eptr j sz i off=>some (.eptr j sz i off)
 | .up j sz i off=>some (.up j sz i off)
 | .ro cells=>some (.ro cells)
 | .fn f caps=>some (.fn f caps)
 | _=>none
theorem aiX {o:UnOp} {x:Opd}:zm P (⟨some d,.un o,[x],none⟩::os) s KS=lS (unA P o (ev s x)) P os s d KS:=by
 show zO P (s.base+d) (.un o) [ev s x] (lk s.sto) (xZ P os s (some d) KS)=_
 simp only[zO]
 cases ev s x<;>try rfl
 rename_i v
 simp only[unA]
 cases zt P (Op.unary o v)<;>rfl
theorem adw {a b:TypeId} {x:Opd}:zm P (⟨some d,.conv a b,[x],none⟩::os) s KS=lS (fc P a b (ev s x)) P os s d KS:=by
 show zO P (s.base+d) (.conv a b) [ev s x] (lk s.sto) (xZ P os s (some d) KS)=_
 simp only[zO]
 cases ev s x<;>try rfl
 ·rename_i v
  simp only[fc]
  cases zt P (convert a b v)<;>rfl
 ·rename_i sz m rows
  simp only[fc]
  cases pq rows with
  | none=>rfl
  | some ns =>
   by_cases h:YQ P a b=true
   ·simp only[h,if_true,true_and]; rfl
   ·simp only[h,Bool.false_eq_true,if_false,false_and]; rfl
theorem aal {off:Nat} {n:Option Nat} {x:Opd}:zm P (⟨some d,.field off n,[x],none⟩::os) s KS=lS (cy off n (ev s x)) P os s d KS:=by
 show zO P (s.base+d) (.field off n) [ev s x] (lk s.sto) (xZ P os s (some d) KS)=_
 simp only[zO]
 cases ev s x<;>try rfl
 ·rename_i v
  simp only[cy]
  cases tB v off n<;>rfl
 ·rename_i v
  simp only[cy]
  cases zK v off n<;>rfl
theorem aak {off:Nat} {x:Opd}:zm P (⟨some d,.faddr off,[x],none⟩::os) s KS=lS (Jp off (ev s x)) P os s d KS:=by
 show zO P (s.base+d) (.faddr off) [ev s x] (lk s.sto) (xZ P os s (some d) KS)=_
 simp only[zO]
 cases ev s x<;>rfl
theorem FU {i:Nat} {x:Opd}:zm P (⟨some d,.extract i,[x],none⟩::os) s KS=lS (QS i (ev s x)) P os s d KS:=by
 show zO P (s.base+d) (.extract i) [ev s x] (lk s.sto) (xZ P os s (some d) KS)=_
 simp only[zO]
 cases ev s x<;>try rfl
 rename_i v
 simp only[QS]
 cases v[i]?<;>rfl
theorem CF {x:Opd}:zm P (⟨some d,.nilChk,[x],none⟩::os) s KS=lS (adf (ev s x)) P os s d KS:=by
 show zO P (s.base+d) .nilChk [ev s x] (lk s.sto) (xZ P os s (some d) KS)=_
 simp only[zO]
 cases ev s x<;>rfl
theorem aah {z:List AV} {ps:List (Nat × Nat)} {xs:List Opd}:zm P (⟨some d,.build z ps,xs,none⟩::os) s KS=lS (orR (r9 z ps (xs.map (ev s))) (q7 z ps (xs.map (ev s)))) P os s d KS:=by
 show zO P (s.base+d) (.build z ps) (xs.map (ev s)) (lk s.sto) (xZ P os s (some d) KS)=_
 simp only[zO]
 cases orR (r9 z ps (xs.map (ev s))) (q7 z ps (xs.map (ev s)))<;>rfl
def orL (sz:Nat):Option (List (List AV))→Option (List (List AV))→Option AV
 | some rows,_=>some (.list sz .full rows)
 | none,some rows=>some (.lit sz rows)
 | none,none=>none
@[congr] theorem alJ {a a' b:Option (List AV)} (h:a=a'):orR a b=orR a' b:=by rw[h]
@[congr] theorem alI {sz:Nat} {a a' b:Option (List (List AV))} (h:a=a'):orL sz a b=orL sz a' b:=by rw[h]
theorem adK {cs:List AV} {b:Option (List AV)}:orR (some cs) b=some (.agg cs):=by cases b<;>exact congrArg (fun x=>x) rfl
theorem adJ {b:Option (List AV)}:orR none b=b.map .raw:=by cases b<;>exact congrArg (fun x=>x) rfl
theorem adI {sz:Nat} {rows:List (List AV)} {b:Option (List (List AV))}:orL sz (some rows) b=some (.list sz .full rows):=by cases b<;>exact congrArg (fun x=>x) rfl
theorem adH {sz:Nat} {b:Option (List (List AV))}:orL sz none b=b.map (.lit sz):=by cases b<;>exact congrArg (fun x=>x) rfl
theorem Ge {sz n:Nat} {z:List AV} {ps:List Nat} {xs:List Opd} (h1:z.length=sz) (h2:0<sz) :
  zm P (⟨some d,.mksliceL sz n z ps,xs,none⟩::os) s KS=lS ((vK sz (List.replicate n z) ps (xs.map (ev s))).map (.lit sz)) P os s d KS:=by
 show zO P (s.base+d) (.mksliceL sz n z ps) (xs.map (ev s)) (lk s.sto) (xZ P os s (some d) KS)=_
 simp only[zO]
 cases vK sz (List.replicate n z) ps (xs.map (ev s)) with
 | none=>rfl
 | some rows=>simp only[h1,h2,true_and]; rfl
theorem aan:zm P (⟨some d,.mkmap,[],none⟩::os) s KS=(lk s.sto (s.base+d)=none∧zm P os ⟨pt s.env d (.mp (s.base+d)),pt s.sto (s.base+d) (.map #[] 0),s.out,s.base⟩ KS):=propext Iff.rfl
theorem CD {d:Option Nat} {t:TypeId} {ok:Bool} {x y:Opd}:zm P (⟨d,.lookup t ok,[x,y],none⟩::os) s KS=rc P t ok (lk s.sto) [ev s x,ev s y] (xZ P os s d KS):=propext Iff.rfl
theorem CE {d:Option Nat} {t:TypeId} {x y z:Opd}:zm P (⟨d,.mapset t,[x,y,z],none⟩::os) s KS=qx P t s d (Zh P os KS) [ev s x,ev s y,ev s z]:=propext Iff.rfl
theorem FV {sz n:Nat} {z:List AV} {ps:List Nat} {xs:List Opd} (h1:z.length=sz) (h2:0<sz) :
  zm P (⟨some d,.mkslice sz n z ps,xs,none⟩::os) s KS=lS (orL sz (xH sz (List.replicate n z) ps (xs.map (ev s))) (vK sz (List.replicate n z) ps (xs.map (ev s)))) P os s d KS:=by
 show zO P (s.base+d) (.mkslice sz n z ps) (xs.map (ev s)) (lk s.sto) (xZ P os s (some d) KS)=_
 simp only[zO]
 cases xH sz (List.replicate n z) ps (xs.map (ev s)) with
 | none =>
  cases vK sz (List.replicate n z) ps (xs.map (ev s)) with
  | none=>rfl
  | some rows=>simp only[h1,h2,true_and]; rfl
 | some rows=>simp only[h1,h2,true_and]; rfl
def NQ (ras:List zo) (r:AV):Exit→St→Prop:=fun e s=>(e=.normal∨e=.ret)∧ll ras s=some r
theorem ad2 {ras:List zo} {r:AV}:NQ ras r .ret s=(ll ras s=some r):=by simp[NQ]
theorem F0 {ras:List zo} {r:AV}:NQ ras r .normal s=(ll ras s=some r):=by simp[NQ]
theorem zn {f:FuncId} {ac:zd} {ras:List zo} {N:Nat} {args:List AV} {r:AV} (ht:zj P f=some (bare ac,ras,N)) (hn:args.length≤N)
  (h:awp P ac ⟨pa 0 args,[],[],0⟩ (NQ ras r)):ze P f args r:=sound ht hn h
def Y5 (ras:List zo) (r:AV):Exit→St→Prop:=fun e s=>(e=.normal∨e=.ret)∧∃ r0,ll ras s=some r0∧AV.imp r0 r
theorem ad3 {ras:List zo} {r:AV}:Y5 ras r .ret s=∃ r0,ll ras s=some r0∧AV.imp r0 r:=by simp[Y5]
theorem F1 {ras:List zo} {r:AV}:Y5 ras r .normal s=∃ r0,ll ras s=some r0∧AV.imp r0 r:=by simp[Y5]
theorem wN {f:FuncId} {ac:zd} {ras:List zo} {N:Nat} {args:List AV} {r:AV} (ht:zj P f=some (bare ac,ras,N)) (hn:args.length≤N)
  (h:awp P ac ⟨pa 0 args,[],[],0⟩ (Y5 ras r)):ze P f args r:=abk (fun _ _ h=>h) ht hn h
def ah8 (x:Option (List AV)) (P:Program) (os:List zi) (s:St) (d:Nat) (KS:St→Prop):Prop :=
 match x with
 | some cs=>lk s.sto (s.base+d)=none∧zm P os ⟨pt s.env d (.ptr (s.base+d) 0),pt s.sto (s.base+d) (.var cs),s.out,s.base⟩ KS
 | none=>False
theorem BK {cs:List AV}:ah8 (some cs) P os s d KS=(lk s.sto (s.base+d)=none∧zm P os ⟨pt s.env d (.ptr (s.base+d) 0),pt s.sto (s.base+d) (.var cs),s.out,s.base⟩ KS):=propext Iff.rfl
theorem agJ {x:Opd}:zm P (⟨some d,.box,[x],none⟩::os) s KS=ah8 (cellsOf (ev s x)) P os s d KS:=propext Iff.rfl
theorem adE {x:Option AV}:xY x (xZ P os s (some d) KS)=lS x P os s d KS:=by cases x<;>rfl
theorem Gf {x:Option Value}:xf x (xZ P os s (some d) KS)=lS (x.map ofV) P os s d KS:=by cases x<;>rfl
theorem aaB {v:AV}:xZ P os s (some d) KS v none=zm P os ⟨pt s.env d v,s.sto,s.out,s.base⟩ KS:=propext Iff.rfl
theorem CK {v:AV}:xZ P os s none KS v none=zm P os s KS:=propext Iff.rfl
theorem aaC {v:AV} {e:zg}:xZ P os s (some d) KS v (some e)=zm P os ⟨pt s.env d v,pt s.sto (s.base+d) e,s.out,s.base⟩ KS:=propext Iff.rfl
theorem aaq {n:Nat} {a b:Opd}:zm P (⟨none,.store n,[a,b],none⟩::os) s KS=jE n s none [ev s a,ev s b] (Zh P os KS):=propext Iff.rfl
theorem FT {sz by_:Nat} {a b:Opd} {d:Option Nat}:zm P (⟨d,.appendU sz by_,[a,b],none⟩::os) s KS=tI sz by_ s d (Zh P os KS) [ev s a,ev s b]:=propext Iff.rfl
theorem aai {f:FuncId} {xs:List Opd} {d:Option Nat}:zm P (⟨d,.callI f,xs,none⟩::os) s KS=(yv P f=true∧py P f (xs.map (ev s)) s d (Zh P os KS)):=propext Iff.rfl
theorem adB {neg:Bool} {x:Opd} {d:Option Nat}:zm P (⟨d,.nilS neg,[x],none⟩::os) s KS=bY neg s d (Zh P os KS) [ev s x]:=propext Iff.rfl
theorem Cf {neg:Bool} {d:Option Nat} {sz:Nat} {m:Mode} {rows:List (List AV)} {K:St→Prop}:bY neg s d K [.list sz m rows]=((rows=[]→K (s.put d (bv true))∧K (s.put d (bv false)))∧(rows≠[]→K (s.put d (bv neg)))):=by
 simp only[bY,J3,List.length_eq_zero_iff,ne_eq]
theorem agH:Zh P os KS s=zm P os s KS:=propext Iff.rfl
theorem YW {sz by_:Nat} {a b:Opd} {d:Option Nat}:zm P (⟨d,.append sz by_,[a,b],none⟩::os) s KS=xb sz by_ s d (Zh P os KS) [ev s a,ev s b]:=propext Iff.rfl
end
section
variable {P:Program} {t:TypeId} {ox oy:Operand} {k:IntKind} {a b:Int} {K:AV→Option zg→Prop}
theorem acu:yj P .add t ox oy [.val (.int k a),.val (.int k b)] K=K (.val (.int k (k.wrap (a+b)))) none:=by
 simp[yj,toV,zt,eqGuard,binOp,Op.intArith,xf,ofV,xC,bind,Sem.bind,pure]
theorem acD:yj P .sub t ox oy [.val (.int k a),.val (.int k b)] K=K (.val (.int k (k.wrap (a-b)))) none:=by
 simp[yj,toV,zt,eqGuard,binOp,Op.intArith,xf,ofV,xC,bind,Sem.bind,pure]
theorem acB:yj P .mul t ox oy [.val (.int k a),.val (.int k b)] K=K (.val (.int k (k.wrap (a*b)))) none:=by
 simp[yj,toV,zt,eqGuard,binOp,Op.intArith,xf,ofV,xC,bind,Sem.bind,pure]
theorem acA:yj P .lss t ox oy [.val (.int k a),.val (.int k b)] K=K (bv (decide (a<b))) none:=by
 simp[yj,toV,zt,eqGuard,binOp,Op.intCmp,xf,ofV,xC,bind,Sem.bind,pure]
theorem acz:yj P .leq t ox oy [.val (.int k a),.val (.int k b)] K=K (bv (decide (a≤b))) none:=by
 simp[yj,toV,zt,eqGuard,binOp,Op.intCmp,xf,ofV,xC,bind,Sem.bind,pure]
theorem acy:yj P .gtr t ox oy [.val (.int k a),.val (.int k b)] K=K (bv (decide (b<a))) none:=by
 simp[yj,toV,zt,eqGuard,binOp,Op.intCmp,xf,ofV,xC,bind,Sem.bind,pure]
theorem acx:yj P .geq t ox oy [.val (.int k a),.val (.int k b)] K=K (bv (decide (b≤a))) none:=by
 simp[yj,toV,zt,eqGuard,binOp,Op.intCmp,xf,ofV,xC,bind,Sem.bind,pure]
theorem acw:yj P .eql t ox oy [.val (.int k a),.val (.int k b)] K=K (bv (decide (a=b))) none:=by
 simp[yj,toV,zt,eqGuard,binOp,Op.intCmp,xf,ofV,xC,bind,Sem.bind,pure]
 rfl
theorem acC:yj P .neq t ox oy [.val (.int k a),.val (.int k b)] K=K (bv (decide (a≠b))) none:=by
 simp[yj,toV,zt,eqGuard,binOp,Op.intCmp,xf,ofV,xC,bind,Sem.bind,pure]
 rfl
theorem ajy {c:Bool}:zt P (Op.unary .not (.bool c))=some (.bool !c):=by
 simp[zt,Op.unary,pure]
theorem wrap64 {n:Int} (h1:-9223372036854775808≤n) (h2:n≤9223372036854775807):IntKind.i64.wrap n=n:=IntWalk.i64_in n ⟨h1,h2⟩
end
theorem Bf {cells:List AV} {off:Nat} {x:AV} (h:off<cells.length):splice cells off [x]=cells.set off x:=by
 unfold splice
 rw[List.set_eq_take_append_cons_drop,if_pos h]
 simp
theorem Be {cells cs:List AV} (h:cs.length=cells.length):splice cells 0 cs=cs:=by
 unfold splice
 simp[h]
theorem BB (k:Nat) (l:List Int):wQ k (l.map iv)=false:=by
 induction l with
 | nil=>rfl
 | cons x l ih=>simp[ih,wQ,zV]
theorem GZ:strip∘iv=iv:=rfl
theorem MW {l:List Int} {n:Nat} (h:l.length=n):zK (l.map iv) 0 (some n)=some (.agg (l.map iv)):=by
 have h1:(l.map iv).all rf=true:=by simp[rf]
 have h2:(l.map iv).map strip=l.map iv:=by simp[GZ]
 simp only[zK,List.drop_zero]
 rw[List.take_of_length_le (by simp; omega),if_pos ⟨by simp; omega,h1⟩,h2]
theorem FN (cells:List AV) (off:Nat):zK cells off none=cells[off]?:=by simp[zK]
section
variable {σ:Nat→Option zg}
theorem Ba:vM σ .undef=some .undef:=rfl
theorem aeC {v:Value}:vM σ (.val v)=some (.val v):=rfl
theorem aeA {c:List AV}:vM σ (.agg c)=some (.agg c):=rfl
theorem C9 {c:List AV}:vM σ (.tuple c)=if c.all rf=true then some (.tuple (c.map strip)) else none:=rfl
theorem abj {sz:Nat} {m:Mode} {r:List (List AV)}:vM σ (.list sz m r)=some (strip (.list sz m r)):=rfl
theorem ahe {c:List AV}:vM σ (.ro c)=some (.ro c):=rfl
theorem aeB {k off:Nat}:vM σ (.ptr k off)=(match σ k with
  | some (.var cells)=>if (cells.drop off).all rf=true then some (.ro ((cells.drop off).map strip)) else (yY (wD σ) (cells.drop off)).map .ro
  | _=>none):=rfl
theorem abf {v:Value}:wD σ (.val v)=some (.val v):=rfl
theorem abe {c:List AV}:wD σ (.agg c)=some (.agg c):=rfl
theorem C6 {sz:Nat} {m:Mode} {r:List (List AV)}:wD σ (.list sz m r)=some (strip (.list sz m r)):=rfl
theorem aew {c:List AV}:wD σ (.ro c)=some (.ro c):=rfl
theorem aey {k sz off n:Nat}:wD σ (.us k sz off n)=(match σ k with
  | some (.uarr sz' rows)=>if sz'=sz∧off+n≤rows.length∧wE ((rows.drop off).take n)=true then some (.list sz .plain (zZ ((rows.drop off).take n))) else none
  | _=>none):=rfl
theorem aex {k sz off n:Nat}:wD σ (.sl k sz off n)=(match σ k with
  | some (.arr sz' rows)=>if sz'=sz∧off+n≤rows.length then some (.list sz .plain ((rows.drop off).take n)) else none
  | _=>none):=rfl
theorem abi {k sz i off:Nat}:vM σ (.eptr k sz i off)=(match σ k with
  | some (.arr sz' rows)=>if sz'=sz then (rows[i]?).map fun r=>.ro (r.drop off) else none
  | _=>none):=rfl
theorem ahf {k sz off n:Nat}:vM σ (.sl k sz off n)=(match σ k with
  | some (.arr sz' rows)=>if sz'=sz∧off+n≤rows.length then some (.list sz .plain ((rows.drop off).take n)) else none
  | _=>none):=rfl
theorem ahh {k sz off n:Nat}:vM σ (.us k sz off n)=(match σ k with
  | some (.uarr sz' rows)=>if sz'=sz∧off+n≤rows.length∧wE ((rows.drop off).take n)=true then some (.list sz .plain (zZ ((rows.drop off).take n))) else none
  | _=>none):=rfl
theorem ahg {k sz i off:Nat}:vM σ (.up k sz i off)=(match σ k with
  | some (.uarr sz' rows)=>match rows[i]? with
   | some r=>if sz'=sz∧(r.drop off).all rf=true then some (.ro ((r.drop off).map strip)) else none
   | none=>none
  | _=>none):=rfl
theorem C8 {t:TypeId} {x:AV}:vM σ (.iface t x)=some (.iface t x):=rfl
theorem ahd {f:Fn} {caps:List AV}:vM σ (.fn f caps)=(yY (de σ) caps).map (.fn f):=rfl
theorem abh {v:Value}:de σ (.val v)=some (.val v):=rfl
theorem abg {c:List AV}:de σ (.agg c)=some (.agg c):=rfl
theorem C7 {sz:Nat} {m:Mode} {r:List (List AV)}:de σ (.list sz m r)=some (strip (.list sz m r)):=rfl
theorem aez {c:List AV}:de σ (.ro c)=some (.ro c):=rfl
end
theorem Ee:strip .undef=.undef:=rfl
theorem abs {v:Value}:strip (.val v)=.val v:=rfl
theorem abq {c:List AV}:strip (.agg c)=.agg c:=rfl
theorem Ed {c:List AV}:strip (.tuple c)=.tuple c:=rfl
theorem aeH {c:List AV}:strip (.ro c)=.ro c:=rfl
theorem abr {k o:Nat}:strip (.ptr k o)=.ptr k o:=rfl
theorem Bm {k sz i o:Nat}:strip (.eptr k sz i o)=.eptr k sz i o:=rfl
theorem aeI {k sz o n:Nat}:strip (.sl k sz o n)=.sl k sz o n:=rfl
theorem aeK {k sz o n:Nat}:strip (.us k sz o n)=.us k sz o n:=rfl
theorem aeJ {k sz i o:Nat}:strip (.up k sz i o)=.up k sz i o:=rfl
theorem Ec {t:TypeId} {x:AV}:strip (.iface t x)=.iface t x:=rfl
theorem aeG {f:Fn} {c:List AV}:strip (.fn f c)=.fn f c:=rfl
attribute [simp ↓ low] D6
attribute [simp ↓] D7 Fz Co JC JD FO
theorem Gu {k:Nat}:zV k .undef=false:=rfl
theorem CS {k:Nat} {v:Value}:zV k (.val v)=false:=rfl
theorem CO {k:Nat} {c:List AV}:zV k (.agg c)=false:=rfl
theorem FY {k sz:Nat} {m:Mode} {r:List (List AV)}:zV k (.list sz m r)=false:=rfl
theorem aaG {k:Nat} {c:List AV}:zV k (.ro c)=false:=rfl
theorem Gs {k:Nat} {t:TypeId} {x:AV}:zV k (.iface t x)=false:=rfl
theorem CQ {k j o:Nat}:zV k (.ptr j o)=(j == k):=rfl
theorem FX {k j a b c:Nat}:zV k (.eptr j a b c)=(j == k):=rfl
theorem aaH {k j a b c:Nat}:zV k (.sl j a b c)=(j == k):=rfl
theorem aaJ {k j a b c:Nat}:zV k (.us j a b c)=(j == k):=rfl
theorem aaI {k j a b c:Nat}:zV k (.up j a b c)=(j == k):=rfl
theorem aaE {k:Nat} {f:Fn} {c:List AV}:zV k (.fn f c)=c.any (sI k):=rfl
theorem Gt {k:Nat} {c:List AV}:zV k (.tuple c)=c.any (sI k):=rfl
theorem ad6:rf .undef=true:=rfl
theorem ai9 {v:Value}:rf (.val v)=true:=rfl
theorem ai5 {c:List AV}:rf (.agg c)=true:=rfl
theorem ag0 {sz:Nat} {m:Mode} {r:List (List AV)}:rf (.list sz m r)=true:=rfl
theorem ak1 {c:List AV}:rf (.ro c)=true:=rfl
theorem ad4 {t:TypeId} {x:AV}:rf (.iface t x)=true:=rfl
theorem ai7 {j o:Nat}:rf (.ptr j o)=false:=rfl
theorem agZ {j a b c:Nat}:rf (.eptr j a b c)=false:=rfl
theorem ak2 {j a b c:Nat}:rf (.sl j a b c)=false:=rfl
theorem ak4 {j a b c:Nat}:rf (.us j a b c)=false:=rfl
theorem ak3 {j a b c:Nat}:rf (.up j a b c)=false:=rfl
theorem akZ {f:Fn} {c:List AV}:rf (.fn f c)=false:=rfl
theorem ad5 {c:List AV}:rf (.tuple c)=false:=rfl
theorem ak0 {k:Nat}:rf (.mp k)=false:=rfl
theorem ai6 {n:Nat} {c:List (List AV)}:rf (.lit n c)=false:=rfl
theorem ai8 {c:List AV}:rf (.raw c)=false:=rfl
theorem aaF {j k:Nat}:zV k (.mp j)=(j == k):=rfl
theorem CP {k n:Nat} {rows:List (List AV)}:zV k (.lit n rows)=rows.any fun r=>r.any (RN k):=rfl
theorem CR {k:Nat} {c:List AV}:zV k (.raw c)=c.any (RN k):=rfl
attribute [simp] ak0 ai6 ai8 aaF CP CR RN Km
attribute [simp] Gu CS CO FY aaG Gs CQ FX aaH aaJ aaI aaE Gt sI ad6 ai9 ai5 ag0 ak1 ad4 ai7 agZ ak2 ak4 ak3 akZ ad5
attribute [simp] ab1 aaT Fv
attribute [simp] ab2 DY afu abZ BE ab0 aft agX acG EV F6 aaS aeh LD Fu D0 FI agN aam agM adC aag BK agJ agI ady CB CC aao aiV agK adv adz agL adA aiX adw aal aak FU CF aah FV Ge aan CD CE adK adJ adI adH ad2 F0 ad3 F1 aar adE Gf aaB CK aaC aaq agH YW adB Cf FT aai acu acD acB acA acz acy acx acw acC BB GZ ff kS vS gw fe jE al7 al6 aiH lk pt del MW FN cellsOf pa ll yY NP Ba aeC aeA C9 abj ahe aeB abi ahf ahd abh C7 abg aez abf abe C6 aew aey aex Ee abs abq Ed aeH abr Bm aeI aeG ahh ahg C8 aeK aeJ Ec St.unmet fW qD zg.isU jL sE jM wQ tp gQ unA ajy cy Jp QS adf single Value.oneCell' List.getElem?_eq_getElem
def wS (P:Program) (os:List zi) (s:St) (d:Nat) (KS:St→Prop):AV→Option zg→Prop:=fun x e=>lk s.env d=some x∧lk s.sto (s.base+d)=e∧zm P os s KS
def lL (x:Option AV) (P:Program) (os:List zi) (s:St) (d:Nat) (KS:St→Prop):Prop :=
 match x with
 | some v=>lk s.env d=some v∧lk s.sto (s.base+d)=none∧zm P os s KS
 | none=>False
def aic (x:Option (List AV)) (P:Program) (os:List zi) (s:St) (d:Nat) (KS:St→Prop):Prop :=
 match x with
 | some cs=>lk (del [s.base+d] s.sto) (s.base+d)=none∧lk s.env d=some (.ptr (s.base+d) 0)∧lk s.sto (s.base+d)=some (.var cs)∧zm P os s KS
 | none=>False
section
variable {P:Program} {s:St} {KS:St→Prop} {os:List zi} {d:Nat}
theorem afx {x:AV} {e:Option zg}:wS P os s d KS x e=(lk s.env d=some x∧lk s.sto (s.base+d)=e∧zm P os s KS):=propext Iff.rfl
theorem BO {x:AV}:lL (some x) P os s d KS=(lk s.env d=some x∧lk s.sto (s.base+d)=none∧zm P os s KS):=propext Iff.rfl
theorem BM {cs:List AV}:aic (some cs) P os s d KS=(lk (del [s.base+d] s.sto) (s.base+d)=none∧lk s.env d=some (.ptr (s.base+d) 0)∧lk s.sto (s.base+d)=some (.var cs)∧zm P os s KS):=propext Iff.rfl
theorem adD {x:Option AV}:xY x (wS P os s d KS)=lL x P os s d KS:=by cases x<;>rfl
theorem adF {x:Option Value}:xf x (wS P os s d KS)=lL (x.map ofV) P os s d KS:=by cases x<;>rfl
theorem aap {ds:List Nat}:zm P (⟨none,.start ds,[],none⟩::os) s KS=(tV s.sto s.base ds∧zm P os ⟨del ds s.env,s.sto,s.out,s.base⟩ KS):=propext Iff.rfl
def afj (P:Program) (os:List zi) (s:St) (d:Nat) (KS:St→Prop):Prop:=lk s.env d=some (.val undef)∧lk s.sto (s.base+d)=none∧zm P os s KS
theorem BT {op:AOp} {g:Nat} {b:Bool} {xs:List Opd}:zm P (⟨some d,.chkG op g b,xs,none⟩::os) s KS=nB (s.get g) b (zm P (⟨some d,.chk op,xs,none⟩::os) s KS) (afj P os s d KS):=propext Iff.rfl
theorem aee:afj P os s d KS=(lk s.env d=some (.val undef)∧lk s.sto (s.base+d)=none∧zm P os s KS):=propext Iff.rfl
theorem afC {x:Opd}:zm P (⟨some d,.chk .mov,[x],none⟩::os) s KS=wS P os s d KS (ev s x) none:=propext Iff.rfl
theorem ach {c a b:Opd}:zm P (⟨some d,.chk .pick,[c,a,b],none⟩::os) s KS=la (ev s c) (wS P os s d KS (ev s a) none) (wS P os s d KS (ev s b) none):=by
 show (match [ev s c,ev s a,ev s b] with | [.val (.bool t),a,b]=>(t=true→wS P os s d KS a none)∧(t=false→wS P os s d KS b none) | _=>False)=_
 unfold la
 cases ev s c<;>try rfl
 rename_i v
 cases v<;>rfl
theorem BP {cells:List AV}:zm P (⟨some d,.chk (.alloc cells),[],none⟩::os) s KS=(lk (del [s.base+d] s.sto) (s.base+d)=none∧wS P os s d KS (.ptr (s.base+d) 0) (some (.var cells))):=propext Iff.rfl
theorem afz {x:Opd}:zm P (⟨some d,.chk .box,[x],none⟩::os) s KS=aic (cellsOf (ev s x)) P os s d KS:=by
 show zO P (s.base+d) .box [ev s x] (lk (del [s.base+d] s.sto)) (wS P os s d KS)=_
 simp only[zO]
 cases cellsOf (ev s x)<;>rfl
theorem afy {o:BinOp} {t:TypeId} {ox oy:Operand} {x y:Opd}:zm P (⟨some d,.chk (.bin o t ox oy),[x,y],none⟩::os) s KS=yj P o t ox oy [ev s x,ev s y] (wS P os s d KS):=propext Iff.rfl
theorem acf {n:Option Nat} {x:Opd}:zm P (⟨some d,.chk (.load n),[x],none⟩::os) s KS=ff (lk (del [s.base+d] s.sto)) n [ev s x] (wS P os s d KS):=propext Iff.rfl
theorem D2 {n m:Nat} {x y:Opd}:zm P (⟨some d,.chk (.iaddrA n m),[x,y],none⟩::os) s KS=kS n m [ev s x,ev s y] (wS P os s d KS):=propext Iff.rfl
theorem D3 {n:Nat} {x y:Opd}:zm P (⟨some d,.chk (.iaddrS n),[x,y],none⟩::os) s KS=vS n [ev s x,ev s y] (wS P os s d KS):=propext Iff.rfl
theorem BU {n:Nat} {a b c:Bool} {xs:List Opd}:zm P (⟨some d,.chk (.slice n a b c),xs,none⟩::os) s KS=mS n a b c (xs.map (ev s)) (wS P os s d KS):=propext Iff.rfl
theorem afA {b:Bool} {x:Opd}:zm P (⟨some d,.chk (.len b),[x],none⟩::os) s KS=gw b [ev s x] (wS P os s d KS):=propext Iff.rfl
theorem acd {f:FuncId} {xs:List Opd}:zm P (⟨some d,.chk (.call f),xs,none⟩::os) s KS=wK P f (lk (del [s.base+d] s.sto)) (xs.map (ev s)) (wS P os s d KS):=propext Iff.rfl
theorem afB {f:FuncId} {xs:List Opd}:zm P (⟨some d,.chk (.mkb f),xs,none⟩::os) s KS=wS P os s d KS (.fn (.via 0 #[] f false) ((xs.map (ev s)).map strip)) none:=propext Iff.rfl
theorem acg {f:FuncId} {xs:List Opd}:zm P (⟨some d,.chk (.mkfn f),xs,none⟩::os) s KS=wS P os s d KS (.fn (.func f) ((xs.map (ev s)).map strip)) none:=propext Iff.rfl
theorem aid {o:UnOp} {x:Opd}:zm P (⟨some d,.chk (.un o),[x],none⟩::os) s KS=lL (unA P o (ev s x)) P os s d KS:=by
 show zO P (s.base+d) (.un o) [ev s x] (lk (del [s.base+d] s.sto)) (wS P os s d KS)=_
 simp only[zO]
 cases ev s x<;>try rfl
 rename_i v
 simp only[unA]
 cases zt P (Op.unary o v)<;>rfl
theorem ace {a b:TypeId} {x:Opd}:zm P (⟨some d,.chk (.conv a b),[x],none⟩::os) s KS=lL (fc P a b (ev s x)) P os s d KS:=by
 show zO P (s.base+d) (.conv a b) [ev s x] (lk (del [s.base+d] s.sto)) (wS P os s d KS)=_
 simp only[zO]
 cases ev s x<;>try rfl
 ·rename_i v
  simp only[fc]
  cases zt P (convert a b v)<;>rfl
 ·rename_i sz m rows
  simp only[fc]
  cases pq rows with
  | none=>rfl
  | some ns =>
   by_cases h:YQ P a b=true
   ·simp only[h,if_true,true_and]; rfl
   ·simp only[h,Bool.false_eq_true,if_false,false_and]; rfl
theorem BS {off:Nat} {n:Option Nat} {x:Opd}:zm P (⟨some d,.chk (.field off n),[x],none⟩::os) s KS=lL (cy off n (ev s x)) P os s d KS:=by
 show zO P (s.base+d) (.field off n) [ev s x] (lk (del [s.base+d] s.sto)) (wS P os s d KS)=_
 simp only[zO]
 cases ev s x<;>try rfl
 ·rename_i v
  simp only[cy]
  cases tB v off n<;>rfl
 ·rename_i v
  simp only[cy]
  cases zK v off n<;>rfl
theorem BR {off:Nat} {x:Opd}:zm P (⟨some d,.chk (.faddr off),[x],none⟩::os) s KS=lL (Jp off (ev s x)) P os s d KS:=by
 show zO P (s.base+d) (.faddr off) [ev s x] (lk (del [s.base+d] s.sto)) (wS P os s d KS)=_
 simp only[zO]
 cases ev s x<;>rfl
theorem Fw {i:Nat} {x:Opd}:zm P (⟨some d,.chk (.extract i),[x],none⟩::os) s KS=lL (QS i (ev s x)) P os s d KS:=by
 show zO P (s.base+d) (.extract i) [ev s x] (lk (del [s.base+d] s.sto)) (wS P os s d KS)=_
 simp only[zO]
 cases ev s x<;>try rfl
 rename_i v
 simp only[QS]
 cases v[i]?<;>rfl
theorem D5 {x:Opd}:zm P (⟨some d,.chk .nilChk,[x],none⟩::os) s KS=lL (adf (ev s x)) P os s d KS:=by
 show zO P (s.base+d) .nilChk [ev s x] (lk (del [s.base+d] s.sto)) (wS P os s d KS)=_
 simp only[zO]
 cases ev s x<;>rfl
theorem BQ {z:List AV} {ps:List (Nat × Nat)} {xs:List Opd}:zm P (⟨some d,.chk (.build z ps),xs,none⟩::os) s KS=lL (orR (r9 z ps (xs.map (ev s))) (q7 z ps (xs.map (ev s)))) P os s d KS:=by
 show zO P (s.base+d) (.build z ps) (xs.map (ev s)) (lk (del [s.base+d] s.sto)) (wS P os s d KS)=_
 simp only[zO]
 cases orR (r9 z ps (xs.map (ev s))) (q7 z ps (xs.map (ev s)))<;>rfl
theorem KU {sz n:Nat} {z:List AV} {ps:List Nat} {xs:List Opd} (h1:z.length=sz) (h2:0<sz) :
  zm P (⟨some d,.chk (.mksliceL sz n z ps),xs,none⟩::os) s KS=lL ((vK sz (List.replicate n z) ps (xs.map (ev s))).map (.lit sz)) P os s d KS:=by
 show zO P (s.base+d) (.mksliceL sz n z ps) (xs.map (ev s)) (lk (del [s.base+d] s.sto)) (wS P os s d KS)=_
 simp only[zO]
 cases vK sz (List.replicate n z) ps (xs.map (ev s))<;>simp[lL,h1,h2,wS]
theorem D4 {t:TypeId} {ok:Bool} {x y:Opd}:zm P (⟨some d,.chk (.lookup t ok),[x,y],none⟩::os) s KS=rc P t ok (lk (del [s.base+d] s.sto)) [ev s x,ev s y] (wS P os s d KS):=propext Iff.rfl
theorem Fx {sz n:Nat} {z:List AV} {ps:List Nat} {xs:List Opd} (h1:z.length=sz) (h2:0<sz) :
  zm P (⟨some d,.chk (.mkslice sz n z ps),xs,none⟩::os) s KS=lL (orL sz (xH sz (List.replicate n z) ps (xs.map (ev s))) (vK sz (List.replicate n z) ps (xs.map (ev s)))) P os s d KS:=by
 show zO P (s.base+d) (.mkslice sz n z ps) (xs.map (ev s)) (lk (del [s.base+d] s.sto)) (wS P os s d KS)=_
 simp only[zO]
 cases xH sz (List.replicate n z) ps (xs.map (ev s)) with
 | none=>cases vK sz (List.replicate n z) ps (xs.map (ev s))<;>simp[lL,h1,h2,wS,orL]
 | some rows=>simp[lL,h1,h2,wS,orL]
end
attribute [simp] afx BT aee BO BM adD adF aap tV afC ach BP afz afy acf D2 D3 BU afA acd acg afB aid ace BS BR Fw D5 BQ Fx KU D4
theorem zU {α β:Type} (P:Program) (s:Sem α) (f:α→Sem β):zt P (s >>= f)=(zt P s).bind fun a=>zt P (f a):=by
 induction s with
 | pure a=>simp[bind,Sem.bind,zt]
 | program k ih=>simp only[bind,Sem.bind,zt] at *; exact ih P
 | _=>rfl
theorem zX {α:Type} (P:Program) (a:α):zt P (pure a:Sem α)=some a:=rfl
theorem yO {P:Program} {t:TypeId}:zt P (underlying t)=P.underlying t:=by
 simp only[underlying,zU]
 simp only[program,zt]
 simp only[Option.bind]
 cases P.underlying t<;>rfl
theorem LK {P:Program} {t:TypeId}:zt P (typeInfo t)=P.info? t:=by
 simp only[typeInfo,zU]
 simp only[program,zt]
 simp only[Option.bind]
 cases P.info? t<;>rfl
theorem SH {P:Program} {t:TypeId}:zt P (sizeOf t)=szT P t:=by
 simp only[sizeOf,zU,LK,szT]
 cases P.info? t<;>rfl
theorem CJ {P:Program} {t:TypeId} {d:TypeDesc} (h:P.underlying t=some d):zt P (isAgg t)=some (agT P t):=by
 simp only[isAgg,zU,yO,h,Option.bind,agT]
 cases d<;>rfl
inductive Kd where
 | b
 | i (k:IntKind)
 | s
def Kd.fit:Kd→Value→Bool
 | .b,.bool _=>true
 | .i k,.int k' _=>decide (k=k')
 | .s,.string _=>true
 | _,_=>false
def sW:List Kd→List Value→Bool
 | [],[]=>true
 | k::ks,v::vs=>k.fit v&&sW ks vs
 | _,_=>false
def eq1:Value→Value→Bool
 | .bool a,.bool b=>a == b
 | .int _ a,.int _ b=>a == b
 | .string a,.string b=>a == b
 | _,_=>false
def eqL:List Value→List Value→Bool
 | [],[]=>true
 | x::xs,y::ys=>eq1 x y&&eqL xs ys
 | _,_=>false
def Nu (P:Program) (kd:TypeId→Option (List Kd)):Nat→List Field→Option (List Kd)
 | _,[]=>some []
 | off,f::fs =>
  if f.name = "_" ∨ f.offset ≠ off then none
  else
   match kd f.type with
   | some ks=>if szT P f.type=some ks.length then (Nu P kd (off+ks.length) fs).map (ks++·) else none
   | none=>none
def kds (P:Program):Nat→TypeId→Option (List Kd)
 | 0,_=>none
 | d+1,t =>
  match P.underlying t with
  | some .bool=>some [.b]
  | some (.int k)=>some [.i k]
  | some .string=>some [.s]
  | some (.array n e) =>
   match kds P d e with
   | some ks=>if szT P e=some ks.length then some (List.replicate n ks).flatten else none
   | none=>none
  | some (.struct fs)=>if P.stoodInHeld t=true then none else Nu P (kds P d) 0 fs.toList
  | _=>none
theorem Rc:∀ {ks:List Kd} {xs:List Value},sW ks xs=true→xs.length=ks.length
 | [],[],_=>rfl
 | [],_::_,h=>by cases h
 | _::_,[],h=>by cases h
 | k::ks,x::xs,h=>by simp only[sW,Bool.and_eq_true] at h; simp[Rc h.2]
theorem cz:∀ {ks ls:List Kd} {xs:List Value},sW (ks++ls) xs=true→sW ks (xs.take ks.length)=true∧sW ls (xs.drop ks.length)=true
 | [],_,_,h=>by simpa [sW] using h
 | k::ks,ls,[],h=>by cases h
 | k::ks,ls,x::xs,h=>by
  simp only[List.cons_append,sW,Bool.and_eq_true] at h
  have:=cz h.2
  simp[sW,h.1,this.1,this.2]
theorem Nh:∀ {n:Nat} {xs ys:List Value},xs.length=ys.length→eqL xs ys=(eqL (xs.take n) (ys.take n)&&eqL (xs.drop n) (ys.drop n))
 | 0,_,_,_=>by simp[eqL]
 | _+1,[],[],_=>by simp[eqL]
 | _+1,[],_::_,h=>by cases h
 | _+1,_::_,[],h=>by cases h
 | n+1,x::xs,y::ys,h=>by
  simp only[List.length_cons,Nat.add_right_cancel_iff] at h
  simp only[eqL,List.take_succ_cons,List.drop_succ_cons,Bool.and_assoc]
  rw[Nh (n:=n) h]
def valOf (P:Program) (t:TypeId) (xs:List Value):Value:=if agT P t=true then .agg xs.toArray else xs.headD undef
theorem E7 {P:Program} {d:Nat} {t:TypeId} {ks:List Kd} (h:kds P d t=some ks):(∃ u,P.underlying t=some u)∧(agT P t=false→ks.length=1):=by
 cases d with
 | zero=>cases h
 | succ d =>
  simp only[kds] at h
  split at h<;>rename_i hu
  ·exact ⟨⟨_,hu⟩,fun _=>by cases h; rfl⟩
  ·exact ⟨⟨_,hu⟩,fun _=>by cases h; rfl⟩
  ·exact ⟨⟨_,hu⟩,fun _=>by cases h; rfl⟩
  ·exact ⟨⟨_,hu⟩,fun ha=>by simp[agT,hu] at ha⟩
  ·exact ⟨⟨_,hu⟩,fun ha=>by simp[agT,hu] at ha⟩
  ·cases h
theorem au {P:Program} {d:Nat} {t:TypeId} {ks:List Kd} {xs:List Value} {off:Nat} (h:kds P d t=some ks) (hz:szT P t=some ks.length)
  (hl:off+ks.length≤xs.length):zt P (part t xs.toArray off)=some (valOf P t ((xs.drop off).take ks.length)):=by
 obtain ⟨⟨u,hu⟩,h1⟩:=E7 h
 simp only[part,zU,CJ hu,Option.bind_some]
 by_cases ha:agT P t=true
 ·simp only[ha,if_true,zU,SH,hz,Option.bind_some,zX,valOf]
  congr 2
  apply Array.ext'
  simp
 ·have h2:=h1 (by simpa using ha)
  rw[if_neg ha]
  have h3:off<xs.length:=by omega
  simp only[List.getElem?_toArray,List.getElem?_eq_getElem h3,zX,valOf,if_neg ha,h2]
  rw[List.drop_eq_getElem_cons h3]
  rfl
theorem Lg {P:Program} {α:Type} (f:α→Sem Bool):∀ (l:List α) (g:List α→Bool),g []=true→(∀ a m,(∃ h,h++a::m=l)→∃ b,zt P (f a)=some b∧g (a::m)=(b&&g m)) →
  zt P (forIn l ((none,()):Option Bool × Unit) fun a _=>do
   let b ← f a
   if (!b)=true then pure (ForInStep.done (some false,())) else pure (ForInStep.yield (none,())))=some (if g l=true then (none,()) else (some false,()))
 | [],g,h0,_=>by simp[h0,zX]
 | a::l,g,h0,h=>by
  obtain ⟨b,hb,hg⟩:=h a l ⟨[],rfl⟩
  have ih:=Lg f l g h0 (fun x m ⟨p,hp⟩=>h x m ⟨a::p,by simp[hp]⟩)
  rw[List.forIn_cons]
  simp only[zU,hb,Option.bind_some]
  cases b with
  | false=>simp[hg,zX]
  | true =>
   simp only[hg,Bool.true_and,Bool.not_true,Bool.false_eq_true,if_false,zX,Option.bind_some]
   exact ih
theorem ai4 {n:Nat} {α:Type} {l:List α}:(List.replicate n l).flatten.length=n*l.length:=by
 induction n with
 | zero=>simp
 | succ n ih=>simp[List.replicate_succ,ih,Nat.succ_mul,Nat.add_comm]
theorem E6 {P:Program} {d:Nat}:∀ {fs:List Field} {off:Nat} {ks:List Kd} {xs ys:List Value},Nu P (kds P d) off fs=some ks→xs.length=off+ks.length→ys.length=off+ks.length →
  sW ks (xs.drop off)=true→sW ks (ys.drop off)=true →
  (∀ (t:TypeId) (ks:List Kd) (xs ys:List Value),kds P d t=some ks→sW ks xs=true→sW ks ys=true→zt P (Op.equalIn d t (valOf P t xs) (valOf P t ys))=some (eqL xs ys)) →
  zt P (forIn fs ((none,()):Option Bool × Unit) fun f _ =>
   if f.name ≠ "_" then do
    let x ← part f.type xs.toArray f.offset
    let y ← part f.type ys.toArray f.offset
    let b ← Op.equalIn d f.type x y
    if (!b)=true then pure (ForInStep.done (some false,())) else pure (ForInStep.yield (none,()))
   else pure (ForInStep.yield (none,())))=some (if eqL (xs.drop off) (ys.drop off)=true then (none,()) else (some false,()))
 | [],off,ks,xs,ys,h,hx,hy,_,_,_=>by
  simp only[Nu,Option.some.injEq] at h
  subst h
  simp only[List.length_nil,Nat.add_zero] at hx hy
  rw[List.drop_of_length_le (by omega),List.drop_of_length_le (by omega)]
  simp[zX,eqL]
 | f::fs,off,ks,xs,ys,h,hx,hy,h1,h2,IH=>by
  simp only[Nu] at h
  split at h
  ·cases h
  rename_i hn
  simp only[not_or,Decidable.not_not,ne_eq] at hn
  split at h
  rotate_left
  ·cases h
  rename_i ls hk
  split at h
  rotate_left
  ·cases h
  rename_i hz
  cases hr:Nu P (kds P d) (off+ls.length) fs with
  | none=>simp[hr] at h
  | some ms =>
   simp only[hr,Option.map_some,Option.some.injEq] at h
   subst h
   simp only[List.length_append] at hx hy
   have a1:=cz h1
   have a2:=cz h2
   rw[List.drop_drop] at a1 a2
   have ih:=E6 hr (xs:=xs) (ys:=ys) (by omega) (by omega) a1.2 a2.2 IH
   rw[List.forIn_cons]
   have p1:=au (xs:=xs) (off:=off) hk hz (by omega)
   have p2:=au (xs:=ys) (off:=off) hk hz (by omega)
   have p3:=IH _ _ _ _ hk a1.1 a2.1
   rw[if_pos hn.1,hn.2]
   simp only[zU,p1,p2,p3,Option.bind_some]
   rw[Nh (n:=ls.length) (xs:=xs.drop off) (ys:=ys.drop off) (by simp; omega),List.drop_drop,List.drop_drop]
   cases eqL ((xs.drop off).take ls.length) ((ys.drop off).take ls.length) with
   | false=>simp[zX]
   | true =>
    simp only[Bool.true_and,Bool.not_true,Bool.false_eq_true,if_false,zX,Option.bind_some]
    exact ih
theorem YI {ls:List Kd}:∀ {n:Nat} {xs:List Value} {a:Nat},sW (List.replicate n ls).flatten xs=true→a<n→sW ls ((xs.drop (a*ls.length)).take ls.length)=true
 | 0,_,_,_,h=>by omega
 | n+1,xs,0,h,_=>by
  simp only[List.replicate_succ,List.flatten_cons] at h
  simpa using (cz h).1
 | n+1,xs,a+1,h,ha=>by
  simp only[List.replicate_succ,List.flatten_cons] at h
  have:=YI (cz h).2 (a:=a) (by omega)
  rw[List.drop_drop] at this
  rw[Nat.succ_mul,Nat.add_comm (a*ls.length)]
  exact this
theorem nM {P:Program}:∀ (d:Nat) (t:TypeId) (ks:List Kd) (xs ys:List Value),kds P d t=some ks→sW ks xs=true→sW ks ys=true →
  zt P (Op.equalIn d t (valOf P t xs) (valOf P t ys))=some (eqL xs ys)
 | 0,_,_,_,_,h,_,_=>by cases h
 | d+1,t,ks,xs,ys,h,hx,hy=>by
  have lx:=Rc hx
  have ly:=Rc hy
  simp only[kds] at h
  split at h<;>rename_i hu
  ·cases h
   match xs,ys,hx,hy with
   | [.bool a],[.bool b],_,_=>simp[valOf,agT,hu,Op.equalIn,zU,yO,zX,eqL,eq1]
  ·cases h
   match xs,ys,hx,hy with
   | [.int k a],[.int k' b],hx,hy =>
    simp only[sW,Kd.fit,decide_eq_true_eq,Bool.and_true] at hx hy
    subst hx; subst hy
    simp[valOf,agT,hu,Op.equalIn,zU,yO,zX,eqL,eq1]
  ·cases h
   match xs,ys,hx,hy with
   | [.string a],[.string b],_,_=>simp[valOf,agT,hu,Op.equalIn,zU,yO,zX,eqL,eq1]
  ·rename_i n e
   split at h
   rotate_left
   ·cases h
   rename_i ls hk
   split at h
   rotate_left
   ·cases h
   rename_i hz
   cases h
   rw[ai4] at lx ly
   simp only[valOf,agT,hu,if_true,Op.equalIn,zU,yO,Option.bind_some,SH,hz]
   have hloop:=Lg (P:=P) (fun i=>do
     let x ← part e xs.toArray (i*ls.length)
     let y ← part e ys.toArray (i*ls.length)
     Op.equalIn d e x y) (List.range' 0 n) (fun m=>eqL (xs.drop ((n-m.length)*ls.length)) (ys.drop ((n-m.length)*ls.length)))
    (by
     simp only[List.length_nil,Nat.sub_zero]
     rw[List.drop_of_length_le (by omega),List.drop_of_length_le (by omega)]; rfl)
    (by
     rintro a m ⟨p,hp⟩
     have hlen:p.length+(m.length+1)=n:=by
      have:=congrArg List.length hp
      simpa using this
     have ha:a=p.length:=by
      have:=congrArg (·[p.length]?) hp
      simp only[List.getElem?_append_right (Nat.le_refl _),Nat.sub_self,List.getElem?_cons_zero] at this
      rw[List.getElem?_range' (by omega)] at this
      simpa using this
     have hmul:a*ls.length+ls.length≤n*ls.length:=by
      rw[← Nat.succ_mul]; exact Nat.mul_le_mul_right _ (by omega)
     have e1:n-(a::m).length=a:=by simp only[List.length_cons]; omega
     have e2:(n-m.length)*ls.length=a*ls.length+ls.length:=by
      have:n-m.length=a+1:=by omega
      rw[this,Nat.succ_mul]
     have f1:=YI hx (a:=a) (by omega)
     have f2:=YI hy (a:=a) (by omega)
     have p1:=au (xs:=xs) (off:=a*ls.length) hk hz (by omega)
     have p2:=au (xs:=ys) (off:=a*ls.length) hk hz (by omega)
     refine ⟨_,by simp only[zU,p1,p2,Option.bind_some]; exact nM d _ _ _ _ hk f1 f2,?_⟩
     simp only[e1,e2]
     rw[Nh (n:=ls.length) (by simp; omega),List.drop_drop,List.drop_drop])
   simp only[List.length_range',Nat.sub_self,Nat.zero_mul,List.drop_zero] at hloop
   simp only[bind_assoc] at hloop
   rw[Std.Legacy.Range.forIn_eq_forIn_range']
   simp only[Std.Legacy.Range.size,Nat.sub_zero,Nat.add_sub_cancel,Nat.div_one] at hloop ⊢
   rw[hloop]
   cases eqL xs ys<;>simp[zX]
  ·rename_i fs
   split at h
   ·cases h
   rename_i hs
   simp only[valOf,agT,hu,if_true,Op.equalIn,zU,yO,Option.bind_some]
   simp only[program,zt,Option.bind_some,hs]
   have:=E6 (xs:=xs) (ys:=ys) h (by omega) (by omega) (by simpa using hx) (by simpa using hy) (nM d)
   simp only[Bool.false_eq_true,if_false]
   rw[← Array.forIn_toList,zU,this]
   simp only[List.drop_zero,Option.bind_some]
   cases eqL xs ys<;>rfl
  ·cases h
def cC (n:Nat) (l:List AV):Bool:=decide (l.length=n)&&l.all fun | .val (.int .i64 _)=>true | _=>false
def YP:List AV→List Int
 | .val (.int _ x)::r=>x::YP r
 | _=>[]
theorem Uq (l:List Int):YP (l.map iv)=l:=by
 induction l with
 | nil=>rfl
 | cons x l ih=>simp[YP,ih]
theorem QX (n:Nat) (l:List Int):cC n (l.map iv)=decide (l.length=n):=by simp[cC]
theorem Ns:∀ {l:List AV},(l.all fun | .val (.int .i64 _)=>true | _=>false)=true→∃ xs:List Int,l=xs.map iv
 | [],_=>⟨[],rfl⟩
 | x::l,h=>by
  simp only[List.all_cons,Bool.and_eq_true] at h
  obtain ⟨xs,rfl⟩:=Ns h.2
  match x,h.1 with
  | .val (.int .i64 n),_=>exact ⟨n::xs,rfl⟩
theorem T6:∀ l:List Int,po (l.map iv)=some (l.map (Value.int .i64))
 | []=>rfl
 | x::l=>by simp[po,T6 l]
theorem Jj:∀ (a b:List Int),eqL (a.map (Value.int .i64)) (b.map (Value.int .i64))=decide (a=b)
 | [],[]=>rfl
 | [],_::_=>by simp[eqL]
 | _::_,[]=>by simp[eqL]
 | x::a,y::b=>by
  simp only[List.map_cons,eqL,eq1,Jj a b,List.cons.injEq,Bool.decide_and]
  rfl
theorem ZQ:∀ (a:List Int),sW (List.replicate a.length (.i .i64)) (a.map (Value.int .i64))=true
 | []=>rfl
 | x::a=>by simp[List.replicate_succ,sW,Kd.fit,ZQ a]
theorem QQ {P:Program} {op:BinOp} {t:TypeId} {ox oy:Operand} {xs ys:Array Value} (hg:P.eqGuardType P.depth t=false):zt P (eqGuard op t ox oy (.agg xs) (.agg ys))=some ():=by
 have e:zt P program=some P:=rfl
 unfold eqGuard
 cases op<;>simp[zU,e,hg,zX]
section
variable {P:Program} {t n:Nat} {ox oy:Operand} {a b:List AV} {K:AV→Option zg→Prop} {σ:Nat→Option zg}
theorem ep (hk:kds P Op.maxDepth t=some (List.replicate n (.i .i64))) (hg:P.eqGuardType P.depth t=false) (hA:agT P t=true)
  (ha:cC n a=true) (hb:cC n b=true):yj P .eql t ox oy [.agg a,.agg b] K=K (bv (decide (YP a=YP b))) none:=by
 simp only[cC,Bool.and_eq_true,decide_eq_true_eq] at ha hb
 obtain ⟨xs,rfl⟩:=Ns ha.2
 obtain ⟨ys,rfl⟩:=Ns hb.2
 simp only[List.length_map] at ha hb
 have e:=nM Op.maxDepth t _ (xs.map (Value.int .i64)) (ys.map (Value.int .i64)) hk (by rw[← ha.1]; exact ZQ xs) (by rw[← hb.1]; exact ZQ ys)
 simp only[valOf,hA,if_true] at e
 have e2:zt P (Op.equal t (.agg (xs.map (Value.int .i64)).toArray) (.agg (ys.map (Value.int .i64)).toArray))=some (decide (xs=ys)):=by rw[← Jj]; exact e
 have e1:binOp .eql t (.agg (xs.map (Value.int .i64)).toArray) (.agg (ys.map (Value.int .i64)).toArray)=(do pure (.bool (← Op.equal t (.agg (xs.map (Value.int .i64)).toArray) (.agg (ys.map (Value.int .i64)).toArray)))):=rfl
 simp only[yj,toV,T6,Option.map_some,zU,QQ hg,e1,e2,Option.bind_some,zX,xf,ofV,xC,Uq]
theorem lb {x y:Bool} (hu:P.underlying t=some .bool):yj P .eql t ox oy [bv x,bv y] K=K (bv (x == y)) none:=by
 have e1:binOp .eql t (.bool x) (.bool y)=(do pure (.bool (← Op.equal t (.bool x) (.bool y)))):=rfl
 have e2:zt P (eqGuard .eql t ox oy (.bool x) (.bool y))=some ():=rfl
 have e3:zt P (Op.equal t (.bool x) (.bool y))=some (x == y):=by
  have e4:∀ d:Nat,zt P (Op.equalIn (d+1) t (.bool x) (.bool y))=some (x == y):=fun d=>by
   simp only[Op.equalIn,zU,yO,hu,Option.bind_some,zX]
  exact e4 9999
 simp only[yj,toV,zU,e1,e2,e3,Option.bind_some,zX,xf,ofV,xC]
theorem wV {x y:Bool} (hu:P.underlying t=some .bool):yj P .neq t ox oy [bv x,bv y] K=K (bv (!(x == y))) none:=by
 have e1:binOp .neq t (.bool x) (.bool y)=(do pure (.bool (!(← Op.equal t (.bool x) (.bool y))))):=rfl
 have e2:zt P (eqGuard .neq t ox oy (.bool x) (.bool y))=some ():=rfl
 have e3:zt P (Op.equal t (.bool x) (.bool y))=some (x == y):=by
  have e4:∀ d:Nat,zt P (Op.equalIn (d+1) t (.bool x) (.bool y))=some (x == y):=fun d=>by
   simp only[Op.equalIn,zU,yO,hu,Option.bind_some,zX]
  exact e4 9999
 simp only[yj,toV,zU,e1,e2,e3,Option.bind_some,zX,xf,ofV,xC]
theorem zb {f:FuncId} {xs args:List AV} {r:AV} (h:ze P f args r) (hs:yY (vM σ) xs=some args) (hp:xs.any fH=false∨pf r=true) (hk:K r none):wK P f σ xs K:=by
 unfold wK
 rw[hs]
 refine ⟨r,h,fun hr=>?_,hk⟩
 rcases hp with hp | hp
 ·rw[hp] at hr; cases hr
 ·exact hp
end
theorem Lc {k k':AV→Option zg→Prop} (hk:∀ x e,k x e→k' x e):∀ {x:Option Value},xf x k→xf x k'
 | some _,h=>hk _ _ h
 | none,h=>h
theorem nL {k k':AV→Option zg→Prop} (hk:∀ x e,k x e→k' x e):∀ {x:Option AV},xY x k→xY x k'
 | some _,h=>hk _ _ h
 | none,h=>h
theorem Qi {n lo hi mx xs} {k k':Nat→Nat→Bool→Prop} (hk:∀ x e f,k x e f→k' x e f):uf n lo hi mx xs k→uf n lo hi mx xs k':=by
 unfold uf
 repeat' split
 all_goals grind
theorem B9 {P:Program} {op t ox oy xs} {k k':AV→Option zg→Prop} (hk:∀ x e,k x e→k' x e):yj P op t ox oy xs k→yj P op t ox oy xs k':=by
 match xs with
 | []=>exact id
 | [_]=>exact id
 | [x,y] =>
  simp only[yj]
  cases toV x<;>cases toV y<;>first | exact nL hk | exact Lc hk
 | _::_::_::_=>exact id
theorem Ce {σ n xs} {k k':AV→Option zg→Prop} (hk:∀ x e,k x e→k' x e):ff σ n xs k→ff σ n xs k':=by
 unfold ff
 split
 ·split
  ·exact nL hk
  ·exact id
 ·split
  ·refine fun ⟨a,b⟩=>⟨a,?_⟩
   revert b
   split
   ·exact nL hk
   ·exact id
  ·exact id
 ·exact nL hk
 ·split
  ·refine fun ⟨a,b⟩=>⟨a,?_⟩
   revert b
   split
   ·exact nL hk
   ·exact id
  ·exact id
 ·exact id
theorem Cd {str x} {k k':AV→Option zg→Prop} (hk:∀ x e,k x e→k' x e):fe str k x→fe str k' x:=by
 unfold fe
 split<;>first | exact id | exact fun ⟨a,b⟩=>⟨a,hk _ _ b⟩
theorem QO {P:Program} {f σ xs} {k k':AV→Option zg→Prop} (hk:∀ x e,k x e→k' x e):wK P f σ xs k→wK P f σ xs k':=by
 unfold wK
 cases yY (vM σ) xs with
 | none=>exact id
 | some args=>exact fun ⟨r,h1,h2,h3⟩=>⟨r,h1,h2,hk _ _ h3⟩
theorem Jf {P:Program} {t ok σ xs} {k k':AV→Option zg→Prop} (hk:∀ x e,k x e→k' x e):rc P t ok σ xs k→rc P t ok σ xs k':=by
 unfold rc
 repeat' split
 all_goals first | exact id | exact hk _ _
theorem YF {P:Program} {d op xs σ} {k k':AV→Option zg→Prop} (hk:∀ x e,k x e→k' x e):zO P d op xs σ k→zO P d op xs σ k':=by
 unfold zO
 repeat' split
 all_goals first
  | exact id
  | exact hk _ _
  | exact Lc hk
  | exact nL hk
  | exact B9 hk
  | exact Ce hk
  | exact Jf hk
  | exact QO hk
  | (unfold kS; repeat' split<;>first | exact id | grind)
  | (unfold vS; repeat' split<;>first | exact id | grind)
  | (unfold eMk; repeat' split<;>first | exact id | grind)
  | (unfold gw; split<;>first | exact id | exact Cd hk)
  | (unfold mS; repeat' split<;>first | exact id | exact fun ⟨h1,h2⟩=>⟨h1,Qi (fun _ _ _=>hk _ _) h2⟩)
  | exact Qi (fun _ _ _ h=>⟨h.1,hk _ _ h.2⟩)
  | exact fun ⟨a,b⟩=>⟨a,QO hk b⟩
  | exact fun ⟨a,b⟩=>⟨a,hk _ _ b⟩
  | exact fun ⟨a,b,c⟩=>⟨a,b,hk _ _ c⟩
  | exact fun ⟨a,b,c⟩=>⟨a,b,nL hk c⟩
  | exact fun ⟨a,b⟩=>⟨fun h=>hk _ _ (a h),fun h=>hk _ _ (b h)⟩
  | skip
theorem dI {σ sz x} {k k':List (List AV)→Prop} (hk:∀ x,k x→k' x):xn σ sz x k→xn σ sz x k':=by
 unfold xn
 repeat' split
 all_goals grind
theorem FG {n s dst xs} {K K':St→Prop} (hk:∀ s,K s→K' s):jE n s dst xs K→jE n s dst xs K':=by
 unfold jE
 repeat' split
 all_goals grind
theorem Jc {n b s dst xs} {K K':St→Prop} (hk:∀ s,K s→K' s):xb n b s dst K xs→xb n b s dst K' xs:=by
 unfold xb
 split
 ·refine dI fun rows h=>⟨h.1,h.2.1,h.2.2.1,?_⟩
  have:=h.2.2.2
  revert this
  repeat' split
  all_goals grind
 ·refine fun ⟨h1,h⟩=>⟨h1,?_⟩
  revert h
  split
  ·exact fun h=>⟨h.1,hk _ h.2⟩
  ·exact id
 ·exact id
theorem Cb {n s dst xs} {K K':St→Prop} (hk:∀ s,K s→K' s):YD n s dst K xs→YD n s dst K' xs:=by
 unfold YD
 split
 ·refine fun ⟨a,a2,b⟩=>⟨a,a2,?_⟩
  unfold ZM at b ⊢
  revert b
  split
  ·exact id
  ·refine dI fun rows h=>?_
   revert h
   split<;>grind
 ·exact id
theorem Xv {σ sz x} {k k':List (List AV)→Prop} (hk:∀ x,k x→k' x):wY σ sz x k→wY σ sz x k':=by
 unfold wY
 split
 ·split
  ·exact fun ⟨a,b,c,d⟩=>⟨a,b,c,hk _ d⟩
  ·exact fun ⟨_,h⟩=>h.elim
 ·exact fun ⟨a,b⟩=>⟨a,hk _ b⟩
 ·exact dI hk
theorem LG {n b s dst xs} {K K':St→Prop} (hk:∀ s,K s→K' s):tI n b s dst K xs→tI n b s dst K' xs:=by
 unfold tI
 split
 ·refine Xv fun rows h=>⟨h.1,h.2.1,h.2.2.1,?_⟩
  have:=h.2.2.2
  revert this
  split
  ·exact fun ⟨a,b,c⟩=>⟨a,b,hk _ c⟩
  ·exact id
 ·refine Xv fun rows h=>⟨h.1,h.2.1,h.2.2.1,?_⟩
  have:=h.2.2.2
  revert this
  split
  ·exact fun ⟨a,b,c,d,e⟩=>⟨a,b,c,d,hk _ e⟩
  ·exact id
 ·exact id
theorem Nf {n b z ps s dst xs} {K K':St→Prop} (hk:∀ s,K s→K' s):kT n b z ps s dst K xs→kT n b z ps s dst K' xs:=by
 unfold kT
 split
 ·exact fun ⟨a,b,c,d⟩=>⟨a,b,c,hk _ d⟩
 ·exact id
theorem Jh {P t s dst xs} {K K':St→Prop} (hk:∀ s,K s→K' s):qx P t s dst K xs→qx P t s dst K' xs:=by
 unfold qx
 repeat' split
 all_goals first | exact id | exact fun ⟨a,b⟩=>⟨a,hk _ b⟩
theorem Qa {P f args s} {K K':AV→St→Prop} (hk:∀ r s,K r s→K' r s) (h:yw P f args s K):yw P f args s K' :=
 fun F a w I β lam hI vs hs hR=>(h F a w I β lam hI vs hs hR).mono fun _e _w' ⟨v,he,r,s',I',β',lam',hK,h⟩=>⟨v,he,r,s',I',β',lam',hk _ _ hK,h⟩
theorem Sw {P f xs s dst} {K K':St→Prop} (hk:∀ s,K s→K' s):py P f xs s dst K→py P f xs s dst K' :=
 Qa fun _ _ h=>⟨h.1,hk _ h.2⟩
theorem KB {P o s} {K K':St→Prop} (hk:∀ s,K s→K' s):x9 P o s K→x9 P o s K':=by
 have hop:yS P o s K→yS P o s K':=by
  unfold yS
  split
  ·unfold Uh
   split
   ·exact YF fun _ _ h=>⟨h.1,h.2.1,hk _ h.2.2⟩
   ·exact id
  ·have hc:∀ {op:AOp} {xs:List AV},Uh P op s o.dst K xs→Uh P op s o.dst K' xs:=by
    unfold Uh
    split
    ·exact YF fun _ _ h=>⟨h.1,h.2.1,hk _ h.2.2⟩
    ·exact id
   have hs:YE s o.dst K→YE s o.dst K':=by
    unfold YE
    split
    ·exact fun h=>⟨h.1,h.2.1,hk _ h.2.2⟩
    ·exact id
   split
   ·exact fun h=>⟨fun e=>hc (h.1 e),fun e=>hs (h.2 e)⟩
   ·exact hs
   ·exact id
  ·exact fun ⟨a,b⟩=>⟨a,hk _ b⟩
  ·exact FG hk
  ·exact Jc hk
  ·exact Cb hk
  ·exact LG hk
  ·exact Nf hk
  ·exact Jh hk
  ·unfold bY
   split
   ·split
    ·exact fun ⟨a,b⟩=>⟨fun h=>⟨hk _ (a h).1,hk _ (a h).2⟩,fun h=>hk _ (b h)⟩
    ·exact id
   ·exact id
  ·exact fun ⟨a,b⟩=>⟨a,Sw hk b⟩
  ·split
   ·exact fun ⟨a,b⟩=>⟨a,Sw hk b⟩
   ·exact id
  ·exact fun ⟨a,b,c⟩=>⟨a,b,fun D=>Qa (fun _ _ ⟨A,h1,h2,h3,h4⟩=>⟨A,h1,h2,h3,hk _ h4⟩) (c D)⟩
  ·exact YF fun _ _=>hk _
 unfold x9
 repeat' split
 ·exact hop
 ·exact fun ⟨a,b⟩=>⟨fun h=>hop (a h),fun h=>hk _ (b h)⟩
 ·exact hk _
 ·exact id
theorem Sh {P}:∀ {os s} {K K':St→Prop},(∀ s,K s→K' s)→zm P os s K→zm P os s K'
 | [],_,_,_,hk,h=>hk _ h
 | _::_,_,_,_,hk,h=>KB (fun _=>Sh hk) h
theorem Un:∀ {ks s} {K K':St→Prop},(∀ s,K s→K' s)→pD ks s K→pD ks s K'
 | [],_,_,_,hk,h=>hk _ h
 | k::ks,s,K,K',hk,h=>by
  simp only[pD,pC] at h ⊢
  split at h
  ·exact ⟨h.1,Un hk h.2⟩
  ·exact h
theorem vA {P}:∀ {c s} {K K':Exit→St→Prop},(∀ e s,K e s→K' e s)→awp P c s K→awp P c s K'
 | .skip,_,_,_,hk,h=>hk _ _ h
 | .region ..,_,_,_,hk,h=>Un (fun _=>Sh fun _ h=>by
   unfold TC at h ⊢
   exact ⟨h.1,hk _ _ h.2⟩) h
 | .seq a b,s,K,K',hk,h=>by
  simp only[awp] at h ⊢
  refine vA (fun e s h=>?_) h
  cases e<;>first | exact vA hk h | exact hk _ _ h
 | .cond c a b,s,K,K',hk,h=>by
  simp only[awp] at h ⊢
  split at h
  ·exact ⟨fun e=>vA hk (h.1 e),fun e=>vA hk (h.2 e)⟩
  ·exact h
 | .block i b,s,K,K',hk,h=>by
  simp only[awp] at h ⊢
  refine vA (fun e s h=>?_) h
  cases e<;>simp only[Qh] at h ⊢<;>grind
 | .loop b,s,K,K',hk,⟨J,n,s0,hi,h0,h⟩=>⟨J,n,s0,hi,h0,fun n s hj=>vA (fun e s h=>by
   cases e<;>simp only[afb] at h ⊢<;>grind) (h n s hj)⟩
 | .goto _,_,_,_,hk,h=>hk _ _ h
 | .again l b,s,K,K',hk,⟨J,n,s0,hi,h0,h⟩=>⟨J,n,s0,hi,h0,fun n s hj=>vA (fun e s h=>by
   cases e<;>simp only[By] at h ⊢<;>grind) (h n s hj)⟩
 | .exit i,_,_,_,hk,h=>hk _ _ h
 | .ret,_,_,_,hk,h=>hk _ _ h
section
variable {P:Program} {s:St} {K:Exit→St→Prop} {KS:St→Prop} {os:List zi} {d:Nat}
def mmA (P:Program) (b:Builtin) (ts:Array TypeId) (t:TypeId) (xs:List AV):Option AV :=
 match po xs with
 | some vs=>(zt P (if b=.max then Builtin.max_ ts t vs.toArray else Builtin.min_ ts t vs.toArray)).map ofV
 | none=>none
theorem aiW {b:Builtin} {ts:Array TypeId} {t:TypeId} {xs:List Opd}:zm P (⟨some d,.mm b ts t,xs,none⟩::os) s KS=lS (mmA P b ts t (xs.map (ev s))) P os s d KS:=by
 show zO P (s.base+d) (.mm b ts t) (xs.map (ev s)) (lk s.sto) (xZ P os s (some d) KS)=_
 simp only[zO,mmA]
 cases po (xs.map (ev s)) with
 | none=>rfl
 | some vs=>simp only[Gf]
theorem agk {ts:Array TypeId} {t:TypeId} {x y:Int}:mmA P .max ts t [iv x,iv y]=some (iv (max x y)):=by
 simp only[mmA,po,Builtin.max_,Option.map_some,if_true,List.foldlM,zU]
 simp only[Builtin.max2,zX,Option.bind_some,Option.map_some,ofV,xC]
 by_cases h:y > x
 ·rw[if_pos h,Int.max_eq_right (by omega)]
 ·rw[if_neg h,Int.max_eq_left (by omega)]
theorem agl {ts:Array TypeId} {t:TypeId} {x y:Int}:mmA P .min ts t [iv x,iv y]=some (iv (min x y)):=by
 have e:(Go.Builtin.min=Go.Builtin.max)=False:=by simp
 simp only[mmA,po,Builtin.min_,Option.map_some,e,if_false,List.foldlM,zU]
 simp only[Builtin.min2,zX,Option.bind_some,Option.map_some,ofV,xC]
 by_cases h:y<x
 ·rw[if_pos h,Int.min_eq_right (by omega)]
 ·rw[if_neg h,Int.min_eq_left (by omega)]
def aI (st:Nat→St) (k:Nat) (K:Exit→St→Prop):Exit→St→Prop
 | .normal,s=>s=st k
 | e,s=>K e s
def uK (K:Exit→St→Prop):Exit→St→Prop
 | .normal,_=>False
 | e,s=>K e s
theorem GY {st:Nat→St} {k:Nat}:aI st k K .normal s=(s=st k):=rfl
theorem Bi {st:Nat→St} {k j:Nat}:aI st k K (.exit j) s=K (.exit j) s:=rfl
theorem abn {st:Nat→St} {k:Nat}:aI st k K .ret s=K .ret s:=rfl
theorem Cs {j:Nat}:uK K (.exit j) s=K (.exit j) s:=rfl
theorem AK:uK K .ret s=K .ret s:=rfl
theorem JK:uK K .normal s=False:=rfl
theorem yo {a:zd} (st:Nat→St) (N:Nat) (h0:s=st 0) (h1:∀ k,k<N→awp P a (st k) (aI st (k+1) K)) (h2:awp P a (st N) (uK K)):awp P (.loop a) s K:=by
 refine ⟨fun n s=>∃ k,k≤N∧n=N-k∧s=st k,N,s,St.imp.refl,⟨0,by omega,by omega,h0⟩,?_⟩
 rintro n s ⟨k,hk,rfl,rfl⟩
 by_cases h:k<N
 ·refine vA (fun e s hs=>?_) (h1 k h)
  cases e with
  | normal=>exact ⟨N-(k+1),s,by omega,St.imp.refl,k+1,by omega,rfl,hs⟩
  | _=>exact hs
 ·obtain rfl:k=N:=by omega
  refine vA (fun e s hs=>?_) h2
  cases e with
  | normal=>exact hs.elim
  | _=>exact hs
theorem Bj {st:Nat→St} {k j:Nat}:aI st k K (.goto j) s=K (.goto j) s:=rfl
theorem Ct {j:Nat}:uK K (.goto j) s=K (.goto j) s:=rfl
def lY {α:Type} (m:List (Nat × α)):List (Nat × α)→Prop
 | []=>True
 | (t,x)::l=>lk m t=some x∧lY m l
theorem Mp {α:Type} {m l:List (Nat × α)} (h:lY m l) {t:Nat} {x:α} (hx:lk l t=some x):lk m t=some x:=by
 induction l with
 | nil=>simp[lk] at hx
 | cons p l ih =>
  obtain ⟨u,y⟩:=p
  obtain ⟨h1,h2⟩:=h
  simp only[lk] at hx
  split at hx
  ·rename_i e; cases hx; rw[← e]; exact h1
  ·exact ih h2 hx
theorem ahp {α:Type} {m l:List (Nat × α)} (h:lY m l) (h':lY l m):lk l=lk m:=by
 funext t
 cases h1:lk l t with
 | some x=>exact (Mp h h1).symm
 | none =>
  cases h2:lk m t with
  | none=>rfl
  | some y=>rw[Mp h' h2] at h1; cases h1
def Zg (s s':St):Prop:=lY s.env s'.env∧(s'.sto=s.sto∨lk s'.sto=lk s.sto∨(lY s.sto s'.sto∧lY s'.sto s.sto))∧s'.out=s.out
theorem St.imp_of {s s':St} (h:Zg s s'):St.imp s s':=by
 obtain ⟨h1,h2,h3⟩:=h
 rintro F a w ⟨I,β,lam,hI⟩
 have e:lk s'.sto=lk s.sto:=by
  rcases h2 with h2 | h2 | h2
  ·rw[h2]
  ·exact h2
  ·exact ahp h2.1 h2.2
 refine ⟨I,β,lam,{hI with env:=fun t x hx=>hI.env t x ?_,sto:=by rw[e]; exact hI.sto,usto:=by rw[e]; exact hI.usto,bdom:=by rw[e]; exact hI.bdom}⟩
 obtain ⟨d,t⟩:=t
 cases d with
 | zero=>exact Mp h1 hx
 | succ d =>
  simp only[St.look] at hx ⊢
  rw[← h3]; exact hx
theorem aeL {α:Type} {m:List (Nat × α)}:lY m []=True:=rfl
theorem abt {α:Type} {m l:List (Nat × α)} {t:Nat} {x:α}:lY m ((t,x)::l)=(lk m t=some x∧lY m l):=rfl
theorem agb {e e':List (Nat × AV)} {σ σ':List (Nat × zg)} {o o':List (List (Nat × AV))} {b b':Nat}:Zg ⟨e,σ,o,b⟩ ⟨e',σ',o',b'⟩=(lY e e'∧(σ'=σ∨lk σ'=lk σ∨(lY σ σ'∧lY σ' σ))∧o'=o):=rfl
def stepW (st:Nat→St) (I:Nat→Prop) (k:Nat) (K:Exit→St→Prop):Exit→St→Prop
 | .normal,s=>Zg s (st k)∧I k
 | e,s=>K e s
theorem U5 {st:Nat→St} {I:Nat→Prop} {k:Nat}:stepW st I k K .normal s=(Zg s (st k)∧I k):=rfl
theorem Bk {st:Nat→St} {I:Nat→Prop} {k j:Nat}:stepW st I k K (.exit j) s=K (.exit j) s:=rfl
theorem abo {st:Nat→St} {I:Nat→Prop} {k:Nat}:stepW st I k K .ret s=K .ret s:=rfl
theorem Bl {st:Nat→St} {I:Nat→Prop} {k j:Nat}:stepW st I k K (.goto j) s=K (.goto j) s:=rfl
theorem zw {a:zd} (st:Nat→St) (I:Nat→Prop) (N:Nat) (h0:Zg s (st 0)) (i0:I 0) (h1:∀ k,k<N→I k→awp P a (st k) (stepW st I (k+1) K)) (h2:I N→awp P a (st N) (uK K)) :
  awp P (.loop a) s K:=by
 refine ⟨fun n s=>∃ k,k≤N∧n=N-k∧s=st k∧I k,N,st 0,St.imp_of h0,⟨0,by omega,by omega,rfl,i0⟩,?_⟩
 rintro n s ⟨k,hk,rfl,rfl,hi⟩
 by_cases h:k<N
 ·refine vA (fun e s hs=>?_) (h1 k h hi)
  cases e with
  | normal=>exact ⟨N-(k+1),st (k+1),by omega,St.imp_of hs.1,k+1,by omega,rfl,rfl,hs.2⟩
  | _=>exact hs
 ·obtain rfl:k=N:=by omega
  refine vA (fun e s hs=>?_) (h2 hi)
  cases e with
  | normal=>exact hs.elim
  | _=>exact hs
end
def yq (sz d:Nat) (rows:List (List AV)):AV:=.list (if rows=[] then 0 else sz) (if rows=[] then .full else .own d) rows
abbrev Zi (sz:Nat) (rows:List (List AV)):AV:=.list (if rows=[] then 0 else sz) (if rows=[] then .full else .plain) rows
theorem mr {sz d:Nat} {rows:List (List AV)}:strip (yq sz d rows)=Zi sz rows:=by
 unfold yq Zi
 split<;>rfl
theorem DF {sz d:Nat} {rows:List (List AV)}:rf (yq sz d rows)=true:=rfl
theorem SL {sz d k:Nat} {rows:List (List AV)}:zV k (yq sz d rows)=false:=by simp[yq,zV]
theorem Ad {sz d:Nat} {rows:List (List AV)} {K:AV→Option zg→Prop}:gw false [yq sz d rows] K=K (.val (.int .i64 rows.length)) none:=by simp[yq,gw]
theorem nr {sz d:Nat}:yq sz d []=.list 0 .full []:=rfl
theorem Lw {sz d:Nat} {rows:List (List AV)} {σ:Nat→Option zg}:vM σ (yq sz d rows)=some (Zi sz rows):=by
 rw[← mr (d:=d)]; rfl
theorem ail {l:Nat} {v:Value}:dg l (.val v)=.val v:=rfl
theorem aij {l:Nat} {v:List AV}:dg l (.agg v)=.agg v:=rfl
theorem ajU {l:Nat} {v:List AV}:dg l (.ro v)=.ro v:=rfl
theorem aik {l k o:Nat}:dg l (.ptr k o)=.ptr k o:=rfl
theorem acn {l sz:Nat} {r:List (List AV)}:dg l (.list sz .plain r)=.list sz .plain r:=rfl
theorem afN {l sz:Nat} {r:List (List AV)}:dg l (.list sz .full r)=.list sz .full r:=rfl
theorem ajV {l k sz off n:Nat}:dg l (.sl k sz off n)=.sl k sz off n:=rfl
theorem ajX {l k sz off n:Nat}:dg l (.us k sz off n)=if k=l then .undef else .us k sz off n:=rfl
theorem ajW {l k sz i off:Nat}:dg l (.up k sz i off)=if k=l then .undef else .up k sz i off:=rfl
theorem acp {l:Nat}:dg l .undef=.undef:=rfl
theorem afM {l k sz i o:Nat}:dg l (.eptr k sz i o)=.eptr k sz i o:=rfl
theorem acm {l:Nat} {t:TypeId} {x:AV}:dg l (.iface t x)=.iface t x:=rfl
theorem ajT {l:Nat} {f:Fn} {caps:List AV}:dg l (.fn f caps)=if caps.any (gW l)=true then .undef else .fn f caps:=rfl
theorem aco {l:Nat} {caps:List AV}:dg l (.tuple caps)=if caps.any (gW l)=true then .undef else .tuple caps:=rfl
theorem afL {l sz d:Nat} {rows:List (List AV)} (h:d≠l):dg l (yq sz d rows)=yq sz d rows:=by
 by_cases e:rows=[]
 ·simp[yq,e,dg]
 ·simp[yq,e,dg,h]
theorem vF {sz by_ d l:Nat} {s:St} {KS:St→Prop} {rows:List (List AV)} {m:Mode} {x:List AV} {xs:List (List AV)} (h0:0<sz) (h1:s.base+d=l) :
  xb sz by_ s (some d) KS [yq sz l rows,.list sz m (x::xs)] =
   ((rows.length+(xs.length+1))*by_≤140737488355328∧rows.length+(xs.length+1)≤9223372036854775807∧lk s.sto l=none∧KS ((s.dg l).put (some d) (yq sz l (rows++x::xs)))):=by
 subst h1
 unfold yq
 by_cases h:rows=[]
 ·subst h
  simp[xb,xn,h0,St.put]
 ·simp[xb,xn,h0,h,St.put]
theorem XG {sz by_ d l sz':Nat} {s:St} {KS:St→Prop} {rows xs:List (List AV)} {m:Mode} (h0:0<sz) (hx:xs=[]∨sz'=sz) (h1:lk s.sto (s.base+d)=none) (h2:lk s.sto l=none)
  (hb:(rows.length+xs.length)*by_≤140737488355328) (hb2:rows.length+xs.length≤9223372036854775807)
  (hK:∀ t,t=l∨t=s.base+d→KS ((s.dg t).put (some d) (.list sz (.own t) (rows++xs)))):xb sz by_ s (some d) KS [yq sz l rows,.list sz' m xs]:=by
 by_cases hr:rows=[]
 ·subst hr
  exact ⟨hx,h0,hb,hb2,.inl rfl,h1,hK _ (.inr rfl)⟩
 ·simp only[yq,hr,if_false]
  exact ⟨hx,h0,hb,hb2,rfl,h2,hK _ (.inl rfl)⟩
theorem FM {l:List Int} {off n:Nat} (h:l.length=n) (h0:off=0):zK (l.map iv) off (some n)=some (.agg (l.map iv)):=by
 subst h0
 exact MW h
def stm:Mode→Mode
 | .own _=>.plain
 | m=>m
theorem mu {sz:Nat} {m:Mode} {rows:List (List AV)}:strip (.list sz m rows)=.list sz (stm m) rows:=by cases m<;>rfl
theorem abp:stm .plain=.plain:=rfl
theorem aeF:stm .full=.full:=rfl
theorem ahk {l:Nat}:stm (.own l)=.plain:=rfl
theorem rD {cells:List AV} {n:Nat} (h:cells.length=n) (h2:cells.all rf=true):zK cells 0 (some n)=some (.agg (cells.map strip)):=by
 simp only[zK,List.drop_zero]
 rw[List.take_of_length_le (by omega),if_pos ⟨by omega,h2⟩]
theorem ahl {m:Mode}:stm (stm m)=stm m:=by cases m<;>rfl
theorem afO {l sz:Nat} {m:Mode} {r:List (List AV)} (h:stm m=m):dg l (.list sz m r)=.list sz m r:=by
 cases m with
 | own k=>cases h
 | _=>rfl
theorem adX {s:St} {d:Nat} {x:AV}:s.put (some d) x=⟨pt s.env d x,s.sto,s.out,s.base⟩:=rfl
attribute [simp] Bj Ct aeL abt agb U5 Bk abo Bl
attribute [simp] aiW agk agl GY Bi abn JK Cs AK Uq QX YP cC mr DF SL Ad nr Lw ail aij ajU aik acn afN ajV afL ajX ajW acp afM acm ajT aco gW vF adX xH r9 St.dg dgE Bf Be mu abp aeF ahk ahl afO fH gP pf pf1 Cr FM rD
abbrev XE:=Option (AV × Option zg)
def Ka (n:Nat) (lo hi mx:Bool) (xs:List AV):Option (Nat × Nat × Bool) :=
 match lo,hi,mx,xs with
 | false,false,false,[]=>some (0,n,false)
 | true,false,false,[.val (.int _ l)]=>if 0≤l∧l≤n then some (l.toNat,n,false) else none
 | false,true,false,[.val (.int _ h)]=>if 0≤h∧h≤n then some (0,h.toNat,false) else none
 | true,true,false,[.val (.int _ l),.val (.int _ h)]=>if 0≤l∧l≤h∧h≤n then some (l.toNat,h.toNat,false) else none
 | false,true,true,[.val (.int _ h),.val (.int _ m)]=>if 0≤h∧h=m∧m≤n then some (0,h.toNat,true) else none
 | true,true,true,[.val (.int _ l),.val (.int _ h),.val (.int _ m)]=>if 0≤l∧l≤h∧h=m∧m≤n then some (l.toNat,h.toNat,true) else none
 | _,_,_,_=>none
def Fm:Option Value→XE
 | some v=>some (ofV v,none)
 | none=>none
def avX:Option AV→XE
 | some v=>some (v,none)
 | none=>none
def alZ (P:Program) (op:BinOp) (t:TypeId) (ox oy:Operand):List AV→XE
 | [x,y]=>match toV x,toV y with
  | some a,some b=>Fm (zt P (do eqGuard op t ox oy a b; binOp op t a b))
  | _,_=>none
 | _=>none
def akg (σ:Nat→Option zg) (n:Option Nat):List AV→XE
 | [.ptr j off]=>match σ j with
  | some (.var cells)=>avX (zK cells off n)
  | _=>none
 | [.eptr j sz i off]=>match σ j with
  | some (.arr sz' rows)=>if sz'=sz then (match rows[i]? with
   | some r=>avX (zK r off n)
   | none=>none) else none
  | _=>none
 | [.ro cells]=>avX (zK cells 0 n)
 | [.up l sz i off]=>match σ l with
  | some (.uarr sz' rows)=>if sz'=sz then (match rows[i]? with
   | some r=>avX (zK r off n)
   | none=>none) else none
  | _=>none
 | _=>none
def af9 (len esz:Nat):List AV→XE
 | [.ptr j off,.val (.int _ i)]=>if 0≤i∧i<len then some (.ptr j (off+i.toNat * esz),none) else none
 | [.eptr j sz r off,.val (.int _ i)]=>if 0≤i∧i<len then some (.eptr j sz r (off+i.toNat * esz),none) else none
 | [.ro cells,.val (.int _ i)]=>if 0≤i∧i<len then some (.ro (cells.drop (i.toNat * esz)),none) else none
 | [.up j sz r off,.val (.int _ i)]=>if 0≤i∧i<len then some (.up j sz r (off+i.toNat * esz),none) else none
 | _=>none
def aga (sz:Nat):List AV→XE
 | [.list sz' _ rows,.val (.int _ i)]=>if 0≤i∧i<rows.length∧sz'=sz then (match rows[i.toNat]? with
   | some r=>some (.ro r,none)
   | none=>none) else none
 | [.sl j sz' off len,.val (.int _ i)]=>if 0≤i∧i<len∧sz'=sz then some (.eptr j sz (off+i.toNat) 0,none) else none
 | [.us j sz' off len,.val (.int _ i)]=>if 0≤i∧i<len∧sz'=sz then some (.up j sz (off+i.toNat) 0,none) else none
 | [.lit sz' rows,.val (.int _ i)]=>if wE rows=true∧0≤i∧i<(zZ rows).length∧sz'=sz then (match (zZ rows)[i.toNat]? with
   | some r=>some (.ro r,none)
   | none=>none) else none
 | _=>none
def ajh (sz:Nat) (lo hi mx:Bool):List AV→XE
 | .list sz' _ rows::xs=>if rows.isEmpty=true∨sz'=sz then (match Ka rows.length lo hi mx xs with
   | some (l,h,f)=>some (.list sz' (if f=true then .full else .plain) ((rows.take h).drop l),none)
   | none=>none) else none
 | .sl j sz' off len::xs=>if sz'=sz then (match Ka len lo hi mx xs with
   | some (l,h,_)=>some (.sl j sz (off+l) (h-l),none)
   | none=>none) else none
 | .us j sz' off len::xs=>if sz'=sz then (match Ka len lo hi mx xs with
   | some (l,h,_)=>some (.us j sz (off+l) (h-l),none)
   | none=>none) else none
 | _=>none
def mkX (sz bytes:Nat) (zero:List AV) (d:Nat) (σ:Nat→Option zg):List AV→XE
 | [.val (.int _ l),.val (.int _ c)] =>
  if l=c∧0≤l∧l*bytes≤140737488355328∧l≤9223372036854775807∧zero.length=sz∧0<sz∧(σ d).isNone=true then
   some (.sl d sz 0 l.toNat,some (.arr sz (List.replicate l.toNat zero))) else none
 | _=>none
def amn (str:Bool):List AV→XE
 | [.list _ _ rows]=>if str=false then some (.val (.int .i64 rows.length),none) else none
 | [.sl _ _ _ len]=>if str=false then some (.val (.int .i64 len),none) else none
 | [.us _ _ _ len]=>if str=false then some (.val (.int .i64 len),none) else none
 | [.lit _ rows]=>if str=false then some (.val (.int .i64 rows.length),none) else none
 | [.val (.string s)]=>if str=true then some (.val (.int .i64 s.size),none) else none
 | _=>none
def QF (call:FuncId→List AV→Option AV) (f:FuncId) (σ:Nat→Option zg) (xs:List AV):XE :=
 match yY (vM σ) xs with
 | some args=>match call f args with
  | some r=>if xs.any fH=false∨pf r=true then some (r,none) else none
  | none=>none
 | none=>none
def agf (P:Program) (t:TypeId) (ok:Bool) (σ:Nat→Option zg):List AV→XE
 | [.mp j,y]=>match σ j,toV y with
  | some (.map es _),some kv=>match findM P t kv es with
   | some (v,b)=>some (if ok=true then .tuple [ofV v,.val (.bool b)] else ofV v,none)
   | none=>none
  | _,_=>none
 | _=>none
def ae7 (P:Program) (call:FuncId→List AV→Option AV) (d:Nat) (op:AOp) (xs:List AV) (σ:Nat→Option zg):XE :=
 match op with
 | .mov=>match xs with
  | [x]=>some (x,none)
  | _=>none
 | .pick=>match xs with
  | [.val (.bool t),a,b]=>some (cond t a b,none)
  | _=>none
 | .alloc cells=>if (σ d).isNone=true then some (.ptr d 0,some (.var cells)) else none
 | .box=>match xs with
  | [x]=>match cellsOf x with
   | some cs=>if (σ d).isNone=true then some (.ptr d 0,some (.var cs)) else none
   | none=>none
  | _=>none
 | .build zero places=>avX (orR (r9 zero places xs) (q7 zero places xs))
 | .mkslice sz n zero places=>match xH sz (List.replicate n zero) places xs,vK sz (List.replicate n zero) places xs with
  | some rows,_=>if zero.length=sz∧0<sz then some (.list sz .full rows,none) else none
  | none,some rows=>if zero.length=sz∧0<sz then some (.lit sz rows,none) else none
  | none,none=>none
 | .load n=>akg σ n xs
 | .nilChk=>match xs with
  | [.ptr j off]=>some (.ptr j off,none)
  | [.eptr j sz i off]=>some (.eptr j sz i off,none)
  | [.up j sz i off]=>some (.up j sz i off,none)
  | [.ro cells]=>some (.ro cells,none)
  | [.fn f caps]=>some (.fn f caps,none)
  | _=>none
 | .bin op t ox oy=>alZ P op t ox oy xs
 | .un op=>match xs with
  | [.val v]=>Fm (zt P (Op.unary op v))
  | _=>none
 | .conv s d'=>match xs with
  | [.val v]=>Fm (zt P (convert s d' v))
  | _=>none
 | .idxV t=>match xs with
  | [x,.val i]=>match toV x with
   | some a=>Fm (zt P (Instr.index t a i))
   | none=>none
  | _=>none
 | .sliceV _ lo hi mx=>match xs with
  | .val (.string s)::ys=>match Ka s.size lo hi mx ys with
   | some (l,h,_)=>if mx=false then some (.val (.string (s.extract l h)),none) else none
   | none=>none
  | _=>none
 | .mm b ts t=>match po xs with
  | some vs=>Fm (zt P (if b=.max then Builtin.max_ ts t vs.toArray else Builtin.min_ ts t vs.toArray))
  | none=>none
 | .field off n=>match xs with
  | [.agg cells]=>avX (tB cells off n)
  | [.raw cells]=>avX (zK cells off n)
  | _=>none
 | .faddr off=>match xs with
  | [.ptr j o]=>some (.ptr j (o+off),none)
  | [.eptr j sz i o]=>some (.eptr j sz i (o+off),none)
  | [.up j sz i o]=>some (.up j sz i (o+off),none)
  | [.ro cells]=>some (.ro (cells.drop off),none)
  | _=>none
 | .iaddrA len esz=>af9 len esz xs
 | .iaddrS sz=>aga sz xs
 | .idxA len esz n=>match xs with
  | [.agg cells,.val (.int _ i)]=>if 0≤i∧i<len then avX (tB cells (i.toNat * esz) n) else none
  | _=>none
 | .slice sz lo hi mx=>ajh sz lo hi mx xs
 | .mk sz bytes zero=>mkX sz bytes zero d σ xs
 | .len s=>amn s xs
 | .extract i=>match xs with
  | [.tuple vs]=>avX vs[i]?
  | _=>none
 | .mkfn f=>some (.fn (.func f) (xs.map strip),none)
 | .mkb f=>some (.fn (.via 0 #[] f false) (xs.map strip),none)
 | .call f=>QF call f σ xs
 | .callv=>match xs with
  | .fn (.func f) caps::ys=>if yv P f=true then QF call f σ (ys++caps) else none
  | .fn (.via _ _ f _) rs::ys=>if yv P f=true then QF call f σ (rs++ys) else none
  | _=>none
 | .mksliceL sz n zero places=>match vK sz (List.replicate n zero) places xs with
  | some rows=>if zero.length=sz∧0<sz then some (.lit sz rows,none) else none
  | none=>none
 | .mkmap=>if (σ d).isNone=true then some (.mp d,some (.map #[] 0)) else none
 | .lookup t ok=>agf P t ok σ xs
 | .mkif t=>match xs with
  | [x]=>if rf x=true then some (.iface t (strip x),none) else none
  | _=>none
 | .callm name=>match xs with
  | .iface t x::ys=>match uN P t name with
   | some f=>if yv P f=true then QF call f σ (x::ys) else none
   | none=>none
  | _=>none
 | _=>none
def ajm (n:Nat) (s:St) (dst:Option Nat):List AV→Option St
 | [.ptr j off,x]=>match lk s.sto j,cellsOf x with
  | some (.var cells),some cs=>if cs.length=n∧off+n≤cells.length∧dst.isNone=true then some {s with sto:=pt s.sto j (.var (splice cells off cs))} else none
  | _,_=>none
 | [.eptr j sz i off,x]=>match lk s.sto j,cellsOf x with
  | some (.arr sz' rows),some cs=>if sz'=sz∧cs.length=n∧off+n≤sz∧i<rows.length∧cs.all rf=true∧dst.isNone=true then
    (match rows[i]? with
    | some r=>some {s with sto:=pt s.sto j (.arr sz (rows.set i (splice r off (cs.map strip))))}
    | none=>none) else none
  | _,_=>none
 | [.up l sz i off,x]=>match lk s.sto l,cellsOf x with
  | some (.uarr sz' rows),some cs=>if sz'=sz∧cs.length=n∧off+n≤sz∧dst.isNone=true then
    (match rows[i]? with
    | some r=>some {s with sto:=pt s.sto l (.uarr sz (rows.set i (splice r off cs)))}
    | none=>none) else none
  | _,_=>none
 | _=>none
def SZ (σ:Nat→Option zg) (sz:Nat):AV→Option (List (List AV))
 | .list sz' _ rows=>if rows.isEmpty=true∨sz'=sz then some rows else none
 | .sl j sz' off len=>if sz'=sz then (match σ j with
   | some (.arr sz'' rows)=>if sz''=sz∧off+len≤rows.length then some ((rows.drop off).take len) else none
   | _=>none) else none
 | .us j sz' off len=>if sz'=sz then (match σ j with
   | some (.uarr sz'' rows)=>if sz''=sz∧off+len≤rows.length∧wE ((rows.drop off).take len)=true then some (zZ ((rows.drop off).take len)) else none
   | _=>none) else none
 | .val (.string b)=>if sz=1 then some (b.data.toList.map fun x=>[.val (.int .u8 x.toNat)]) else none
 | .lit sz' rows=>if sz'=sz∧wE rows=true then some (zZ rows) else none
 | _=>none
def MF (σ:Nat→Option zg) (sz:Nat):AV→Option (List (List AV))
 | .us j sz' off len=>if sz'=sz then (match σ j with
   | some (.uarr sz'' rows)=>if sz''=sz∧off+len≤rows.length then some ((rows.drop off).take len) else none
   | _=>none) else none
 | .lit sz' rows=>if sz'=sz then some rows else none
 | x=>SZ σ sz x
def abX (sz bytes:Nat) (s:St) (dst:Option Nat):List AV→Option St
 | [.list _ .full rows1,x]=>match MF (lk s.sto) sz x with
  | some rows2=>if 0<sz∧(rows1.length+rows2.length)*bytes≤140737488355328∧rows1.length+rows2.length≤9223372036854775807 then
    (match dst with
    | some d=>if rows1.isEmpty=true∧(lk s.sto (s.base+d)).isNone=true then
      some (((s.dg (s.base+d)).put (some d) (.us (s.base+d) sz 0 rows2.length)).new (some d) (some (.uarr sz (yN (s.base+d) rows2)))) else none
    | none=>none) else none
  | none=>none
 | [.us l sz1 off len,x]=>match MF (lk s.sto) sz x with
  | some rows2=>if 0<sz∧(len+rows2.length)*bytes≤140737488355328∧len+rows2.length≤9223372036854775807 then
    (match lk s.sto l,dst with
    | some (.uarr sz' rows1),some d=>if sz'=sz∧sz1=sz∧off=0∧len=rows1.length then
      some ({(s.dg l) with sto:=pt (s.dg l).sto l (.uarr sz (yN l (rows1++rows2)))}.put (some d) (.us l sz 0 (len+rows2.length))) else none
    | _,_=>none) else none
  | none=>none
 | _=>none
def A1 (sz n:Nat) (zero:List AV) (places:List Nat) (s:St) (dst:Option Nat) (xs:List AV):Option St :=
 match vK sz (List.replicate n zero) places xs,dst with
 | some rows,some d=>if zero.length=sz∧0<sz∧(lk s.sto (s.base+d)).isNone=true then
   some (((s.dg (s.base+d)).put (some d) (.us (s.base+d) sz 0 n)).new (some d) (some (.uarr sz (yN (s.base+d) rows)))) else none
 | _,_=>none
abbrev CI:=FuncId→List AV→St→Option (AV × St)
def BL (P:Program) (ci:CI) (f:FuncId) (xs:List AV) (s:St) (dst:Option Nat):Option St :=
 if yv P f=true then (match ci f xs s with
  | some (r,s')=>if s'.base=s.base then some (s'.put dst r) else none
  | none=>none) else none
def afr (sz bytes:Nat) (s:St) (dst:Option Nat):List AV→Option St
 | [.list sz1 m rows1,x]=>match SZ (lk s.sto) sz x with
  | some rows2=>if 0<sz∧(rows1.length+rows2.length)*bytes≤140737488355328∧rows1.length+rows2.length≤9223372036854775807 then
    (match m,dst with
    | .full,some d=>if (rows1.isEmpty=true∨sz1=sz)∧(lk s.sto (s.base+d)).isNone=true then some ((s.dg (s.base+d)).put (some d) (.list sz (.own (s.base+d)) (rows1++rows2))) else none
    | .own l,some d=>if sz1=sz∧(lk s.sto l).isNone=true then some ((s.dg l).put (some d) (.list sz (.own l) (rows1++rows2))) else none
    | _,_=>none) else none
  | none=>none
 | _=>none
def afG (σ:Nat→Option zg) (sz:Nat):AV→Option (List (List AV))
 | .val _=>none
 | x=>SZ σ sz x
def ajR (sz:Nat) (s:St) (dst:Option Nat):List AV→Option St
 | [.sl j sz1 off len,x]=>if sz1=sz∧0<sz then (match afG (lk s.sto) sz x with
  | some rows2=>match lk s.sto j with
   | some (.arr sz' rows)=>if sz'=sz∧off+len≤rows.length∧rows2.length≤len then
     some (({s with sto:=pt s.sto j (.arr sz (rows.take off++rows2++rows.drop (off+rows2.length)))}).put dst (.val (.int .i64 (rows2.length:Nat)))) else none
   | _=>none
  | none=>none) else none
 | _=>none
section
variable {P:Program} {call:FuncId→List AV→Option AV} {ci:CI} {K:St→Prop} {s s':St} {xs:List AV} {dst:Option Nat}
def vEq:Value→Value→Bool
 | .bool a,.bool b=>a == b
 | .int k a,.int k' b=>decide (k=k')&&decide (a=b)
 | .string a,.string b=>decide (a=b)
 | .pointer none,.pointer none=>true
 | .slice none a b,.slice none c d=>decide (a=c)&&decide (b=d)
 | _,_=>false
def mEq:Mode→Mode→Bool
 | .plain,.plain=>true
 | .full,.full=>true
 | .own a,.own b=>decide (a=b)
 | _,_=>false
def fEq:Fn→Fn→Bool
 | .func a,.func b=>decide (a=b)
 | _,_=>false
mutual
def abY:AV→AV→Bool
 | .undef,y=>match y with
  | .undef=>true
  | _=>false
 | .val a,y=>match y with
  | .val b=>vEq a b
  | _=>false
 | .agg a,y=>match y with
  | .agg b=>bD a b
  | _=>false
 | .tuple a,y=>match y with
  | .tuple b=>bD a b
  | _=>false
 | .list n m r,y=>match y with
  | .list n' m' r'=>decide (n=n')&&(mEq m m'&&L7 r r')
  | _=>false
 | .ro a,y=>match y with
  | .ro b=>bD a b
  | _=>false
 | .ptr a b,y=>match y with
  | .ptr c d=>decide (a=c)&&decide (b=d)
  | _=>false
 | .eptr a b c d,y=>match y with
  | .eptr a' b' c' d'=>decide (a=a')&&decide (b=b')&&decide (c=c')&&decide (d=d')
  | _=>false
 | .sl a b c d,y=>match y with
  | .sl a' b' c' d'=>decide (a=a')&&decide (b=b')&&decide (c=c')&&decide (d=d')
  | _=>false
 | .us a b c d,y=>match y with
  | .us a' b' c' d'=>decide (a=a')&&decide (b=b')&&decide (c=c')&&decide (d=d')
  | _=>false
 | .up a b c d,y=>match y with
  | .up a' b' c' d'=>decide (a=a')&&decide (b=b')&&decide (c=c')&&decide (d=d')
  | _=>false
 | .fn f c,y=>match y with
  | .fn f' c'=>fEq f f'&&bD c c'
  | _=>false
 | .iface t x,y=>match y with
  | .iface t' x'=>decide (t=t')&&abY x x'
  | _=>false
 | .mp a,y=>match y with
  | .mp b=>decide (a=b)
  | _=>false
 | .lit n r,y=>match y with
  | .lit n' r'=>decide (n=n')&&L7 r r'
  | _=>false
 | .raw a,y=>match y with
  | .raw b=>bD a b
  | _=>false
def bD:List AV→List AV→Bool
 | [],y=>match y with
  | []=>true
  | _=>false
 | x::l,y=>match y with
  | z::m=>abY x z&&bD l m
  | _=>false
def L7:List (List AV)→List (List AV)→Bool
 | [],y=>match y with
  | []=>true
  | _=>false
 | x::l,y=>match y with
  | z::m=>bD x z&&L7 l m
  | _=>false
end
def al5:Option zg→Option zg→Bool
 | none,none=>true
 | some (.var a),some (.var b)=>bD a b
 | some (.arr n a),some (.arr m b)=>decide (n=m)&&L7 a b
 | some (.map a n),some (.map b m)=>a.isEmpty&&b.isEmpty&&decide (n=m)
 | _,_=>false
def al0 (P:Program) (call:FuncId→List AV→Option AV) (op:AOp) (s:St) (dst:Option Nat) (xs:List AV):Option St :=
 match dst with
 | some d=>match ae7 P call (s.base+d) op xs (lk (del [s.base+d] s.sto)),lk s.env d with
  | some (x,e),some y=>if abY y x&&al5 (lk s.sto (s.base+d)) e then some s else none
  | _,_=>none
 | none=>none
def Ax (σ:List (Nat × zg)) (base:Nat):List Nat→Bool
 | []=>true
 | d::ds=>(lk σ (base+d)).isNone&&Ax σ base ds
def ajk (ds:List Nat) (s:St):Option St:=if Ax s.sto s.base ds=true then some {s with env:=del ds s.env} else none
def agj (P:Program) (t:TypeId) (s:St) (dst:Option Nat):List AV→Option St
 | [.mp j,y,x]=>match lk s.sto j,toV y,toV x with
  | some (.map es clock),some kv,some v=>match setM P t kv v es clock with
   | some (es',clock')=>if dst.isNone=true then some {s with sto:=pt s.sto j (.map es' clock')} else none
   | none=>none
  | _,_,_=>none
 | _=>none
def execOp (P:Program) (call:FuncId→List AV→Option AV) (ci:CI) (dst:Option Nat) (op:AOp) (xs:List AV) (s:St):Option St :=
 match op with
 | .store n=>ajm n s dst xs
 | .append sz b=>afr sz b s dst xs
 | .copy sz=>ajR sz s dst xs
 | .appendU sz b=>abX sz b s dst xs
 | .mksliceU sz n z ps=>A1 sz n z ps s dst xs
 | .callI f=>BL P ci f xs s dst
 | .mapset t=>agj P t s dst xs
 | .chk op=>al0 P call op s dst xs
 | .start ds=>ajk ds s
 | .callvI=>match xs with
  | .fn (.func f) caps::ys=>BL P ci f (ys++caps) s dst
  | _=>none
 | .nilS neg=>match xs with
  | [x]=>match J3 x with
   | some (_+1)=>some (s.put dst (.val (.bool neg)))
   | _=>none
  | _=>none
 | .callM _ _=>none
 | .chkG _ _ _=>none
 | op=>match ae7 P call (s.base+dst.getD 0) op xs (lk s.sto) with
  | some (x,e)=>some ((s.put dst x).new dst e)
  | none=>none
end
abbrev alW:=FuncId→Option (zd × List zo × Nat)
def Qc (P:Program) (tbl:alW):Prop:=∀ f ac ras N,tbl f=some (ac,ras,N)→zj P f=some (bare ac,ras,N)
theorem Qc.nil {P:Program}:Qc P (lk []):=fun _ _ _ _ h=>by cases h
theorem Qc.cons {P:Program} {f:FuncId} {ac:zd} {ras:List zo} {N:Nat} {l:List (Nat × (zd × List zo × Nat))} (h:zj P f=some (bare ac,ras,N)) (hl:Qc P (lk l)) :
  Qc P (lk ((f,(ac,ras,N))::l)):=fun g a r n hg=>by
 simp only[lk] at hg
 split at hg
 ·rename_i e; subst e; cases hg; exact h
 ·exact hl _ _ _ _ hg
@[simp] theorem ams {b:Bool}:ofV (.bool b)=.val (.bool b):=rfl
@[simp] theorem agz {k:IntKind} {n:Int}:ofV (.int k n)=.val (.int k n):=rfl
@[simp] theorem akB {s:ByteArray}:ofV (.string s)=.val (.string s):=rfl
@[congr] theorem ajG {P:Program} {f:FuncId} {σ:Nat→Option zg} {xs xs':List AV} {k:AV→Option zg→Prop} (h:Unit→xs=xs'):wK P f σ xs k=wK P f σ xs' k:=by rw[h ()]
@[congr] theorem ah1 {P:Program} {os:List zi} {s s':St} {K:St→Prop} (h:Unit→s=s'):zm P os s K=zm P os s' K:=by rw[h ()]
@[simp] theorem amY {c:Prop} [Decidable c]:stm (if c then Mode.full else Mode.plain)=if c then Mode.full else Mode.plain:=by split<;>rfl
def Cc (len esz:Nat) (n:Option Nat) (x y:AV) (k:AV→Option zg→Prop):Prop :=
 match x,y with
 | .agg cells,.val (.int _ i)=>0≤i∧i<len∧xY (tB cells (i.toNat * esz) n) k
 | _,_=>False
@[simp] theorem alr {len esz:Nat} {n:Option Nat} {cells:List AV} {ik:IntKind} {i:Int} {k:AV→Option zg→Prop} :
  Cc len esz n (.agg cells) (.val (.int ik i)) k=(0≤i∧i<len∧xY (tB cells (i.toNat * esz) n) k):=rfl
@[simp] theorem amu {P:Program} {s:St} {KS:St→Prop} {os:List zi} {d:Nat} {len esz:Nat} {n:Option Nat} {x y:Opd} :
  zm P (⟨some d,.idxA len esz n,[x,y],none⟩::os) s KS=Cc len esz n (ev s x) (ev s y) (xZ P os s (some d) KS):=by
 show zO P (s.base+d) (.idxA len esz n) [ev s x,ev s y] (lk s.sto) (xZ P os s (some d) KS)=_
 simp only[zO,Cc]
 cases ev s x<;>try rfl
 cases ev s y<;>try rfl
 rename_i v
 cases v<;>rfl
@[simp] theorem akU {cells:List AV} {off:Nat}:tB cells off none=cells[off]?:=rfl
open Go.ChangeShapes Go.WideShapes
inductive Ty where
 | bool
 | int (k:IntKind)
 | str
 | slice (e:Ty)
 | arr (n:Nat) (e:Ty)
 | st (fs:List Ty)
mutual
def Ty.sz:Ty→Nat
 | .bool=>1
 | .int _=>1
 | .str=>1
 | .slice _=>1
 | .arr n e=>n*e.sz
 | .st fs=>Ty.szs fs
def Ty.szs:List Ty→Nat
 | []=>0
 | t::ts=>t.sz+Ty.szs ts
end
def gy (P:Program) (f:TypeId→Option Ty):Nat→List Field→Option (List Ty)
 | _,[]=>some []
 | off,g::gs=>match f g.type with
  | some τ=>if g.offset=off∧P.cellsOf g.type=τ.sz then (gy P f (off+τ.sz) gs).map (τ::·) else none
  | none=>none
def bh (P:Program):Nat→TypeId→Option Ty
 | 0,_=>none
 | m+1,t=>match P.underlying t with
  | some .bool=>some .bool
  | some (.int k)=>some (.int k)
  | some .string=>some .str
  | some (.slice e)=>match bh P m e with
   | some τ=>if 0<τ.sz∧P.cellsOf e=τ.sz∧0<P.bytesOf e then some (.slice τ) else none
   | none=>none
  | some (.array n e)=>match bh P m e with
   | some τ=>if P.cellsOf e=τ.sz∧P.cellsOf t=n*τ.sz then some (.arr n τ) else none
   | none=>none
  | some (.struct fs)=>match gy P (bh P m) 0 fs.toList with
   | some τs=>if P.cellsOf t=Ty.szs τs then some (.st τs) else none
   | none=>none
  | _=>none
mutual

def TyC:Ty→List AV→Prop
 | .bool,cs=>∃ b,cs=[.val (.bool b)]
 | .int k,cs=>∃ n,cs=[.val (.int k n)]∧(Lit.int k n).wf=true
 | .str,cs=>∃ s:ByteArray,cs=[.val (.string s)]∧s.size≤reachBytes
 | .slice e,cs=>∃ rows:List (List AV),cs=[.list e.sz .plain rows]∧rows.length≤reachBytes∧∀ r∈rows,TyC e r
 | .arr n e,cs=>∃ rows:List (List AV),cs=rows.flatten∧rows.length=n∧∀ r∈rows,TyC e r
 | .st fs,cs=>Kv fs cs
def Kv:List Ty→List AV→Prop
 | [],cs=>cs=[]
 | τ::τs,cs=>∃ a b,cs=a++b∧TyC τ a∧Kv τs b
end
theorem Sy {α:Type} {n:Nat}:∀ {rows:List (List α)},(∀ r∈rows,r.length=n)→rows.flatten.length=rows.length*n
 | [],_=>by simp
 | r::rows,h=>by
  simp only[List.flatten_cons,List.length_append,List.length_cons,Nat.succ_mul]
  rw[Sy (rows:=rows) (fun r hr=>h r (by simp[hr])),h r (by simp)]
  omega
mutual
theorem Tu:∀ {τ:Ty} {cs:List AV},TyC τ cs→cs.length=τ.sz
 | .bool,_,h=>by obtain ⟨b,rfl⟩:=h; rfl
 | .int _,_,h=>by obtain ⟨b,rfl,_⟩:=h; rfl
 | .str,_,h=>by obtain ⟨b,rfl,_⟩:=h; rfl
 | .slice _,_,h=>by obtain ⟨b,rfl,_⟩:=h; rfl
 | .arr n e,_,h=>by
  obtain ⟨rows,rfl,rfl,h⟩:=h
  rw[Sy (fun r hr=>Tu (h r hr))]; rfl
 | .st fs,_,h=>Kw (show Kv fs _ from h)
theorem Kw:∀ {τs:List Ty} {cs:List AV},Kv τs cs→cs.length=Ty.szs τs
 | [],_,h=>by rw[show _=[] from h]; rfl
 | τ::τs,_,h=>by
  obtain ⟨a,b,rfl,h1,h2⟩:=h
  rw[List.length_append,Tu h1,Kw h2]; rfl
end
section
variable {H:Type} {enc:TypeId × Value→H} {P:Program} {w:World}
abbrev PI (ps:List MemPlace):Nat→Nat→Prop:=fun b o=>MemPlace.cell b o∈ps
def wB (w:World) (ps:List MemPlace) (xs:List AV) (cs:List Value):Prop :=
 xs.length=cs.length∧∀ (i:Nat) x,xs[i]?=some x→R0 (PI ps) w x (cs.getD i undef)∧single (cs.getD i undef)=true
theorem wB.mono {ps qs:List MemPlace} {xs:List AV} {cs:List Value} (h:wB w ps xs cs) (hs:∀ p∈ps,p∈qs):wB w qs xs cs :=
 ⟨h.1,fun i x hx=>⟨(h.2 i x hx).1.mono (fun _ _ hp=>hs _ hp) (fun _ _ _ _ h=>h),(h.2 i x hx).2⟩⟩
theorem wB.append {ps:List MemPlace} {xs ys:List AV} {cs ds:List Value} (h:wB w ps xs cs) (k:wB w ps ys ds):wB w ps (xs++ys) (cs++ds):=by
 refine ⟨by simp[h.1,k.1],fun i x hx=>?_⟩
 by_cases hi:i<xs.length
 ·rw[List.getElem?_append_left hi] at hx
  have:(cs++ds).getD i undef=cs.getD i undef:=by simp only[List.getD]; rw[List.getElem?_append_left (by rw[← h.1]; exact hi)]
  rw[this]; exact h.2 i x hx
 ·rw[List.getElem?_append_right (by omega)] at hx
  have:(cs++ds).getD i undef=ds.getD (i-xs.length) undef:=by simp only[List.getD]; rw[List.getElem?_append_right (by rw[← h.1]; omega),h.1]
  rw[this]; exact k.2 _ x hx
theorem wB.one {ps:List MemPlace} {x:AV} {v:Value} (h:R0 (PI ps) w x v) (hs:single v=true):wB w ps [x] [v]:=by
 refine ⟨rfl,fun i y hy=>?_⟩
 cases i with
 | zero=>simp at hy; subst hy; exact ⟨h,hs⟩
 | succ i=>simp at hy
theorem wB.nil {ps:List MemPlace}:wB w ps [] []:=⟨rfl,fun i x h=>by simp at h⟩
theorem PG {ps:List MemPlace} {n:Nat}:∀ {rows:List (List AV)} {cs:List Value},cs.length=rows.length*n →
  (∀ i r,rows[i]?=some r→wB w ps r ((cs.drop (i*n)).take n))→wB w ps rows.flatten cs
 | [],cs,hl,_=>by
  have:cs=[]:=List.eq_nil_of_length_eq_zero (by simpa using hl)
  subst this
  exact wB.nil
 | r::rows,cs,hl,h=>by
  simp only[List.length_cons,Nat.succ_mul] at hl
  have h0:=h 0 r rfl
  simp only[Nat.zero_mul,List.drop_zero] at h0
  have ih:=PG (ps:=ps) (n:=n) (rows:=rows) (cs:=cs.drop n) (by simp; omega) (fun i q hq=>by
   have:=h (i+1) q (by simpa using hq)
   rw[List.drop_drop]
   rwa [Nat.succ_mul,Nat.add_comm] at this)
  have:=h0.append ih
  rwa [List.take_append_drop] at this
theorem S5 {base:Nat} {a:Addr} {n:Nat} {cs:List Value} (h:w.cells? base a n=some cs):cs.length=n∧∀ i,i<n→w.cell? (a.add i)=cs[i]?:=by
 unfold World.cells? at h
 split at h
 ·refine ⟨by simpa using mapM_some_length h,fun i hi=>mapM_some_get h i i (by simp[hi])⟩
 ·cases h
abbrev gX (P:Program) (t:TypeId) (d:DataW H):Prop:=(d.weights P t).all (·≤reachBytes)=true
theorem UT {P:Program} {e:TypeId}:∀ {ds:List (DataW H)},(DataW.weightsAll P e ds).all (·≤reachBytes)=true→∀ d∈ds,gX P e d
 | [],_,_,h=>by cases h
 | d::ds,h,q,hq=>by
  simp only[DataW.weightsAll,List.all_append,Bool.and_eq_true] at h
  rcases List.mem_cons.1 hq with rfl | hq
  ·exact h.1
  ·exact UT h.2 q hq
theorem Xb {P:Program}:∀ {ts:List TypeId} {ds:List (DataW H)},(DataW.weightsEach P ts ds).all (·≤reachBytes)=true→∀ (i:Nat) t d,ts[i]?=some t→ds[i]?=some d→gX P t d
 | [],_,_,i,t,d,h1,_=>by simp at h1
 | t::ts,[],_,i,_,_,_,h2=>by simp at h2
 | t::ts,d::ds,h,i,t',d',h1,h2=>by
  simp only[DataW.weightsEach,List.all_append,Bool.and_eq_true] at h
  cases i with
  | zero=>simp at h1 h2; subst h1; subst h2; exact h.1
  | succ i=>simp at h1 h2; exact Xb h.2 i _ _ h1 h2
theorem Zd {α β:Type} {Q:Nat→α→β→Prop}:∀ {l:List α} (k:Nat),(∀ i a,l[i]?=some a→∃ b,Q (k+i) a b)→∃ m:List β,m.length=l.length∧∀ i a b,l[i]?=some a→m[i]?=some b→Q (k+i) a b
 | [],_,_=>⟨[],rfl,fun i a b h=>by simp at h⟩
 | a::l,k,h=>by
  obtain ⟨b,hb⟩:=h 0 a rfl
  obtain ⟨m,h1,h2⟩:=Zd (l:=l) (k+1) (fun i a ha=>by
   have:=h (i+1) a (by simpa using ha)
   rwa [show k+1+i=k+(i+1) by omega])
  refine ⟨b::m,by simp[h1],fun i a' b' ha hb'=>?_⟩
  cases i with
  | zero=>simp at ha hb'; subst ha; subst hb'; exact hb
  | succ i =>
   simp at ha hb'
   have:=h2 i a' b' ha hb'
   rwa [show k+1+i=k+(i+1) by omega] at this
theorem U4 {ps:List MemPlace} {n:Nat} {f:TypeId→Option Ty} {cs:List Value}:∀ {fs:List Field} {τs:List Ty} {off:Nat} {xs:List (DataW H × List MemPlace)},gy P f off fs=some τs→xs.length=fs.length→cs.length=off+Ty.szs τs →
  (∀ (i:Nat) (g:Field) x,fs[i]?=some g→xs[i]?=some x→(∀ p∈x.2,p∈ps)∧∀ τ,f g.type=some τ→∃ ys,TyC τ ys∧wB w x.2 ys ((cs.drop g.offset).take (P.cellsOf g.type))) →
  ∃ ys,Kv τs ys∧wB w ps ys (cs.drop off)
 | [],τs,off,xs,h,_,hl,_=>by
  simp only[gy,Option.some.injEq] at h
  subst h
  simp only[Ty.szs,Nat.add_zero] at hl
  rw[List.drop_of_length_le (by omega)]
  exact ⟨[],rfl,wB.nil⟩
 | g::fs,τs,off,xs,h,hx,hl,hf=>by
  simp only[gy] at h
  split at h
  ·rename_i τ hτ
   split at h
   ·rename_i hc
    cases hr:gy P f (off+τ.sz) fs with
    | none=>simp[hr] at h
    | some τr =>
     simp only[hr,Option.map_some,Option.some.injEq] at h
     subst h
     cases xs with
     | nil=>simp at hx
     | cons x xs =>
      simp only[Ty.szs] at hl
      obtain ⟨h1,h2⟩:=hf 0 g x rfl rfl
      obtain ⟨ys,hy1,hy2⟩:=h2 τ hτ
      obtain ⟨zs,hz1,hz2⟩:=U4 (ps:=ps) (n:=n) hr (by simpa using hx) (by omega) (fun i g' x' hg hx'=>hf (i+1) g' x' (by simpa using hg) (by simpa using hx'))
      refine ⟨ys++zs,⟨ys,zs,rfl,hy1,hz1⟩,?_⟩
      have:=(hy2.mono h1).append hz2
      rw[hc.1,hc.2,← List.drop_drop] at this
      rwa [List.take_append_drop] at this
   ·cases h
  ·cases h
theorem Xl {held:Bool}:∀ (n m:Nat) (t:TypeId) (τ:Ty) (cs:List Value) (d:DataW H) (ps:List MemPlace),bh P m t=some τ →
  DataW.trod enc P w 0 (fun _=>true) held n t cs=some (d,ps)→gX P t d→∃ xs,TyC τ xs∧wB w ps xs cs
 | 0,_,_,_,_,_,_,_,h,_=>by simp[DataW.trod] at h
 | n+1,0,_,_,_,_,_,h,_,_=>by cases h
 | n+1,m+1,t,τ,cs,d,ps,hτ,h,hw=>by
  simp only[bh] at hτ
  split at hτ<;>rename_i hu
  ·cases hτ
   obtain ⟨b,rfl,hx⟩:=DataW.trod_bool hu h
   exact ⟨[.val (.bool b)],⟨b,rfl⟩,wB.one (.val _) rfl⟩
  ·cases hτ
   obtain ⟨k,rfl,hx,hwf⟩:=DataW.trod_int hu h
   exact ⟨[.val (.int _ k)],⟨k,rfl,hwf⟩,wB.one (.val _) rfl⟩
  ·cases hτ
   obtain ⟨s,rfl,hx,_⟩:=DataW.trod_string hu h
   simp only[Prod.mk.injEq] at hx
   obtain ⟨rfl,rfl⟩:=hx
   refine ⟨[.val (.string s)],⟨s,rfl,?_⟩,wB.one (.val _) rfl⟩
   simp[gX,DataW.weights] at hw
   exact hw
  ·rename_i e
   split at hτ
   ·rename_i σ hσ
    split at hτ
    ·rename_i hc
     cases hτ
     rcases DataW.trod_slice hu h with ⟨rfl,hx⟩ | ⟨a,len,cap,elems,rest,n',hn,rfl,hx,_,hlc,hcm,hlen,hel,_,_⟩
     ·exact ⟨[.list σ.sz .plain []],⟨[],rfl,by simp,by simp⟩,wB.one (.listNil _ _ _ _ (fun h=>by cases h) (fun _ h=>by cases h)) rfl⟩
     ·cases hn
      simp only[Prod.mk.injEq] at hx
      obtain ⟨rfl,rfl⟩:=hx
      simp only[gX,DataW.weights,hu,List.all_cons,List.all_append,Bool.and_eq_true,decide_eq_true_eq] at hw
      obtain ⟨hw1,hw2,_⟩:=hw
      have hsz:=UT hw2
      obtain ⟨rows,hr1,hr2⟩:=Zd (l:=elems) (Q:=fun i y r=>TyC σ r∧∃ c,w.cells? 0 (a.add (i*P.cellsOf e)) (P.cellsOf e)=some c∧wB w y.2 r c) 0 (fun i y hy=>by
       have hi:i<len:=by have:=(List.getElem?_eq_some_iff.1 hy).1; omega
       have:=hel i hi
       rw[hy,Option.bind_eq_some_iff] at this
       obtain ⟨c,hc1,hc2⟩:=this
       obtain ⟨xs,hx1,hx2⟩:=Xl n m e σ c y.1 y.2 hσ hc2 (hsz y.1 (List.mem_map.2 ⟨y,List.mem_of_getElem? hy,rfl⟩))
       exact ⟨xs,hx1,c,by rw[Nat.zero_add]; exact hc1,hx2⟩)
      simp only[Nat.zero_add] at hr2
      have hlr:rows.length=len:=by omega
      refine ⟨[.list σ.sz .plain rows],⟨rows,rfl,?_,fun r hr=>?_⟩,wB.one ?_ rfl⟩
      ·have h1:(elems.length+rest.length)*P.bytesOf e≤reachBytes:=by simpa using hw1
       have h2:elems.length+rest.length≤(elems.length+rest.length)*P.bytesOf e:=Nat.le_mul_of_pos_right _ hc.2.2
       omega
      ·obtain ⟨i,hi⟩:=List.mem_iff_getElem?.1 hr
       have hil:i<elems.length:=by have:=(List.getElem?_eq_some_iff.1 hi).1; omega
       exact (hr2 i elems[i] r (by simp[hil]) hi).1
      ·by_cases h0:len=0
       ·have:rows=[]:=List.eq_nil_of_length_eq_zero (by omega)
        subst this
        subst h0
        exact .listNil _ _ _ _ (fun h=>by cases h) (fun _ h=>by cases h)
       ·have get:∀ (i:Nat) (r:List AV),rows[i]?=some r→∃ y c,elems[i]?=some y∧TyC σ r∧w.cells? 0 (a.add (i*P.cellsOf e)) (P.cellsOf e)=some c∧wB w y.2 r c:=fun i r hi=>by
         have hil:i<elems.length:=by have:=(List.getElem?_eq_some_iff.1 hi).1; omega
         obtain ⟨g1,c,g2,g3⟩:=hr2 i elems[i] r (by simp[hil]) hi
         exact ⟨elems[i],c,by simp[hil],g1,g2,g3⟩
        obtain ⟨b,o,spot⟩:=a
        have hspot:spot=none:=by
         obtain ⟨y,c,g1,g2,g3,g4⟩:=get 0 rows[0] (List.getElem?_eq_getElem (by omega))
         have g5:=(S5 g3).2 0 (by omega)
         have g6:=(S5 g3).1
         rw[List.getElem?_eq_getElem (by omega)] at g5
         simpa [Addr.add] using World.cell?_spot g5
        subst hspot
        have hget:∀ (i:Nat) (r:List AV) (j:Nat) (x:AV),rows[i]?=some r→r[j]?=some x→∃ y v,elems[i]?=some y∧i<len∧j<σ.sz∧w.cell? ⟨b,o+i*σ.sz+j,none⟩=some v∧R0 (PI y.2) w x v∧single v=true:=fun i r j x hi hj=>by
         obtain ⟨y,c,g1,g2,g3,g4⟩:=get i r hi
         obtain ⟨g5,g6⟩:=S5 g3
         have hjl:j<σ.sz:=by have:=(List.getElem?_eq_some_iff.1 hj).1; have:=Tu g2; omega
         have g7:=g6 j (by omega)
         have hjc:j<c.length:=by omega
         rw[List.getElem?_eq_getElem hjc] at g7
         obtain ⟨k1,k2⟩:=g4.2 j x hj
         have:c.getD j undef=c[j]:=by simp[hjc]
         rw[this] at k1 k2
         refine ⟨y,c[j],g1,?_,hjl,?_,k1,k2⟩
         ·have:=(List.getElem?_eq_some_iff.1 hi).1; omega
         ·rw[← g7,hc.2.1,addr_add,addr_add]
        rw[← hlr]
        refine .list _ _ _ _ _ _ (fun i j=>((w.cell? ⟨b,o+i*σ.sz+j,none⟩).getD undef)) (by omega) (fun h=>by cases h) (fun _ h=>by cases h) (fun i r hi=>?_) (fun i r j x hi hj=>?_) (fun i r j x hi hj=>?_)
        ·obtain ⟨_,_,_,g2,_⟩:=get i r hi
         exact Tu g2
        ·obtain ⟨y,v,g1,gi,gj,g2,g3,g4⟩:=hget i r j x hi hj
         rw[g2]
         refine ⟨?_,rfl,g4⟩
         refine List.mem_append_left _ (MemPlace.mem_row.2 ⟨i*σ.sz+j,?_,?_⟩)
         ·rw[hc.2.1]
          have h1:i+1≤elems.length+rest.length:=by omega
          have h2:=Nat.mul_le_mul_right σ.sz h1
          rw[Nat.succ_mul] at h2
          omega
         ·simp only[MemPlace.cell.injEq,true_and]; omega
        ·obtain ⟨y,v,g1,gi,gj,g2,g3,g4⟩:=hget i r j x hi hj
         rw[g2]
         refine g3.mono (fun b' o' hp=>?_) (fun _ _ _ _ h=>h)
         exact List.mem_append_right _ (List.mem_flatMap.2 ⟨y,List.mem_append_left _ (List.mem_of_getElem? g1),hp⟩)
    ·cases hτ
   ·cases hτ
  ·rename_i k e
   split at hτ
   ·rename_i σ hσ
    split at hτ
    ·rename_i hc
     cases hτ
     obtain ⟨xs,n',hn,hx,hcl,hxl,hel⟩:=DataW.trod_array hu h
     cases hn
     simp only[Prod.mk.injEq] at hx
     obtain ⟨rfl,rfl⟩:=hx
     simp only[gX,DataW.weights,hu] at hw
     have hsz:=UT hw
     obtain ⟨rows,hr1,hr2⟩:=Zd (l:=xs) (Q:=fun i y r=>TyC σ r∧wB w y.2 r ((cs.drop (i*P.cellsOf e)).take (P.cellsOf e))) 0 (fun i y hy=>by
      have hi:i<k:=by have:=(List.getElem?_eq_some_iff.1 hy).1; omega
      have:=hel i hi
      rw[hy] at this
      rw[Nat.zero_add]
      exact Xl n m e σ _ y.1 y.2 hσ this (hsz y.1 (List.mem_map.2 ⟨y,List.mem_of_getElem? hy,rfl⟩)))
     simp only[Nat.zero_add] at hr2
     refine ⟨rows.flatten,⟨rows,rfl,by omega,fun r hr=>?_⟩,?_⟩
     ·obtain ⟨i,hi⟩:=List.mem_iff_getElem?.1 hr
      have hil:i<xs.length:=by have:=(List.getElem?_eq_some_iff.1 hi).1; omega
      exact (hr2 i xs[i] r (by simp[hil]) hi).1
     ·refine PG (n:=σ.sz) (by rw[hcl,hc.2,hr1,hxl]) (fun i r hi=>?_)
      have hil:i<xs.length:=by have:=(List.getElem?_eq_some_iff.1 hi).1; omega
      have:=(hr2 i xs[i] r (by simp[hil]) hi).2
      rw[hc.1] at this
      exact this.mono (fun p hp=>List.mem_flatMap.2 ⟨xs[i],List.getElem_mem _,hp⟩)
    ·cases hτ
   ·cases hτ
  ·rename_i fs
   split at hτ
   ·rename_i τs hσ
    split at hτ
    ·rename_i hc
     cases hτ
     obtain ⟨xs,n',hn,hx,hcl,hxl,hel⟩:=DataW.trod_struct hu h
     cases hn
     simp only[Prod.mk.injEq] at hx
     obtain ⟨rfl,rfl⟩:=hx
     simp only[gX,DataW.weights,hu] at hw
     have:=U4 (P:=P) (w:=w) (ps:=xs.flatMap (·.2)) (n:=n) (cs:=cs) hσ (by simpa using hxl) (by rw[hcl,hc]; omega) (fun i g x hg hx=>by
      have hg':fs[i]?=some g:=by simpa using hg
      have h1:=hel i g hg'
      rw[hx] at h1
      refine ⟨fun p hp=>List.mem_flatMap.2 ⟨x,List.mem_of_getElem? hx,hp⟩,fun τ hτ=>?_⟩
      exact Xl n m g.type τ _ x.1 x.2 hτ h1 (Xb hw i g.type x.1 (by simp[hg']) (by simp[hx])))
     obtain ⟨ys,h1,h2⟩:=this
     exact ⟨ys,h1,by simpa using h2⟩
    ·cases hτ
   ·cases hτ
  ·cases hτ
end
def ga:Ty→AV→Prop
 | .arr n e,x=>∃ cs,x=.agg cs∧TyC (.arr n e) cs
 | .st fs,x=>∃ cs,x=.agg cs∧TyC (.st fs) cs
 | τ,x=>TyC τ [x]
def bz:List Ty→List AV→Prop
 | [],[]=>True
 | τ::τs,x::xs=>ga τ x∧bz τs xs
 | _,_=>False
section
variable {H:Type} {enc:TypeId × Value→H} {P:Program} {W:World}
theorem Ly {ps:List MemPlace} {xs:List AV} {cs:Array Value} (h:wB W ps xs cs.toList):R0 (PI ps) W (.agg xs) (.agg cs):=by
 obtain ⟨h1,h2⟩:=h
 simp only[Array.length_toList] at h1
 have hg:∀ i,cs.toList.getD i undef=cs.getD i undef:=fun i=>by simp[List.getD,Array.getD_eq_getD_getElem?]
 refine .agg _ _ h1.symm ?_ (fun i x hx=>?_)
 ·rw[Array.all_eq_true]
  intro i hi
  obtain ⟨_,h4⟩:=h2 i xs[i] (by simp[h1,hi])
  rw[hg] at h4
  simpa [hi] using h4
 ·obtain ⟨h3,_⟩:=h2 i x hx
  rw[hg] at h3
  exact h3
theorem BD {m:Nat} {t:TypeId} {τ:Ty} {v:Value} {d:DataW H} {ps:List MemPlace} {r:Reach} {base:Nat} (hτ:bh P m t=some τ) (hok:Value.okWide P W r base t v)
  (h:DataW.Trod enc P W 0 (fun _=>true) true t v d ps) (hw:gX P t d):∃ x,ga τ x∧R0 (PI ps) W x v:=by
 obtain ⟨n,hn⟩:=h
 obtain ⟨xs,h1,h2⟩:=Xl n m t τ _ d ps hτ hn hw
 have one:v.cells=#[v]→(∃ x,xs=[x])→∃ x,TyC τ [x]∧R0 (PI ps) W x v:=by
  rintro hv ⟨x,rfl⟩
  obtain ⟨h3,_⟩:=h2.2 0 x rfl
  rw[hv] at h3
  exact ⟨x,h1,h3⟩
 cases m with
 | zero=>cases hτ
 | succ m =>
  simp only[bh] at hτ
  split at hτ<;>rename_i hu
  ·cases hτ
   obtain ⟨b,rfl⟩:=h1
   refine one ?_ ⟨_,rfl⟩
   simp only[Value.okWide,hu,Cell.okWide,Cell.ok] at hok
   cases v<;>first | rfl | exact hok.elim
  ·cases hτ
   obtain ⟨b,rfl,hb⟩:=h1
   have:=one ?_ ⟨_,rfl⟩
   ·exact this
   simp only[Value.okWide,hu,Cell.okWide,Cell.ok] at hok
   cases v<;>first | rfl | exact hok.elim
  ·cases hτ
   obtain ⟨b,rfl,hb⟩:=h1
   have:=one ?_ ⟨_,rfl⟩
   ·exact this
   simp only[Value.okWide,hu,Cell.okWide,Cell.ok] at hok
   cases v<;>first | rfl | exact hok.elim
  ·split at hτ
   ·split at hτ
    ·cases hτ
     obtain ⟨rows,rfl,hb⟩:=h1
     have:=one ?_ ⟨_,rfl⟩
     ·exact this
     simp only[Value.okWide,hu,Cell.okWide,Cell.ok] at hok
     cases v<;>first | rfl | exact hok.elim
    ·cases hτ
   ·cases hτ
  ·split at hτ
   ·split at hτ
    ·cases hτ
     simp only[Value.okWide,hu] at hok
     obtain ⟨cs,rfl,_⟩:=hok
     exact ⟨.agg xs,⟨xs,rfl,h1⟩,Ly h2⟩
    ·cases hτ
   ·cases hτ
  ·split at hτ
   ·split at hτ
    ·cases hτ
     simp only[Value.okWide,hu] at hok
     obtain ⟨cs,rfl,_⟩:=hok
     exact ⟨.agg xs,⟨xs,rfl,h1⟩,Ly h2⟩
    ·cases hτ
   ·cases hτ
  ·cases hτ
theorem Qe {m:Nat} {r:Reach} {base:Nat}:∀ {ts:List TypeId} {τs:List Ty} {vs:List Value} {ds:List (DataW H)} {ps:List MemPlace},yY (bh P m) ts=some τs →
  (∀ (j:Nat) t v,ts[j]?=some t→vs[j]?=some v→Value.okWide P W r base t v)→DataW.TrodAll enc P W 0 (fun _=>true) true ts vs ds ps →
  (∀ (j:Nat) t d,ts[j]?=some t→ds[j]?=some d→gX P t d) →
  ∃ xs,bz τs xs∧xs.length=vs.length∧ds.length=ts.length∧∀ (i:Nat) x,xs[i]?=some x→R0 (PI ps) W x (vs.getD i undef)
 | [],τs,vs,ds,ps,h,_,hA,_=>by
  simp only[yY,Option.some.injEq] at h
  subst h
  match vs,ds,hA with
  | [],[],_=>exact ⟨[],trivial,rfl,rfl,fun i x hx=>by simp at hx⟩
 | t::ts,τs,vs,ds,ps,h,hv,hA,hs=>by
  simp only[yY] at h
  split at h
  ·rename_i τ hτ
   cases hr:yY (bh P m) ts with
   | none=>simp[hr] at h
   | some σs =>
    simp only[hr,Option.map_some,Option.some.injEq] at h
    subst h
    match vs,ds,hA with
    | v::vs,d::ds,⟨p,q,h1,h2,e⟩ =>
     obtain ⟨x,a1,a2⟩:=BD hτ (hv 0 t v rfl rfl) h1 (hs 0 t d rfl rfl)
     obtain ⟨xs,b1,b2,b3,b4⟩:=Qe hr (fun j t' v' ht hv'=>hv (j+1) t' v' (by simpa using ht) (by simpa using hv')) h2 (fun j t' d' ht hd=>hs (j+1) t' d' (by simpa using ht) (by simpa using hd))
     subst e
     refine ⟨x::xs,⟨a1,b1⟩,by simp[b2],by simp[b3],fun i y hy=>?_⟩
     cases i with
     | zero =>
      simp at hy
      subst hy
      simp only[List.getD_cons_zero]
      exact a2.mono (fun _ _ hp=>List.mem_append_left _ hp) (fun _ _ _ _ h=>h)
     | succ i =>
      simp at hy
      simp only[List.getD_cons_succ]
      exact (b4 i y hy).mono (fun _ _ hp=>List.mem_append_right _ hp) (fun _ _ _ _ h=>h)
  ·cases h
theorem XM {W':World} (hl:laidOutB P=true) (hb:Below W.heap.size W W'):∀ {ts:List TypeId} {vs:List Value} {ds:List (DataW H)} {ps:List MemPlace},
  (∀ t∈ts,P.readableRec t=true∧t<P.types.size)→DataW.TrodAll enc P W 0 (fun _=>true) true ts vs ds ps→(∀ x∈ps,x.block<W.heap.size) →
  DataW.TrodAll enc P W' 0 (fun b=>decide (b<W.heap.size)) true ts vs ds ps
 | [],[],[],_,_,h,_=>h
 | t::ts,v::vs,d::ds,_,ht,⟨p,q,h1,h2,e⟩,hlt=>by
  subst e
  exact ⟨p,q,Below.trod hl (ht t (by simp)).1 (ht t (by simp)).2 h1 hb (fun x hx=>hlt x (List.mem_append_left _ hx)),
   XM hl hb (fun t h=>ht t (by simp[h])) h2 (fun x hx=>hlt x (List.mem_append_right _ hx)),rfl⟩
theorem AL {f:FuncId} {fn:Func} {s:ChangeSpec} {tb:TypeId} {τs:List Ty} (hl:laidOutB P=true) (hty:yY (bh P 20) fn.params.toList=some τs)
  (hread:(fn.params.toList.all fun t=>P.readableRec t&&decide (t<P.types.size))=true) (hres:fn.resultTypes=#[tb]) (hub:P.underlying tb=some .bool) (hvars:s.vars=[])
  (hfn:∀ ds:List (DataW H),ds.length=fn.params.toList.length→(s.fn H (ds++[])).results=[.lit (.bool true)]∧(s.fn H (ds++[])).args=ds∧(s.fn H (ds++[])).vars=[])
  (hcall:∀ xs,bz τs xs→ze P f xs (bv true)) {base:Nat} {args:Array Value} {ds gs:List (DataW H)} {before:List MemPlace}
  (hval:∀ (j:Nat) t v,fn.params[j]?=some t→args[j]?=some v→Value.okWide P W .any base t v)
  (hW:DataW.Whole enc P fn.params.toList s.vars false W args.toList ds gs before)
  (hsz:(DataW.weightsEach P (fn.params.toList++s.plain.varTypes P) (ds++gs)).all (·≤reachBytes)=true) :
  Calls P f args W fun e W'=>∃ v,e=.returned v∧s.post enc P fn false true false false W args v W':=by
 have hW':=hW
 obtain ⟨p,q,hA,hV,rfl,_,_⟩:=hW
 rw[hvars] at hV
 obtain ⟨rfl,rfl⟩:=trodVars_none hV
 have hsz':∀ (j:Nat) t d,fn.params.toList[j]?=some t→ds[j]?=some d→gX P t d:=fun j t d ht hd=>by
  refine Xb hsz j t d ?_ ?_
  ·rw[List.getElem?_append_left (List.getElem?_eq_some_iff.1 ht).1]; exact ht
  ·rw[List.getElem?_append_left (List.getElem?_eq_some_iff.1 hd).1]; exact hd
 obtain ⟨xs,h1,h2,h3,h4⟩:=Qe (r:=.any) (base:=base) hty (fun j t v ht hv=>hval j t v (by simpa using ht) (by simpa using hv)) hA hsz'
 have hlt:∀ x∈p,x.block<W.heap.size:=fun x hx=>by simpa using hW'.lt x (List.mem_append_left _ hx)
 refine (hcall xs h1 (PI p) args W (fun b o hb=>hlt _ hb) (by simp[h2]) (fun i x hx=>?_)).mono fun e W' ⟨v,he,hb,hR⟩=>?_
 ·have:=h4 i x hx
  have e:args.toList.getD i undef=args.getD i undef:=by simp[List.getD,Array.getD_eq_getD_getElem?]
  rwa [e] at this
 ·have hv:v=.bool true:=R0.val_eq hR
  subst hv
  obtain ⟨f1,f2,f3⟩:=hfn ds h3
  have hread':∀ t∈fn.params.toList,P.readableRec t=true∧t<P.types.size:=fun t ht=>by
   have:=List.all_eq_true.1 hread t ht
   simpa using this
  refine ⟨_,he,ds,[],p++[],[]++[],p,[],hW',?_,?_,?_,hb.frame _,fun h=>by cases h⟩
  ·rw[f1,hres]
   exact trodAll_mk1 (shut_bool hub _)
  ·rw[f2]; exact XM hl hb hread' hA hlt
  ·rw[f3,hvars]; rfl
end
theorem lV {α:Type} {τ:Ty} (f:α→List AV) (Q:α→Prop) (one:∀ r,TyC τ r→∃ x,r=f x∧Q x):∀ {rows:List (List AV)},(∀ r∈rows,TyC τ r)→∃ a:List α,rows=a.map f∧∀ x∈a,Q x
 | [],_=>⟨[],rfl,by simp⟩
 | r::rows,h=>by
  obtain ⟨a,rfl,h2⟩:=lV f Q one (rows:=rows) (fun r hr=>h r (by simp[hr]))
  obtain ⟨x,rfl,h3⟩:=one r (h r (by simp))
  exact ⟨x::a,rfl,by simpa using ⟨h3,h2⟩⟩
theorem Bw {a:Ty} {xs:List AV} (h:bz [a] xs):∃ x,xs=[x]∧ga a x:=by
 match xs,h with
 | [x],h=>exact ⟨x,rfl,h.1⟩
theorem Fs {a b c:Ty} {xs:List AV} (h:bz [a,b,c] xs):∃ x y z,xs=[x,y,z]∧ga a x∧ga b y∧ga c z:=by
 match xs,h with
 | [x,y,z],h=>exact ⟨x,y,z,rfl,h.1,h.2.1,h.2.2.1⟩
theorem ajM {a b c d:Ty} {xs:List AV} (h:bz [a,b,c,d] xs):∃ x y z u,xs=[x,y,z,u]∧ga a x∧ga b y∧ga c z∧ga d u:=by
 match xs,h with
 | [x,y,z,u],h=>exact ⟨x,y,z,u,rfl,h.1,h.2.1,h.2.2.1,h.2.2.2.1⟩
theorem AV.imp_nil {sz sz':Nat} {m':Mode} (hm:m'=.plain):AV.imp (.list sz .full []) (.list sz' m' []):=fun I w v h=>by
 subst hm
 cases h with
 | listNil _ _ a cap hm ho=>exact .listNil _ _ _ _ (by simp) (by simp)
 | list _ _ _ b o cap g h1 h2 h3 h4 h5 h6 =>
  exact .listNil _ _ _ _ (by simp) (by simp)
theorem AV.imp_tuple2 {x x' y:AV} (h:AV.imp x x'):AV.imp (.tuple [x,y]) (.tuple [x',y]):=fun I w v hv=>by
 cases hv with
 | tuple cells vs hs hc =>
  refine .tuple _ _ (by simpa using hs) fun i c hi=>?_
  match i,hi with
  | 0,hi=>simp at hi; subst hi; exact h _ _ _ (hc 0 x rfl)
  | 1,hi=>simp at hi; subst hi; exact hc 1 y rfl
  | i+2,hi=>simp at hi
attribute [simp] EQ
@[simp] theorem alh {σ:Nat→Option zg} {s:St}:fW σ [] s=true:=rfl
@[simp] theorem ain {sz by_ d n sz':Nat} {m:Mode} {rows:List (List AV)} {s:St} {K:St→Prop} :
  tI sz by_ s (some d) K [.list n .full [],.list sz' m rows]=((rows=[]∨sz'=sz)∧0<sz∧rows.length*by_≤140737488355328∧rows.length≤9223372036854775807∧lk s.sto (s.base+d)=none ∧
   K (((s.dg (s.base+d)).put (some d) (.us (s.base+d) sz 0 rows.length)).new (some d) (some (.uarr sz (yN (s.base+d) rows))))):=by
 simp[tI,wY,xn]
@[simp] theorem ahX {sz by_ d l sz1 off len sz':Nat} {m:Mode} {rows1 rows:List (List AV)} {s:St} {K:St→Prop} (h:lk s.sto l=some (.uarr sz rows1)) :
  tI sz by_ s (some d) K [.us l sz1 off len,.list sz' m rows]=((rows=[]∨sz'=sz)∧0<sz∧(len+rows.length)*by_≤140737488355328∧len+rows.length≤9223372036854775807∧sz1=sz∧off=0∧len=rows1.length ∧
   K ({(s.dg l) with sto:=pt (s.dg l).sto l (.uarr sz (yN l (rows1++rows)))}.put (some d) (.us l sz 0 (len+rows.length)))):=by
 simp[tI,wY,xn,h]
@[simp] theorem amo {s:St} {d:Nat} {e:zg}:s.new (some d) (some e)=⟨s.env,pt s.sto (s.base+d) e,s.out,s.base⟩:=rfl
attribute [simp] gO tup
def Zm (ras:List zo) (b:Nat) (K:AV→St→Prop):Exit→St→Prop:=fun e s'=>(e=.normal∨e=.ret)∧∃ xs e0 o0,yY (gO s') ras=some xs∧s'.out=e0::o0∧K (tup xs) {env:=e0,sto:=s'.sto,out:=o0,base:=b}
@[simp] theorem amx {ras:List zo} {b:Nat} {K:AV→St→Prop} {env e0:List (Nat × AV)} {sto:List (Nat × zg)} {o0:List (List (Nat × AV))} {B:Nat} :
  Zm ras b K .ret ⟨env,sto,e0::o0,B⟩=∃ xs,yY (gO ⟨env,sto,e0::o0,B⟩) ras=some xs∧K (tup xs) ⟨e0,sto,o0,b⟩:=by
 simp only[Zm,eq_iff_iff]
 constructor
 ·rintro ⟨_,xs,e1,o1,h1,h2,h3⟩
  cases h2
  exact ⟨xs,h1,h3⟩
 ·rintro ⟨xs,h1,h2⟩
  exact ⟨.inr trivial,xs,_,_,h1,rfl,h2⟩
@[simp] theorem ajK {ras:List zo} {b:Nat} {K:AV→St→Prop} {env e0:List (Nat × AV)} {sto:List (Nat × zg)} {o0:List (List (Nat × AV))} {B:Nat} :
  Zm ras b K .normal ⟨env,sto,e0::o0,B⟩=∃ xs,yY (gO ⟨env,sto,e0::o0,B⟩) ras=some xs∧K (tup xs) ⟨e0,sto,o0,b⟩:=by
 simp only[Zm,eq_iff_iff]
 constructor
 ·rintro ⟨_,xs,e1,o1,h1,h2,h3⟩
  cases h2
  exact ⟨xs,h1,h3⟩
 ·rintro ⟨xs,h1,h2⟩
  exact ⟨.inl trivial,xs,_,_,h1,rfl,h2⟩
theorem vT {P:Program} {f:FuncId} {ac:zd} {ras:List zo} {N:Nat} {args:List AV} {s:St} {K:AV→St→Prop} (B:Nat) (ht:zj P f=some (bare ac,ras,N)) (hn:args.length≤N)
  (h:awp P ac ⟨pa 0 args,s.sto,s.env::s.out,B⟩ (Zm ras s.base K)):yw P f args s K:=ajj B ht hn h
@[simp] theorem aio {sz by_ d sz1 sz':Nat} {m:Mode} {rows1 rows:List (List AV)} {s:St} {K:St→Prop} :
  xb sz by_ s (some d) K [.list sz1 .full rows1,.list sz' m rows]=((rows=[]∨sz'=sz)∧0<sz∧(rows1.length+rows.length)*by_≤140737488355328∧rows1.length+rows.length≤9223372036854775807 ∧
   (rows1=[]∨sz1=sz)∧lk s.sto (s.base+d)=none∧K ((s.dg (s.base+d)).put (some d) (.list sz (.own (s.base+d)) (rows1++rows)))):=by
 simp[xb,xn]
@[simp] theorem ajF {sz by_ d l sz1 sz':Nat} {m:Mode} {rows1 rows:List (List AV)} {s:St} {K:St→Prop} :
  xb sz by_ s (some d) K [.list sz1 (.own l) rows1,.list sz' m rows]=((rows=[]∨sz'=sz)∧0<sz∧(rows1.length+rows.length)*by_≤140737488355328∧rows1.length+rows.length≤9223372036854775807 ∧
   sz1=sz∧lk s.sto l=none∧K ((s.dg l).put (some d) (.list sz (.own l) (rows1++rows)))):=by
 simp[xb,xn]
@[simp] theorem am8 {l k sz:Nat} {rows:List (List AV)}:dg l (.list sz (.own k) rows)=if k=l then .list sz .plain rows else .list sz (.own k) rows:=rfl
@[simp] theorem anQ {l:Nat}:dg l∘iv=iv:=rfl
section
variable {P:Program} {t:TypeId} {ox oy:Operand} {k k':IntKind} {a b:Int} {K:AV→Option zg→Prop}
theorem sy (h:b≠0):yj P .quo t ox oy [.val (.int k a),.val (.int k b)] K=K (.val (.int k (k.wrap (a.tdiv b)))) none:=by
 simp[yj,toV,zt,eqGuard,binOp,Op.intDiv,h,xf,ofV,xC,bind,Sem.bind,pure]
theorem tJ (h:b≠0):yj P .rem t ox oy [.val (.int k a),.val (.int k b)] K=K (.val (.int k (a.tmod b))) none:=by
 simp[yj,toV,zt,eqGuard,binOp,Op.intDiv,h,xf,ofV,xC,bind,Sem.bind,pure]
def rP (op:BinOp) (k:IntKind) (a b:Int):Int :=
 match op with
 | .and=>k.wrap (BitVec.ofInt k.bits a &&& BitVec.ofInt k.bits b).toNat
 | .or=>k.wrap (BitVec.ofInt k.bits a ||| BitVec.ofInt k.bits b).toNat
 | .xor=>k.wrap (BitVec.ofInt k.bits a ^^^ BitVec.ofInt k.bits b).toNat
 | _=>k.wrap (BitVec.ofInt k.bits a &&& ~~~BitVec.ofInt k.bits b).toNat
theorem acv:yj P .and t ox oy [.val (.int k a),.val (.int k b)] K=K (.val (.int k (rP .and k a b))) none:=by
 simp[yj,toV,zt,eqGuard,binOp,Op.intBits,rP,xf,ofV,xC,bind,Sem.bind,pure]
theorem afS:yj P .or t ox oy [.val (.int k a),.val (.int k b)] K=K (.val (.int k (rP .or k a b))) none:=by
 simp[yj,toV,zt,eqGuard,binOp,Op.intBits,rP,xf,ofV,xC,bind,Sem.bind,pure]
theorem acE:yj P .xor t ox oy [.val (.int k a),.val (.int k b)] K=K (.val (.int k (rP .xor k a b))) none:=by
 simp[yj,toV,zt,eqGuard,binOp,Op.intBits,rP,xf,ofV,xC,bind,Sem.bind,pure]
theorem FD:yj P .andNot t ox oy [.val (.int k a),.val (.int k b)] K=K (.val (.int k (rP .andNot k a b))) none:=by
 simp[yj,toV,zt,eqGuard,binOp,Op.intBits,rP,xf,ofV,xC,bind,Sem.bind,pure]
theorem xr (h:¬ b<0):yj P .shl t ox oy [.val (.int k a),.val (.int k' b)] K=K (.val (.int k (k.wrap (a*2^(min b.toNat k.bits))))) none:=by
 simp[yj,toV,zt,eqGuard,binOp,Op.shift,h,xf,ofV,xC,bind,Sem.bind,pure]
theorem wZ (h:¬ b<0):yj P .shr t ox oy [.val (.int k a),.val (.int k' b)] K=K (.val (.int k (a.fdiv (2^(min b.toNat k.bits))))) none:=by
 simp[yj,toV,zt,eqGuard,binOp,Op.shift,h,xf,ofV,xC,bind,Sem.bind,pure]
theorem Db {x y:ByteArray}:(x.toList == y.toList)=decide (x=y):=by
 have:x.toList=y.toList↔x=y:=by
  constructor
  ·intro h
   have h1:x.data.toList=y.data.toList:=by simpa [ByteArray.toList_eq] using h
   cases x; cases y
   congr 1
   exact Array.ext' h1
  ·rintro rfl; rfl
 by_cases h:x=y
 ·subst h; simp
 ·have:¬ x.toList=y.toList:=fun e=>h (this.1 e)
  simp[h,this]
theorem ES {j o:Nat} (h:fJ P t=true):yj P .neq t ox oy [.ptr j o,.val (.pointer none)] K=K (bv true) none:=by
 simp[yj,toV,UG,TI,h,xY]
theorem afT {cs:List AV} (h:fJ P t=true):yj P .eql t ox oy [.ro cs,.val (.pointer none)] K=K (bv false) none:=by
 simp[yj,toV,UG,TI,h,xY]
theorem afU {cs:List AV} (h:fJ P t=true):yj P .neq t ox oy [.ro cs,.val (.pointer none)] K=K (bv true) none:=by
 simp[yj,toV,UG,TI,h,xY]
theorem Ab {x y:ByteArray}:yj P .eql t ox oy [.val (.string x),.val (.string y)] K=K (bv (decide (x=y))) none:=by
 simp only[yj,toV,eqGuard,binOp,Op.stringOp,xf,ofV,xC,bind,pure,Db]
 rfl
theorem Ac {x y:ByteArray}:yj P .neq t ox oy [.val (.string x),.val (.string y)] K=K (bv (!decide (x=y))) none:=by
 simp only[yj,toV,eqGuard,binOp,Op.stringOp,xf,ofV,xC,bind,pure,Db]
 rfl
theorem Aa {x y:ByteArray} (h:((x.size+y.size:Nat):Int)≤9223372036854775807):yj P .add t ox oy [.val (.string x),.val (.string y)] K=K (.val (.string (x++y))) none:=by
 have h2:¬ ((x.size+y.size:Nat):Int) > IntKind.i64.max:=by
  have:IntKind.i64.max=9223372036854775807:=rfl
  omega
 simp only[yj,toV,zt,eqGuard,binOp,Op.stringOp,xf,ofV,xC,bind,Sem.bind,pure,if_neg h2]
 rfl
end
section
variable {P:Program} {s:St} {KS:St→Prop} {os:List zi} {d:Nat} {k k':IntKind}
theorem BX {ta tb:TypeId} {u:TypeDesc} {n:Int} (ha:P.underlying ta=some u) (hb:P.underlying tb=some (.int k')):fc P ta tb (.val (.int k n))=some (.val (.int k' (k'.wrap n))):=by
 simp only[fc,convert,zU,yO,ha,hb,Option.bind_some]
 rfl
theorem ahO {n:Int}:unA P .neg (.val (.int k n))=some (.val (.int k (k.wrap (0-n)))):=rfl
theorem ahP {n:Int}:unA P .xor (.val (.int k n))=some (.val (.int k (rP .xor k (if k.signed then -1 else k.max) n))):=rfl
def XZ (x:ByteArray) (k:Nat):Nat:=(x.data[k]?.getD 0).toNat
def idxA (P:Program) (t:TypeId) (x:AV) (y:AV):Option AV :=
 match toV x,y with
 | some a,.val i=>(zt P (Instr.index t a i)).map ofV
 | _,_=>none
theorem adx {t:TypeId} {x y:Opd}:zm P (⟨some d,.idxV t,[x,y],none⟩::os) s KS=lS (idxA P t (ev s x) (ev s y)) P os s d KS:=by
 show zO P (s.base+d) (.idxV t) [ev s x,ev s y] (lk s.sto) (xZ P os s (some d) KS)=_
 cases hy:ev s y<;>cases hx:toV (ev s x)<;>simp only[zO,idxA,hx,lS]
 rename_i v a
 cases zt P (Instr.index t a v)<;>rfl
theorem cB {t:TypeId} (ht:P.underlying t=some .string) {xs:ByteArray} {ik:IntKind} {i:Int} (h0:0≤i) (h1:i<xs.size):idxA P t (.val (.string xs)) (.val (.int ik i))=some (.val (.int .u8 (XZ xs i.toNat))):=by
 have h2:i.toNat<xs.size:=by omega
 simp only[idxA,toV,Instr.index,asIntOf,zU,yO,ht,zX,Option.bind_some,if_pos h0]
 rw[getElem?_pos xs i.toNat h2]
 have:XZ xs i.toNat=(xs[i.toNat]'h2).toNat:=by
  unfold XZ
  rw[Array.getElem?_eq_getElem (show i.toNat<xs.data.size from h2)]
  rfl
 rw[this]
 rfl
def Ng (lo hi mx:Bool) (x:AV) (ys:List AV) (k:AV→Option zg→Prop):Prop :=
 match x with
 | .val (.string s)=>uf s.size lo hi mx ys fun l h _=>mx=false∧k (.val (.string (s.extract l h))) none
 | _=>False
theorem CG {t:TypeId} {lo hi mx:Bool} {x:Opd} {xs:List Opd}:zm P (⟨some d,.sliceV t lo hi mx,x::xs,none⟩::os) s KS=Ng lo hi mx (ev s x) (xs.map (ev s)) (xZ P os s (some d) KS):=by
 show zO P (s.base+d) (.sliceV t lo hi mx) (ev s x::xs.map (ev s)) (lk s.sto) (xZ P os s (some d) KS)=_
 simp only[zO,Ng]
 cases ev s x<;>try rfl
 rename_i v
 cases v<;>rfl
theorem FE {lo hi mx:Bool} {x:ByteArray} {ys:List AV} {k:AV→Option zg→Prop}:Ng lo hi mx (.val (.string x)) ys k=uf x.size lo hi mx ys fun l h _=>mx=false∧k (.val (.string (x.extract l h))) none:=rfl
theorem te {xs:List Opd} {x:Opd} {d:Option Nat} {n:String}:zm P (⟨d,.callm n,x::xs,none⟩::os) s KS=(match ev s x with | .iface t r=>(match uN P t n with | some f=>yv P f=true∧wK P f (lk s.sto) (r::xs.map (ev s)) (xZ P os s d KS) | none=>False) | _=>False):=by
 show zO P (s.base+d.getD 0) (.callm n) (ev s x::xs.map (ev s)) (lk s.sto) (xZ P os s d KS)=_
 simp only[zO]
 cases ev s x<;>try rfl
theorem aaj {xs:List Opd} {x:Opd} {d:Option Nat}:zm P (⟨d,.callv,x::xs,none⟩::os) s KS=(match ev s x with | .fn (.func f) caps=>yv P f=true∧wK P f (lk s.sto) (xs.map (ev s)++caps) (xZ P os s d KS) | .fn (.via _ _ f _) rs=>yv P f=true∧wK P f (lk s.sto) (rs++xs.map (ev s)) (xZ P os s d KS) | _=>False):=by
 show zO P (s.base+d.getD 0) .callv (ev s x::xs.map (ev s)) (lk s.sto) (xZ P os s d KS)=_
 simp only[zO]
 cases ev s x<;>try rfl
 rename_i f caps
 cases f<;>rfl
theorem ah7 {n:Nat} {k:Nat→Nat→Bool→Prop}:uf n false false false [] k=k 0 n false:=rfl
theorem ah6 {n:Nat} {ik:IntKind} {l:Int} {k:Nat→Nat→Bool→Prop}:uf n true false false [.val (.int ik l)] k=(0≤l∧l≤n∧k l.toNat n false):=rfl
theorem ah5 {n:Nat} {ik:IntKind} {h:Int} {k:Nat→Nat→Bool→Prop}:uf n false true false [.val (.int ik h)] k=(0≤h∧h≤n∧k 0 h.toNat false):=rfl
theorem afw {n:Nat} {ik jk:IntKind} {l h:Int} {k:Nat→Nat→Bool→Prop}:uf n true true false [.val (.int ik l),.val (.int jk h)] k=(0≤l∧l≤h∧h≤n∧k l.toNat h.toNat false):=rfl
theorem afv {n:Nat} {ik jk:IntKind} {h m:Int} {k:Nat→Nat→Bool→Prop}:uf n false true true [.val (.int ik h),.val (.int jk m)] k=(0≤h∧h=m∧m≤n∧k 0 h.toNat true):=rfl
theorem ab7 {n:Nat} {ik jk kk:IntKind} {l h m:Int} {k:Nat→Nat→Bool→Prop}:uf n true true true [.val (.int ik l),.val (.int jk h),.val (.int kk m)] k=(0≤l∧l≤h∧h=m∧m≤n∧k l.toNat h.toNat true):=rfl
theorem FF {sz sz':Nat} {lo hi mx:Bool} {m:Mode} {rows:List (List AV)} {xs:List AV} {k:AV→Option zg→Prop} :
  mS sz lo hi mx (.list sz' m rows::xs) k=((rows=[]∨sz'=sz)∧uf rows.length lo hi mx xs fun l h f=>k (.list sz' (if f=true then .full else .plain) ((rows.take h).drop l)) none):=rfl
theorem Ae {j sz sz' off len:Nat} {lo hi mx:Bool} {xs:List AV} {k:AV→Option zg→Prop} :
  mS sz lo hi mx (.sl j sz' off len::xs) k=(sz'=sz∧uf len lo hi mx xs fun l h _=>k (.sl j sz (off+l) (h-l)) none):=rfl
theorem Af {j sz sz' off len:Nat} {lo hi mx:Bool} {xs:List AV} {k:AV→Option zg→Prop} :
  mS sz lo hi mx (.us j sz' off len::xs) k=(sz'=sz∧uf len lo hi mx xs fun l h _=>k (.us j sz (off+l) (h-l)) none):=rfl
end
theorem yt {α:Type} {l:List (Nat × α)} {n:Nat} {x:α}:lk (pt l n x) n=some x:=by rw[uL,if_pos rfl]
theorem xk {α:Type} {l:List (Nat × α)} {n:Nat} {x y:α}:pt (pt l n x) n y=pt l n y:=by
 induction l with
 | nil=>simp[pt]
 | cons p l ih =>
  obtain ⟨q,z⟩:=p
  by_cases h:q=n
  ·subst h; simp[pt]
  ·simp[pt,h,ih]
section
variable {k:Nat} {e:zg}
theorem AB:frz k e .undef=.undef:=rfl
theorem af5 {v:Value}:frz k e (.val v)=.val v:=rfl
theorem af3 {c:List AV}:frz k e (.agg c)=.agg c:=rfl
theorem aiD {c:List AV}:frz k e (.ro c)=.ro c:=rfl
theorem Ay {t:TypeId} {x:AV}:frz k e (.iface t x)=.iface t x:=rfl
theorem aiC {f:Fn} {c:List AV}:frz k e (.fn f c)=.fn f c:=rfl
theorem AA {c:List AV}:frz k e (.tuple c)=.tuple c:=rfl
theorem Rg {sz:Nat} {m:Mode} {r:List (List AV)} (h:stm m=m):frz k e (.list sz m r)=.list sz m r:=by
 cases m with
 | plain=>rfl
 | full=>rfl
 | own l=>cases h
theorem Az {sz:Nat} {r:List (List AV)}:frz k e (.list sz .plain r)=.list sz .plain r:=rfl
theorem acM {sz:Nat} {r:List (List AV)}:frz k e (.list sz .full r)=.list sz .full r:=rfl
theorem af4 {j off:Nat}:frz k e (.ptr j off)=if j=k then (match e with
   | .var cells=>if (cells.drop off).all rf=true then .ro ((cells.drop off).map strip) else .undef
   | _=>.undef) else .ptr j off:=rfl
theorem acL {j sz i off:Nat}:frz k e (.eptr j sz i off)=if j=k then .undef else .eptr j sz i off:=rfl
theorem aiF {j sz i off:Nat}:frz k e (.up j sz i off)=if j=k then .undef else .up j sz i off:=rfl
theorem aiE {j sz off len:Nat}:frz k e (.sl j sz off len)=if j=k then (match e with
   | .arr sz' rows=>if sz'=sz∧off+len≤rows.length then .list sz .plain ((rows.drop off).take len) else .undef
   | _=>.undef) else .sl j sz off len:=rfl
theorem aiG {j sz off len:Nat}:frz k e (.us j sz off len)=if j=k then (match e with
   | .uarr sz' rows=>if sz'=sz∧off+len≤rows.length∧wE ((rows.drop off).take len)=true then .list sz .plain (zZ ((rows.drop off).take len)) else .undef
   | _=>.undef) else .us j sz off len:=rfl
theorem Js {x:Nat} {ks:List Nat} {s:St} {K:St→Prop}:pD (x::ks) s K=pC (s.base+x) s (fun s'=>pD ks s' K):=rfl
end
attribute [simp] yt xk
attribute [simp] AB af5 af3 aiD Ay aiC AA Az acM af4 acL aiF aiE aiG Js
attribute [simp high] SL DF mr Lw
attribute [simp] acv afS acE FD Ab Ac BX ahO ahP adx cB CG FE aaj te ah7 ah6 ah5 afw afv ab7 FF Ae Af
section
variable {P:Program} {t:Nat} {ox oy:Operand} {a b:List AV} {K:AV→Option zg→Prop}
theorem Jd {ks:List Kd} {xs ys:List Value} (hk:kds P Op.maxDepth t=some ks) (hg:P.eqGuardType P.depth t=false) (hA:agT P t=true)
  (ha:po a=some xs) (hb:po b=some ys) (fx:sW ks xs=true) (fy:sW ks ys=true):yj P .eql t ox oy [.agg a,.agg b] K=K (bv (eqL xs ys)) none:=by
 have e:=nM Op.maxDepth t _ xs ys hk fx fy
 simp only[valOf,hA,if_true] at e
 have e2:zt P (Op.equal t (.agg xs.toArray) (.agg ys.toArray))=some (eqL xs ys):=e
 have e1:binOp .eql t (.agg xs.toArray) (.agg ys.toArray)=(do pure (.bool (← Op.equal t (.agg xs.toArray) (.agg ys.toArray)))):=rfl
 simp only[yj,toV,ha,hb,Option.map_some,zU,QQ hg,e1,e2,Option.bind_some,zX,xf,ofV,xC]
end
theorem St.imp_tok {s:St} (l sz:Nat) (hl:lk s.sto l=none):St.imp s {(s.dg l) with sto:=pt (s.dg l).sto l (.uarr sz [])}:=by
 rintro F a w ⟨I,β,lam,h⟩
 have:=h.ownerU l (fun en he=>by rw[hl] at he; cases he) (ad:=none) (cap:=0) (sz:=sz) (rows:=[]) (w':=w) (Below.refl _ _) (fun _ _ _ _ h=>h) (fun _ _ _=>rfl) (fun c hc=>by omega)
  (fun _ _ _ _ _ _ _ _ _ _ _ _ _=>⟨rfl,fun _ h=>by cases h⟩) (fun lam' _ hl2=>Ku hl2)
 refine ⟨I,β,(fun l'=>if l'=l then some (none,0,0,sz) else lam l'),?_⟩
 show Inv F (St.look {(s.dg l) with sto:=pt (s.dg l).sto l (.uarr sz [])}) (lk (pt (s.dg l).sto l (.uarr sz []))) I β _ a w
 rw[wq,(p0 s l).1]
 have e:lk (pt (s.dg l).sto l (.uarr sz []))=yl (fun k=>(lk s.sto k).map (dgE l)) (some l) (some (.uarr sz [])):=by
  rw[uM,(p0 s l).2]
 rw[e]
 exact this
def St.impW (s t:St):Prop:=∀ (F:yi) (a:Act) (w:World) (I:Nat→Nat→Prop) (β:z7) (lam:ym),Inv F s.look (lk s.sto) I β lam a w→Inv F t.look (lk t.sto) I β lam a w
theorem St.impW.imp {s t:St} (h:St.impW s t):St.imp s t:=fun F a w ⟨I,β,lam,hI⟩=>⟨I,β,lam,h F a w I β lam hI⟩
theorem St.impW.refl {s:St}:St.impW s s:=fun _ _ _ _ _ _ h=>h
theorem St.impW.trans {s t u:St} (h:St.impW s t) (k:St.impW t u):St.impW s u:=fun F a w I β lam g=>k F a w I β lam (h F a w I β lam g)
theorem yw.pre {P:Program} {f:FuncId} {xs:List AV} {s t:St} {K:AV→St→Prop} (h:St.impW s t) (hc:yw P f xs t K):yw P f xs s K:=fun F a w I β lam hI=>hc F a w I β lam (h F a w I β lam hI)
theorem ajL {I I':Nat→Nat→Prop} {w:World} {β β':z7} {lam lam':ym} {v:Value} (h:R I w β lam (.tuple []) v):R I' w β' lam' (.tuple []) v:=by
 cases h with
 | base h=>cases h with | tuple _ vs hs _=>exact .base (.tuple _ vs hs fun i c hc=>by simp at hc)
 | tuple _ vs hs _ _=>exact .base (.tuple _ vs hs fun i c hc=>by simp at hc)
theorem yw.post {P:Program} {f:FuncId} {xs:List AV} {s:St} {K K':AV→St→Prop} (hc:yw P f xs s K) (h:∀ r s',K r s'→(∃ t,St.impW s' t∧K' r t)∨(r=.tuple []∧∃ t,St.imp s' t∧K' r t)):yw P f xs s K' :=
 fun F a w I β lam hI vs hn hv=>Calls.mono (hc F a w I β lam hI vs hn hv) fun e w' ⟨v,e1,r,s',I',β',lam',hK,hI',hR⟩=>by
  refine ⟨v,e1,r,?_⟩
  rcases h r s' hK with ⟨t,ht,hk⟩ | ⟨rfl,t,ht,hk⟩
  ·exact ⟨t,I',β',lam',hk,ht _ _ _ _ _ _ hI',hR⟩
  ·obtain ⟨I2,β2,lam2,h2⟩:=ht _ _ _ ⟨I',β',lam',hI'⟩
   refine ⟨t,I2,β2,lam2,hk,h2,?_⟩
   exact ajL hR
def ws (M:Nat):AV→Bool
 | .ptr k _=>decide (k<M)
 | .eptr k _ _ _=>decide (k<M)
 | .sl k _ _ _=>decide (k<M)
 | .us k _ _ _=>decide (k<M)
 | .up k _ _ _=>decide (k<M)
 | .mp k=>decide (k<M)
 | .list _ (.own l) _=>decide (l<M)
 | .fn _ _=>false
 | .tuple _=>false
 | .lit _ _=>false
 | .raw _=>false
 | _=>true
def low (M:Nat):AV→Bool
 | .fn _ caps=>caps.all (ws M)
 | .tuple cells=>cells.all (ws M)
 | x=>ws M x
def nG (M:Nat):zg→Bool
 | .var cells=>cells.all (low M)
 | .uarr _ rows=>rows.all fun r=>r.all (low M)
 | _=>true
def tZ (M:Nat) (f:List (Nat × AV)):Prop:=∀ p∈f,low M p.2=true
def yr (M:Nat) (l:List (Nat × zg)):Prop:=∀ p∈l,p.1<M∧nG M p.2=true
def t0 (M:Nat) (l:List (List (Nat × AV))):Prop:=∀ f∈l,tZ M f
theorem tL {α:Type} {f:α→α} {l:List α} (h:∀ x∈l,f x=x):l.map f=l:=by
 rw[List.map_congr_left (g:=id) h]; simp
section
variable {M k:Nat} (hk:M≤k)
include hk
theorem MZ {x:AV} (h:ws M x=true):l0 k x=false:=by
 cases x with
 | list sz m rows=>cases m<;>simp[ws,l0,gW] at h ⊢; omega
 | _=>simp[ws,l0,gW] at h ⊢<;>try omega
theorem AQ {x:AV} (h:ws M x=true):gW k x=false:=by
 have:=MZ hk h
 cases x with
 | list sz m rows=>rfl
 | _=>exact this
theorem AP {x:AV} (h:ws M x=true):sI k x=false:=by
 cases x with
 | list sz m rows=>rfl
 | _=>simp[ws,sI] at h ⊢<;>try omega
theorem SE {l:List AV} (h:l.all (ws M)=true):l.any (gW k)=false :=
 List.any_eq_false.2 fun x hx=>by rw[AQ hk (List.all_eq_true.1 h x hx)]; simp
theorem SD {l:List AV} (h:l.all (ws M)=true):l.any (sI k)=false :=
 List.any_eq_false.2 fun x hx=>by rw[AP hk (List.all_eq_true.1 h x hx)]; simp
theorem AT {x:AV} (h:low M x=true):dg k x=x:=by
 cases x with
 | fn f caps=>simp only[dg,SE hk h]; rfl
 | tuple caps=>simp only[dg,SE hk h]; rfl
 | lit=>cases h
 | raw=>cases h
 | _=>simp only[low] at h; exact Nc (MZ hk h)
theorem JS {x:AV} (h:low M x=true):zV k x=false:=by
 cases x with
 | fn f caps=>exact SD hk h
 | tuple caps=>exact SD hk h
 | lit=>cases h
 | raw=>cases h
 | list=>rfl
 | _=>simp[low,ws,zV] at h ⊢<;>try omega
theorem Dc {e:zg} {x:AV} (h:low M x=true):frz k e x=x:=by
 cases x with
 | lit=>cases h
 | raw=>cases h
 | list sz m rows =>
  cases m with
  | own l =>
   have h:ws M (.list sz (.own l) rows)=true:=h
   simp only[ws,decide_eq_true_eq] at h
   simp only[frz]; rw[if_neg (by omega)]
  | _=>rfl
 | ptr j off =>
  have h:ws M (.ptr j off)=true:=h
  simp only[ws,decide_eq_true_eq] at h
  simp only[frz]; rw[if_neg (by omega)]
 | eptr j sz i off =>
  have h:ws M (.eptr j sz i off)=true:=h
  simp only[ws,decide_eq_true_eq] at h
  simp only[frz]; rw[if_neg (by omega)]
 | sl j sz off len =>
  have h:ws M (.sl j sz off len)=true:=h
  simp only[ws,decide_eq_true_eq] at h
  simp only[frz]; rw[if_neg (by omega)]
 | us j sz off len =>
  have h:ws M (.us j sz off len)=true:=h
  simp only[ws,decide_eq_true_eq] at h
  simp only[frz]; rw[if_neg (by omega)]
 | up j sz i off =>
  have h:ws M (.up j sz i off)=true:=h
  simp only[ws,decide_eq_true_eq] at h
  simp only[frz]; rw[if_neg (by omega)]
 | mp j =>
  have h:ws M (.mp j)=true:=h
  simp only[ws,decide_eq_true_eq] at h
  simp only[frz]; rw[if_neg (by omega)]
 | _=>rfl
theorem Nx {e:zg} (h:nG M e=true):dgE k e=e:=by
 have all:∀ {l:List AV},l.all (low M)=true→l.map (dg k)=l:=fun {l} h=>by
  exact tL fun x hx=>AT hk (List.all_eq_true.1 h x hx)
 cases e with
 | var cells=>simp only[dgE,all h]
 | uarr sz rows =>
  simp only[dgE,yN]
  rw[tL fun r hr=>all (List.all_eq_true.1 h r hr)]
 | _=>rfl
theorem acX {e0 e:zg} (h:nG M e=true):qy k e0 e=e:=by
 have all:∀ {l:List AV},l.all (low M)=true→l.map (frz k e0)=l:=fun {l} h=>by
  exact tL fun x hx=>Dc hk (List.all_eq_true.1 h x hx)
 cases e with
 | var cells=>simp only[qy,all h]
 | uarr sz rows =>
  simp only[qy]
  rw[tL fun r hr=>all (List.all_eq_true.1 h r hr)]
 | _=>rfl
theorem ZV {f:List (Nat × AV)} (h:tZ M f):(f.map fun p=>(p.1,dg k p.2))=f:=by
 exact tL fun p hp=>by rw[AT hk (h p hp)]
theorem JQ {e:zg} {f:List (Nat × AV)} (h:tZ M f):(f.map fun p=>(p.1,frz k e p.2))=f:=by
 exact tL fun p hp=>by rw[Dc hk (h p hp)]
theorem Q5 {f:List (Nat × AV)} (h:tZ M f):jL k f=true:=by
 induction f with
 | nil=>rfl
 | cons p f ih =>
  obtain ⟨m,x⟩:=p
  have h1:=h (m,x) (by simp)
  simp only[jL,JS hk h1,ih fun p hp=>h p (by simp[hp])]; rfl
theorem Q7 {l:List AV} (h:l.all (low M)=true):wQ k l=false:=by
 induction l with
 | nil=>rfl
 | cons x l ih =>
  simp only[List.all_cons,Bool.and_eq_true] at h
  simp only[wQ,JS hk h.1,ih h.2]; rfl
theorem AR {e:zg} (h:nG M e=true):gQ k e=false:=by
 cases e with
 | var cells=>exact Q7 hk h
 | uarr sz rows =>
  have h:(rows.all fun r=>r.all (low M))=true:=h
  show tp k rows=false
  induction rows with
  | nil=>rfl
  | cons r rows ih =>
   have h':=h
   simp only[List.all_cons,Bool.and_eq_true] at h'
   simp only[tp,Q7 hk h'.1,ih h'.2 h'.2]; rfl
 | _=>rfl
theorem Q6 {f:List (Nat × zg)} (h:yr M f):sE k f=true:=by
 induction f with
 | nil=>rfl
 | cons p f ih =>
  obtain ⟨m,x⟩:=p
  have h1:=(h (m,x) (by simp)).2
  simp only[sE,AR hk h1,ih fun p hp=>h p (by simp[hp])]; rfl
theorem Cu {f:List (List (Nat × AV))} (h:t0 M f):jM k f=true:=by
 induction f with
 | nil=>rfl
 | cons p f ih=>simp only[jM,Q5 hk (h p (by simp)),ih fun p hp=>h p (by simp[hp])]; rfl
theorem TN {f:List (List (Nat × AV))} (h:t0 M f):(f.map fun f=>f.map fun p=>(p.1,dg k p.2))=f:=by
 exact tL fun p hp=>ZV hk (h p hp)
theorem acY {e:zg} {f:List (List (Nat × AV))} (h:t0 M f):(f.map fun f=>f.map fun p=>(p.1,frz k e p.2))=f:=by
 exact tL fun p hp=>JQ hk (h p hp)
end
theorem qP {M:Nat} {t:Nat} {x:AV} {f:List (Nat × AV)}:tZ M ((t,x)::f)↔low M x=true∧tZ M f:=by simp[tZ]
theorem nH {M:Nat}:tZ M []:=fun _ h=>by cases h
theorem sD {M:Nat}:yr M []:=fun _ h=>by cases h
theorem JR {M:Nat}:t0 M []:=fun _ h=>by cases h
theorem xW {M:Nat} {t:Nat} {x:zg} {f:List (Nat × zg)}:yr M ((t,x)::f)↔t<M∧nG M x=true∧yr M f:=by simp[yr,and_assoc]
theorem ai {M:Nat} {x:List (Nat × AV)} {f:List (List (Nat × AV))}:t0 M (x::f)↔tZ M x∧t0 M f:=by simp[t0]
theorem MY {M N:Nat} (h:M≤N) {x:AV} (hx:ws M x=true):ws N x=true:=by
 cases x with
 | list sz m rows=>cases m<;>simp[ws] at hx ⊢; omega
 | _=>simp[ws] at hx ⊢<;>try omega
theorem low_mono {M N:Nat} (h:M≤N) {x:AV} (hx:low M x=true):low N x=true:=by
 have all:∀ {l:List AV},l.all (ws M)=true→l.all (ws N)=true:=fun {l} hl=>List.all_eq_true.2 fun y hy=>MY h (List.all_eq_true.1 hl y hy)
 cases x with
 | fn f caps=>exact all hx
 | tuple caps=>exact all hx
 | lit=>cases hx
 | raw=>cases hx
 | _=>simp only[low] at hx ⊢; exact MY h hx
theorem AS {M N:Nat} (h:M≤N) {f:List (Nat × AV)} (hf:tZ M f):tZ N f:=fun p hp=>low_mono h (hf p hp)
theorem aj {M N:Nat} (h:M≤N) {f:List (List (Nat × AV))} (hf:t0 M f):t0 N f:=fun p hp=>AS h (hf p hp)
theorem nI {M N:Nat} (h:M≤N) {f:List (Nat × zg)} (hf:yr M f):yr N f:=fun p hp=>by
 obtain ⟨h1,h2⟩:=hf p hp
 refine ⟨by omega,?_⟩
 cases he:p.2 with
 | var cells =>
  rw[he] at h2
  exact List.all_eq_true.2 fun y hy=>low_mono h (List.all_eq_true.1 h2 y hy)
 | uarr sz rows =>
  rw[he] at h2
  exact List.all_eq_true.2 fun r hr=>List.all_eq_true.2 fun y hy=>low_mono h (List.all_eq_true.1 (List.all_eq_true.1 h2 r hr) y hy)
 | _=>rfl
section
variable {I:Nat→Nat→Prop} {w:World} {β:z7} {lam:ym}
theorem R.own_plain {sz:Nat} {m:Mode} {rows:List (List AV)} {v:Value} (h:R I w β lam (.list sz m rows) v):R I w β lam (.list sz .plain rows) v:=by
 cases h with
 | base h =>
  cases h with
  | listNil sz m a cap hm ho=>exact .base (.listNil _ _ _ _ (fun h=>by cases h) (fun _ h=>by cases h))
  | list sz m rows b o cap g hcap hm ho hrow hcell hc=>exact .base (.list _ _ rows b o cap g hcap (fun h=>by cases h) (fun _ h=>by cases h) hrow hcell hc)
 | own sz l' rows a cap h hl'=>exact .base h
theorem R.nil_plain {sz sz':Nat} {m:Mode} {v:Value} (h:R I w β lam (.list sz m []) v):R I w β lam (.list sz' .plain []) v:=by
 cases h with
 | base h=>cases h<;>exact .base (.listNil _ _ _ _ (fun h=>by cases h) (fun _ h=>by cases h))
 | own sz l' rows a cap h hl'=>exact .base (.listNil _ _ _ _ (fun h=>by cases h) (fun _ h=>by cases h))
end
def Xr (x y:AV):Prop:=x=y∨(∃ sz m rows,x=.list sz m rows∧y=.list sz .plain rows)∨∃ sz sz' m,x=.list sz m []∧y=.list sz' .plain []
theorem Xr.refl {x:AV}:Xr x x:=.inl rfl
theorem Xr.list {sz:Nat} {m:Am.Mode} {rows:List (List AV)}:Xr (.list sz m rows) (.list sz .plain rows):=.inr (.inl ⟨_,_,_,rfl,rfl⟩)
theorem Xr.nil {sz sz':Nat} {m:Am.Mode}:Xr (.list sz m []) (.list sz' .plain []):=.inr (.inr ⟨_,_,_,rfl,rfl⟩)
theorem Xr.R {x y:AV} (h:Xr x y) {I:Nat→Nat→Prop} {w:World} {β:z7} {lam:ym} {v:Value} (hx:R I w β lam x v):R I w β lam y v:=by
 rcases h with rfl | ⟨sz,m,rows,rfl,rfl⟩ | ⟨sz,sz',m,rfl,rfl⟩
 ·exact hx
 ·exact hx.own_plain
 ·exact hx.nil_plain
end Go.Am
