/- What the proof rests on, part 5: Am22 Am23 Am24 Am25 Am26 Am27 Am28 Am39 Am40. -/
import Derived.Test.YtfmcplfbnkoglaaGreatP4
import Derived.Scope
import Derived.ScopeJumps
import Derived.Deep.LoopGhost
import Derived.OpenShut
import Derived.SizedLaws
import Derived.Carry
import Derived.ProofKit
set_option maxRecDepth 100000
set_option maxHeartbeats 4000000
namespace Go.Am
open Go.RowKit
section
variable {P:Program} {F:z3}
def aP (c:Code):Exit→Bool
 | .normal=>true
 | .exit _=>true
 | .ret=>true
 | .goto _=>u0 c
 | _=>false
theorem PO {p:Nat→Prop}:∀ n,p n→∃ m,p m∧∀ k,p k→m≤k:=by
 intro n
 induction n using Nat.strongRecOn with
 | ind n ih =>
  intro hn
  by_cases h:∃ m,m<n∧p m
  ·obtain ⟨m,hm,hp⟩:=h; exact ih m hm hp
  ·exact ⟨n,hn,fun k hk=>Nat.le_of_not_lt fun hlt=>h ⟨k,hlt,hk⟩⟩
open Classical in
noncomputable def UH (J:Nat→Act→World→Prop) (a:Act) (w:World):Nat:=if h:∃ n,J n a w then Classical.choose (PO (p:=fun n=>J n a w) h.choose h.choose_spec) else 0
theorem Yx {J:Nat→Act→World→Prop} {a:Act} {w:World} (h:∃ n,J n a w):J (UH J a w) a w∧∀ k,J k a w→UH J a w≤k:=by
 unfold UH
 rw[dif_pos h]
 exact Classical.choose_spec (PO (p:=fun n=>J n a w) h.choose h.choose_spec)
theorem Yl {ac:zc} {draw:Bool} {l:List zi} (h:zc.region draw [] l [] []=bare ac):∃ FK D DK l',ac=.region draw FK l' D DK∧l=l'.map (yi draw):=by
 cases ac<;>simp only[bare,reduceCtorEq,zc.region.injEq] at h
 obtain ⟨rfl,_,rfl,_,_⟩:=h
 exact ⟨_,_,_,_,rfl,rfl⟩
def jd (P:Program) (F:z3) (c:Code):Prop:=∀ (ac:zc),yj P F.N c=some (bare ac)→∀ {s:St} {a:Act} {w:World} {K:Exit→St→Prop} {Q:Exit→Act→World→Prop},Holds F s a w→awp P ac s K →
  (∀ e s' a' w',aP c e=true→K e s'→Holds F s' a' w'→Q e a' w')→c.wp P Q a w
theorem Mn:∀ (c:Code),jd P F c∧∀ l r,c=.seq (.label l) r→jd P F (.seq .skip r)∧jd P F r:=by
 intro c
 induction c with
 | skip =>
  refine ⟨?_,fun l r e=>by cases e⟩
  intro ac htr s a w K Q hH h hk
  simp only[yj,Option.some.injEq] at htr
  cases ac<;>simp only[bare,reduceCtorEq] at htr
  exact wp_skip (hk _ _ _ _ rfl h hH)
 | region id ops draw =>
  refine ⟨?_,fun l r e=>by cases e⟩
  intro ac htr s a w K Q hH h hk
  simp only[yj] at htr
  split at htr
  ·rename_i l hl
   split at htr
   ·rename_i hd
    simp only[Option.some.injEq] at htr
    obtain ⟨FK,D,DK,l',rfl,rfl⟩:=Yl htr
    simp only[awp] at h
    obtain ⟨s0,h,hH⟩:=bp FK hH h
    have hk':∀ s' a' w',(ZK (s'.drop D) DK fun s''=>K .normal s'')→Holds F s' a' w'→Q .normal a' w':=by
     intro s' a' w' hK hH'
     obtain ⟨s'',h1,h2⟩:=Yw (d7 hH') hK
     exact hk _ _ _ _ rfl h1 h2
    cases draw with
    | false=>exact wp_region_list (JU ops ops.toList _ hl hH h hk')
    | true=>exact Pd hl (by simp only[Bool.true_eq_false,false_or] at hd; exact hd.1) hH h hk'
   ·rename_i hnd
    split at htr
    ·rename_i hm
     simp only[Option.some.injEq] at htr
     obtain ⟨FK,D,DK,l',rfl,he⟩:=Yl htr
     simp only[awp] at h
     obtain ⟨s0,h,hH⟩:=bp FK hH h
     have hk':∀ s' a' w',(ZK (s'.drop D) DK fun s''=>K .normal s'')→Holds F s' a' w'→Q .normal a' w':=by
      intro s' a' w' hK hH'
      obtain ⟨s'',h1,h2⟩:=Yw (d7 hH') hK
      exact hk _ _ _ _ rfl h1 h2
     cases draw with
     | false=>exact absurd (.inl rfl) hnd
     | true=>exact P1 (abd hl) (fun i f ds e=>(aa3 hl e).trans CB.symm) hm he hH h hk'
    ·cases htr
  ·cases htr
 | seq x y ihx ihy =>
  refine ⟨?_,?_⟩
  ·intro ac htr s a w K Q hH h hk
   simp only[yj] at htr
   split at htr
   ·rename_i bx by_ hx hy
    simp only[Option.some.injEq] at htr
    cases ac<;>simp only[bare,reduceCtorEq,zc.seq.injEq] at htr
    rename_i ax ay
    obtain ⟨rfl,rfl⟩:=htr
    simp only[awp] at h
    refine wp_seq (ihx.1 ax hx hH h fun e s' a' w' hne hK hH'=>?_)
    cases e with
    | normal=>exact ihy.1 ay hy hH' hK fun e s' a' w' hne=>hk e s' a' w' (by cases e<;>simp_all [aP,u0])
    | exit id=>exact hk _ _ _ _ rfl hK hH'
    | ret=>exact hk _ _ _ _ rfl hK hH'
    | goto l=>exact hk _ _ _ _ (by simp only[aP,u0,Bool.or_eq_true] at hne ⊢; exact .inl hne) hK hH'
    | panic ch=>cases hne
    | outgrown=>cases hne
   ·cases htr
  ·intro l r e
   cases e
   refine ⟨?_,ihy.1⟩
   intro ac htr s a w K Q hH h hk
   simp only[yj] at htr
   split at htr
   ·rename_i bx by_ hx hy
    simp only[Option.some.injEq] at hx
    subst hx
    simp only[Option.some.injEq] at htr
    cases ac<;>simp only[bare,reduceCtorEq,zc.seq.injEq] at htr
    rename_i ax ay
    obtain ⟨hx,rfl⟩:=htr
    cases ax<;>simp only[bare,reduceCtorEq] at hx
    simp only[awp,NC] at h
    exact wp_seq (wp_skip (ihy.1 ay hy hH h fun e s' a' w' hne=>hk e s' a' w' (by cases e<;>simp_all [aP,u0])))
   ·cases htr
 | cond c x y ihx ihy =>
  refine ⟨?_,fun l r e=>by cases e⟩
  intro ac htr s a w K Q hH h hk
  simp only[yj] at htr
  split at htr
  ·rename_i bx by_ hx hy
   simp only[Option.some.injEq] at htr
   cases ac<;>simp only[bare,reduceCtorEq,zc.cond.injEq] at htr
   rename_i c' ax ay
   obtain ⟨rfl,rfl,rfl⟩:=htr
   simp only[awp] at h
   split at h
   ·rename_i b hb
    have hc:a.eval c=.bool b:=by
     obtain ⟨I,β,lam,hI⟩:=hH
     have:=hI.opd c
     rw[hb] at this
     exact this.val_eq
    exact wp_cond_split hc (fun e=>ihx.1 ax hx hH (h.1 e) fun e s' a' w' hne=>hk e s' a' w' (by cases e<;>simp_all [aP,u0])) (fun e=>ihy.1 ay hy hH (h.2 e) fun e s' a' w' hne=>hk e s' a' w' (by cases e<;>simp_all [aP,u0]))
   ·exact h.elim
  ·cases htr
 | block id c ih =>
  refine ⟨?_,fun l r e=>by cases e⟩
  intro ac htr s a w K Q hH h hk
  simp only[yj,Option.map_eq_some_iff] at htr
  obtain ⟨bc,hc,htr⟩:=htr
  cases ac<;>simp only[bare,reduceCtorEq,zc.block.injEq] at htr
  rename_i id' ac'
  obtain ⟨rfl,rfl⟩:=htr
  simp only[awp] at h
  refine wp_block (ih.1 ac' hc hH h fun e s' a' w' hne hK hH'=>?_)
  cases e with
  | normal=>exact hk _ _ _ _ rfl hK hH'
  | exit i =>
   simp only[X7] at hK
   simp only[Exit.inBlock]
   split
   ·rename_i e; rw[if_pos e] at hK; exact hk _ _ _ _ rfl hK hH'
   ·rename_i e; rw[if_neg e] at hK; exact hk _ _ _ _ rfl hK hH'
  | ret=>exact hk _ _ _ _ rfl hK hH'
  | goto l=>exact hk _ _ _ _ hne hK hH'
  | panic ch=>cases hne
  | outgrown=>cases hne
 | loop c ih =>
  refine ⟨?_,fun l r e=>by cases e⟩
  intro ac htr s a w K Q hH h hk
  simp only[yj,Option.map_eq_some_iff] at htr
  obtain ⟨bc,hc,htr⟩:=htr
  cases ac<;>simp only[bare,reduceCtorEq,zc.loop.injEq] at htr
  rename_i ac'
  subst htr
  simp only[awp] at h
  obtain ⟨J,n,s0,hi,h0,h⟩:=h
  refine wp_loop_ghost (fun n a w=>∃ s,Holds F s a w∧J n s) n ⟨s0,hi F a w hH,h0⟩ fun n a w ⟨s,hH,hJ⟩=>?_
  refine ih.1 ac' hc hH (h n s hJ) fun e s' a' w' hne hK hH'=>?_
  cases e with
  | normal =>
   obtain ⟨m,s2,hm,hi2,hJ'⟩:=hK
   exact ⟨m,hm,s2,hi2 F a' w' hH',hJ'⟩
  | exit id=>exact hk _ _ _ _ rfl hK hH'
  | ret=>exact hk _ _ _ _ rfl hK hH'
  | goto l=>exact hk _ _ _ _ hne hK hH'
  | panic ch=>cases hne
  | outgrown=>cases hne
 | rangeFunc f ps x y =>
  refine ⟨?_,fun l r e=>by cases e⟩
  intro ac htr; simp[yj] at htr
 | exit id =>
  refine ⟨?_,fun l r e=>by cases e⟩
  intro ac htr s a w K Q hH h hk
  simp only[yj,Option.some.injEq] at htr
  cases ac<;>simp only[bare,reduceCtorEq,zc.exit.injEq] at htr
  subst htr
  exact wp_exit (hk _ _ _ _ rfl h hH)
 | scope c ih =>
  refine ⟨?_,fun l r e=>by cases e⟩
  have straight:∀ ac,u0 c=false→yj P F.N c=some (bare ac)→∀ {s:St} {a:Act} {w:World} {K:Exit→St→Prop} {Q:Exit→Act→World→Prop},Holds F s a w→awp P ac s K →
    (∀ e s' a' w',aP (.scope c) e=true→K e s'→Holds F s' a' w'→Q e a' w')→(Code.scope c).wp P Q a w:=by
   intro ac hg htr s a w K Q hH h hk
   refine wp_scope_straight (ih.1 ac htr hH h fun e s' a' w' hne hK hH'=>?_)
   cases e with
   | normal=>exact hk _ _ _ _ rfl hK hH'
   | exit i=>exact hk _ _ _ _ rfl hK hH'
   | ret=>exact hk _ _ _ _ rfl hK hH'
   | goto l=>simp only[aP,hg] at hne; cases hne
   | panic ch=>cases hne
   | outgrown=>cases hne
  have other:(∀ l r,c≠.seq (.label l) r)→jd P F (.scope c):=by
   intro hne ac htr
   rw[yj.eq_def] at htr
   split at htr<;>first | (rename_i heq; cases heq; done) | skip
   all_goals first
    | (cases htr; done)
    | (rename_i l r heq; cases heq; exact absurd rfl (hne _ _))
    | (
      rename_i c' _ heq
      cases heq
      split at htr
      ·cases htr
      ·rename_i hg
       exact straight ac (by simpa using hg) htr)
  cases c with
  | seq x r =>
   cases x with
   | label l =>
    intro ac htr s a w K Q hH h hk
    simp only[yj] at htr
    split at htr
    ·rename_i hg
     simp only[Option.map_eq_some_iff] at htr
     obtain ⟨br,hr,htr⟩:=htr
     cases ac<;>simp only[bare,reduceCtorEq,zc.again.injEq] at htr
     rename_i l' ar
     obtain ⟨rfl,rfl⟩:=htr
     simp only[awp] at h
     obtain ⟨J,n,s0,hi,h0,h⟩:=h
     have ihr:=ih.2 _ _ rfl
     have step:∀ n s a w,Holds F s a w→J n s→∀ {c:Code} {ac:zc},jd P F c→yj P F.N c=some (bare ac)→(∀ K,awp P ar s K→awp P ac s K) →
       c.wp P (Exit.jump l (fun a' w'=>∃ m,m<n∧∃ s',Holds F s' a' w'∧J m s') Q) a w:=by
      intro n s a w hH hJ c ac hS htr hto
      refine hS ac htr hH (hto _ (h n s hJ)) fun e s' a' w' hne hK hH'=>?_
      cases e with
      | normal=>exact hk _ _ _ _ rfl hK hH'
      | exit i=>exact hk _ _ _ _ rfl hK hH'
      | ret=>exact hk _ _ _ _ rfl hK hH'
      | goto i =>
       obtain ⟨rfl,m,s2,hm,hi2,hJ'⟩:=hK
       exact ⟨rfl,m,hm,s2,hi2 F a' w' hH',hJ'⟩
      | panic ch=>cases hne
      | outgrown=>cases hne
     let J':Nat→Act→World→Prop:=fun m a w=>∃ s,Holds F s a w∧J m s
     refine wp_scope_jumps (rest:=.seq .skip r) l (fun a w=>∃ m,J' m a w) (UH J') (by simp[findLabel]) ?_ ?_
     ·have:=step n s0 a w (hi F a w hH) h0 (c:=.seq (.label l) r) (ac:=.seq .skip ar) ih.1 (by simp only[yj,hr]; rfl) (fun K h=>by simpa only[awp,NC] using h)
      refine wp_mono this ?_
      intro e a' w' hq
      cases e with
      | goto i=>obtain ⟨e1,m,_,s',h1,h2⟩:=hq; exact ⟨e1,m,s',h1,h2⟩
      | _=>exact hq
     ·intro a w hJ
      obtain ⟨⟨s1,h1,h2⟩,hmin⟩:=Yx hJ
      have:=step _ s1 a w h1 h2 (c:=.seq .skip r) (ac:=.seq .skip ar) ihr.1 (by simp only[yj,hr]; rfl) (fun K h=>by simpa only[awp,NC] using h)
      refine wp_mono this ?_
      intro e a' w' hq
      cases e with
      | goto i =>
       obtain ⟨e1,m,hm,s',h3,h4⟩:=hq
       refine ⟨e1,⟨m,s',h3,h4⟩,?_⟩
       have:=(Yx (J:=J') ⟨m,s',h3,h4⟩).2 m ⟨s',h3,h4⟩
       omega
      | _=>exact hq
    ·rename_i hg
     have htr':yj P F.N (.seq (.label l) r)=some (bare ac):=by
      simp only[Option.map_eq_some_iff] at htr
      obtain ⟨br,hr,htr⟩:=htr
      simp only[yj,hr,htr]
     exact straight ac (by simpa [u0] using hg) htr' hH h hk
   | _=>exact other (by intros; simp)
  | _=>exact other (by intros; simp)
 | label l =>
  refine ⟨?_,fun l r e=>by cases e⟩
  intro ac htr s a w K Q hH h hk
  simp only[yj,Option.some.injEq] at htr
  cases ac<;>simp only[bare,reduceCtorEq] at htr
  exact wp_label (hk _ _ _ _ rfl h hH)
 | goto l =>
  refine ⟨?_,fun l r e=>by cases e⟩
  intro ac htr s a w K Q hH h hk
  simp only[yj,Option.some.injEq] at htr
  cases ac<;>simp only[bare,reduceCtorEq,zc.goto.injEq] at htr
  subst htr
  exact wp_goto (hk _ _ _ _ rfl h hH)
 | ret =>
  refine ⟨?_,fun l r e=>by cases e⟩
  intro ac htr s a w K Q hH h hk
  simp only[yj,Option.some.injEq] at htr
  cases ac<;>simp only[bare,reduceCtorEq] at htr
  exact wp_ret (hk _ _ _ _ rfl h hH)
 | refuse why =>
  refine ⟨?_,fun l r e=>by cases e⟩
  intro ac htr; simp[yj] at htr
theorem Us (c:Code):jd P F c:=(Mn c).1
inductive zB where
 | t (n:Nat)
 | cell (n:Nat) (k:Option Nat)
def rg (P:Program):ResultVar→Option zB
 | .tmp t=>some (.t t)
 | .cell a t=>(ldT P t).map (.cell a)
def Sr (s:St):zB→Option AV
 | .t n=>wB (lk s.sto) (s.get n)
 | .cell n k=>match s.get n with
  | .ptr j off=>match lk s.sto j with
   | some (.var cells)=>match zH cells off k with
    | some x=>wB (lk s.sto) x
    | none=>none
   | _=>none
  | _=>none
def pC (l:List zB) (s:St):Option AV :=
 match yx (Sr s) l with
 | some [x]=>some x
 | some xs=>some (.tuple xs)
 | none=>none
def t9:Nat→List AV→List (Nat × AV)
 | _,[]=>[]
 | i,x::xs=>(i,x)::t9 (i+1) xs
theorem PR:∀ (xs:List AV) (i t:Nat) (x:AV),lk (t9 i xs) t=some x→∃ j,t=i+j∧xs[j]?=some x:=by
 intro xs
 induction xs with
 | nil=>intro i t x h; simp[t9,lk] at h
 | cons y xs ih =>
  intro i t x h
  simp only[t9,lk] at h
  split at h
  ·rename_i e
   exact ⟨0,by omega,by simpa using h⟩
  ·obtain ⟨j,h1,h2⟩:=ih _ _ _ h
   exact ⟨j+1,by omega,by simpa using h2⟩
def l0 (tmps:Array Value):ResultVar→Sem Value
 | .tmp t=>pure (tmps.getD t undef)
 | .cell p t=>do loadVar t (← asAddr (tmps.getD p undef))
def mU (s:St):zB→Option AV
 | .t n=>some (strip (s.get n))
 | .cell n k=>match s.get n with
  | .ptr j off=>match lk s.sto j with
   | some (.var cells)=>(zH cells off k).map strip
   | _=>none
  | _=>none
def tup:List AV→AV
 | [x]=>x
 | xs=>.tuple xs
theorem BS {l:List zB} {s:St} {r:AV} (h:pC l s=some r):∃ xs,yx (Sr s) l=some xs∧r=tup xs:=by
 unfold pC at h
 split at h
 ·rename_i x hx
  simp only[Option.some.injEq] at h
  exact ⟨[x],hx,h.symm⟩
 ·rename_i xs hne hx
  simp only[Option.some.injEq] at h
  refine ⟨xs,hx,?_⟩
  match xs,hne with
  | [],_=>exact h.symm
  | [x],hne=>exact absurd rfl (hne x)
  | _::_::_,_=>exact h.symm
 ·cases h
theorem abL {s:St} {a:Act} {w:World} {I:Nat→Nat→Prop} {β:zS} {lam:z4} (hI:Inv F s.look (lk s.sto) I β lam a w) {rv:ResultVar} {ra:zB} {x:AV} (htr:rg P rv=some ra) (hx:mU s ra=some x) :
  ∃ v,(l0 a.tmps rv).run P w=.ok v w∧R I w β lam x v∧∃ y,x=strip y:=by
 have hget:∀ n,R I w β lam (s.get n) (a.tmps.getD n undef):=fun n=>hI.opd (.tmp n)
 cases rv with
 | tmp t =>
  simp only[rg,Option.some.injEq] at htr
  subst htr
  simp only[mU,Option.some.injEq] at hx
  subst hx
  exact ⟨_,rfl,(hget t).strip,_,rfl⟩
 | cell p t =>
  simp only[rg,Option.map_eq_some_iff] at htr
  obtain ⟨k,hk,rfl⟩:=htr
  simp only[mU] at hx
  split at hx
  ·rename_i j off hp
   split at hx
   ·rename_i cells hs
    simp only[Option.map_eq_some_iff] at hx
    obtain ⟨y,hy,rfl⟩:=hx
    have hR:=hget p
    rw[hp] at hR
    obtain ⟨b,hb,hv⟩:=hR.ptr_inv
    have hE:=hI.hread _ _ _ hs hb
    obtain ⟨v,hr,hRv⟩:=Xf (o:=0) hk hy (fun j c hj=>by
     obtain ⟨v,h1,_,h3,h4⟩:=hE j c hj
     exact ⟨v,by rw[Nat.zero_add]; exact h1,h3,h4⟩)
    rw[Nat.zero_add] at hr
    refine ⟨v,?_,hRv.strip,_,rfl⟩
    simp only[Instr.loadAt,Instr.sureAddr,Sem.run_bind,Sem.run_pure,Result.andThen_ok] at hr
    simp only[l0,hv,asAddr,Sem.run_bind,Sem.run_pure,Result.andThen_ok]
    exact hr
   ·cases hx
  ·cases hx
theorem abR {s:St} {a:Act} {w:World} {I:Nat→Nat→Prop} {β:zS} {lam:z4} (hI:Inv F s.look (lk s.sto) I β lam a w) {rv:ResultVar} {ra:zB} {x:AV} (htr:rg P rv=some ra) (hx:Sr s ra=some x) :
  ∃ v,(l0 a.tmps rv).run P w=.ok v w∧R0 (Seen I β lam) w x v:=by
 have hget:∀ n,R I w β lam (s.get n) (a.tmps.getD n undef):=fun n=>hI.opd (.tmp n)
 cases rv with
 | tmp t =>
  simp only[rg,Option.some.injEq] at htr
  subst htr
  exact ⟨_,rfl,(jq hI.hread hI.usto hx (hget t)).1⟩
 | cell p t =>
  simp only[rg,Option.map_eq_some_iff] at htr
  obtain ⟨k,hk,rfl⟩:=htr
  simp only[Sr] at hx
  split at hx
  ·rename_i j off hp
   split at hx
   ·rename_i cells hs
    split at hx
    ·rename_i y hy
     have hR:=hget p
     rw[hp] at hR
     obtain ⟨b,hb,hv⟩:=hR.ptr_inv
     have hE:=hI.hread _ _ _ hs hb
     obtain ⟨v,hr,hRv⟩:=Xf (o:=0) hk hy (fun j c hj=>by
      obtain ⟨v,h1,_,h3,h4⟩:=hE j c hj
      exact ⟨v,by rw[Nat.zero_add]; exact h1,h3,h4⟩)
     rw[Nat.zero_add] at hr
     refine ⟨v,?_,(jq hI.hread hI.usto hx hRv).1⟩
     simp only[Instr.loadAt,Instr.sureAddr,Sem.run_bind,Sem.run_pure,Result.andThen_ok] at hr
     simp only[l0,hv,asAddr,Sem.run_bind,Sem.run_pure,Result.andThen_ok]
     exact hr
    ·cases hx
   ·cases hx
  ·cases hx
theorem MN {rd:zB→Option AV} {Rel:AV→Value→Prop} {tmps:Array Value} {w:World} (hrd:∀ rv ra x,rg P rv=some ra→rd ra=some x→∃ v,(l0 tmps rv).run P w=.ok v w∧Rel x v) :
  ∀ (rvs:List ResultVar) (ras:List zB) (xs:List AV),
  yx (rg P) rvs=some ras→yx rd ras=some xs →
  ∃ vs:List Value,(rvs.mapM (l0 tmps)).run P w=.ok vs w ∧
   vs.length=xs.length∧∀ (i:Nat) (x:AV),xs[i]?=some x→∃ v,vs[i]?=some v∧Rel x v:=by
 intro rvs
 induction rvs with
 | nil =>
  intro ras xs h1 h2
  simp only[yx,Option.some.injEq] at h1
  subst h1
  simp only[yx,Option.some.injEq] at h2
  subst h2
  exact ⟨[],rfl,rfl,fun i x h=>by simp at h⟩
 | cons rv rvs ih =>
  intro ras xs h1 h2
  simp only[yx] at h1
  split at h1
  ·rename_i ra hra
   simp only[Option.map_eq_some_iff] at h1
   obtain ⟨ras',h1,rfl⟩:=h1
   simp only[yx] at h2
   split at h2
   ·rename_i x hx
    simp only[Option.map_eq_some_iff] at h2
    obtain ⟨xs',h2,rfl⟩:=h2
    obtain ⟨v,hv,hR⟩:=hrd rv ra x hra hx
    obtain ⟨vs,g1,g2,g3⟩:=ih ras' xs' h1 h2
    refine ⟨v::vs,?_,by simp[g2],fun i x' hi=>?_⟩
    ·rw[List.mapM_cons,Sem.run_bind,hv]
     simp only[Result.andThen_ok,Sem.run_bind,g1,Sem.run_pure]
    ·cases i with
     | zero=>simp at hi; subst hi; exact ⟨v,rfl,hR⟩
     | succ i=>simp at hi; simpa using g3 i x' hi
   ·cases h2
  ·cases h1
theorem YK {fn:Func} {rd:zB→Option AV} {Rel:AV→Value→Prop} {tmps:Array Value} {w:World} (hrd:∀ rv ra x,rg P rv=some ra→rd ra=some x→∃ v,(l0 tmps rv).run P w=.ok v w∧Rel x v)
  (htup:∀ (xs:List AV) (vs:Array Value),yx rd (Option.getD (yx (rg P) fn.results.toList) [])=some xs→vs.size=xs.length→(∀ i x,xs[i]?=some x→Rel x (vs.getD i undef))→Rel (.tuple xs) (.tuple vs))
  {ras:List zB} {xs:List AV} (h1:yx (rg P) fn.results.toList=some ras) (h2:yx rd ras=some xs):∃ v,(results fn tmps).run P w=.ok v w∧Rel (tup xs) v:=by
 obtain ⟨vl,g1,g2,g3⟩:=MN hrd fn.results.toList ras xs h1 h2
 rw[h1] at htup
 simp only[Option.getD_some] at htup
 refine ⟨if h:vl.toArray.size=1 then vl.toArray[0] else .tuple vl.toArray,?_,?_⟩
 ·have e:results fn tmps=(fn.results.mapM (l0 tmps) >>= fun vs=>pure (if h:vs.size=1 then vs[0] else .tuple vs)):=by
   unfold results
   congr 1
   first | done | (congr 1; funext x; cases x<;>rfl)
  rw[e,Array.mapM_eq_mapM_toList,Sem.run_bind,Sem.run_map,g1]
  rfl
 ·have gt:∀ i x,xs[i]?=some x→Rel x (vl.toArray.getD i undef):=fun i x hi=>by
   obtain ⟨v,hv,hRv⟩:=g3 i x hi
   have:vl.toArray.getD i undef=v:=by simp[hv]
   rw[this]
   exact hRv
  match xs,g2,g3,h2,gt with
  | [x],g2,g3,h2,gt =>
   obtain ⟨v,hv,hRv⟩:=g3 0 x rfl
   have hvl:vl=[v]:=by
    match vl,g2,hv with
    | [v'],_,hv=>simp at hv; rw[hv]
   subst hvl
   simp only[List.size_toArray,List.length_cons,List.length_nil,dite_true]
   exact hRv
  | [],g2,g3,h2,gt =>
   have hvl:vl=[]:=by simpa using g2
   subst hvl
   exact htup [] #[] h2 rfl (fun i c h=>by simp at h)
  | x::y::xs,g2,g3,h2,gt =>
   have hne:¬ vl.toArray.size=1:=by simp at g2 ⊢; omega
   rw[dif_neg hne]
   exact htup _ _ h2 (by simpa using g2) gt
theorem C8 {α γ:Type} {f:α→Option γ}:∀ {l:List α} {l':List γ},yx f l=some l'→∀ y∈l',∃ x∈l,f x=some y:=by
 intro l
 induction l with
 | nil=>intro l' h; simp only[yx,Option.some.injEq] at h; subst h; simp
 | cons x l ih =>
  intro l' h
  simp only[yx] at h
  split at h
  ·rename_i y hy
   simp only[Option.map_eq_some_iff] at h
   obtain ⟨l2,h2,rfl⟩:=h
   intro z hz
   rcases List.mem_cons.1 hz with rfl | hz
   ·exact ⟨x,by simp,hy⟩
   ·obtain ⟨x',h3,h4⟩:=ih h2 z hz
    exact ⟨x',by simp[h3],h4⟩
  ·cases h
theorem Qa {x:AV} {sz l:Nat} {rows:List (List AV)}:strip x≠.list sz (.own l) rows:=by
 cases x<;>simp only[strip,ne_eq,reduceCtorEq,not_false_eq_true]
 rename_i sz' m rows'
 cases m<;>simp
theorem JK {s:St} {ra:zB} {x:AV} (h:mU s ra=some x):∃ y,x=strip y:=by
 cases ra with
 | t n =>
  simp only[mU,Option.some.injEq] at h
  exact ⟨_,h.symm⟩
 | cell n k =>
  simp only[mU] at h
  split at h
  ·split at h
   ·simp only[Option.map_eq_some_iff] at h
    obtain ⟨y,_,rfl⟩:=h
    exact ⟨_,rfl⟩
   ·cases h
  ·cases h
theorem Ce {f:FuncId} {fn:Func} {code:Code} {ac:zc} {ras:List zB} {args:List AV} {s:St} {K:AV→St→Prop} (B:Nat) (hf:P.funcs[f]?=some fn) (hb:fn.body=some code)
  (htr:yj P fn.ntmps code=some (bare ac)) (hres:yx (rg P) fn.results.toList=some ras) (hn:args.length≤fn.ntmps)
  (h:awp P ac {env:=t9 0 args,sto:=s.sto,out:=s.env::s.out,base:=B} fun e s'=>(e=.normal∨e=.ret)∧∃ xs e0 o0,yx (mU s') ras=some xs∧s'.out=e0::o0∧K (tup xs) {env:=e0,sto:=s'.sto,out:=o0,base:=s.base}):yc P f args s K:=by
 intro F a w I β lam hI vs hs hR
 refine calls_of_wp hf hb ?_
 have hH:Holds {w0:=F.w0,I0:=F.I0,N:=fn.ntmps,outs:=a.tmps::F.outs} {env:=t9 0 args,sto:=s.sto,out:=s.env::s.out,base:=B} {tmps:=vs++Array.replicate (fn.ntmps-vs.size) undef,defers:=[]} w:=by
  refine ⟨I,β,lam,?_⟩
  refine {hI with defers:=rfl,size:=by simp; omega,env:=fun t x ht=>?_}
  obtain ⟨d,t⟩:=t
  cases d with
  | zero =>
   obtain ⟨j,rfl,hj⟩:=PR _ _ _ _ ht
   have hlt:j<vs.size:=by
    have:=(List.getElem?_eq_some_iff.1 hj).1
    omega
   refine ⟨vs.getD j undef,?_,hR j x hj⟩
   simp only[z3.val]
   rw[Nat.zero_add,Array.getElem?_append_left hlt]
   simp[hlt]
  | succ d =>
   cases d with
   | zero =>
    obtain ⟨v,h1,h2⟩:=hI.env (0,t) x ht
    exact ⟨v,h1,h2⟩
   | succ d =>
    obtain ⟨v,h1,h2⟩:=hI.env (d+1,t) x ht
    exact ⟨v,h1,h2⟩
 refine Us (F:={w0:=F.w0,I0:=F.I0,N:=fn.ntmps,outs:=a.tmps::F.outs}) code ac htr hH h fun e s' a' w' _ hK hH'=>?_
 obtain ⟨he,xs,e0,o0,hxs,hout,hK⟩:=hK
 obtain ⟨I',β',lam',hI'⟩:=hH'
 obtain ⟨v,hrun,hRv⟩:=YK (fn:=fn) (rd:=mU s') (Rel:=R I' w' β' lam') (fun rv ra x h1 h2=>by
   obtain ⟨v,g1,g2,_⟩:=abL hI' h1 h2
   exact ⟨v,g1,g2⟩) (fun xs vs h1 h2 h3=>by
   refine .tuple xs vs h2 (fun sz l rows hm=>?_) h3
   obtain ⟨ra,_,hra⟩:=C8 h1 _ hm
   obtain ⟨y,hy⟩:=JK hra
   exact Qa hy.symm) hres hxs
 have hpop:Inv F (St.look {env:=e0,sto:=s'.sto,out:=o0,base:=s.base}) (lk s'.sto) I' β' lam' a w':=by
  refine {hI' with defers:=hI.defers,size:=hI.size,env:=fun t x ht=>?_}
  have key:s'.look (t.1+1,t.2)=some x:=by
   obtain ⟨d,t⟩:=t
   simp only[St.look,hout] at ht ⊢
   cases d with
   | zero=>exact ht
   | succ d=>exact ht
  obtain ⟨v,h1,h2⟩:=hI'.env _ x key
  refine ⟨v,?_,h2⟩
  obtain ⟨d,t⟩:=t
  cases d with
  | zero=>exact h1
  | succ d=>exact h1
 have hpost:a'.defers=[]∧∃ v,(results fn a'.tmps).run P w'=.ok v w'∧∃ u,Ending.returned v=.returned u∧∃ r s' I' β' lam',K r s'∧Inv F s'.look (lk s'.sto) I' β' lam' a w'∧R I' w' β' lam' r u :=
  ⟨hI'.defers,v,hrun,v,rfl,tup xs,_,I',β',lam',hK,hpop,hRv⟩
 rcases he with rfl | rfl
 ·exact hpost
 ·exact hpost
def AV.imp (x y:AV):Prop:=∀ (I:Nat→Nat→Prop) (w:World) (v:Value),R0 I w x v→R0 I w y v
theorem AV.imp.refl {x:AV}:AV.imp x x:=fun _ _ _ h=>h
theorem Az {f:FuncId} {fn:Func} {code:Code} {ac:zc} {ras:List zB} {args:List AV} {r:AV} {K:Exit→St→Prop} (hK0:∀ e s,K e s→(e=.normal∨e=.ret)∧∃ r0,pC ras s=some r0∧AV.imp r0 r) (hf:P.funcs[f]?=some fn) (hb:fn.body=some code)
  (htr:yj P fn.ntmps code=some (bare ac)) (hres:yx (rg P) fn.results.toList=some ras) (hn:args.length≤fn.ntmps)
  (h:awp P ac {env:=t9 0 args,sto:=[]} K):zd P f args r:=by
 intro I vs w hI hs hR
 refine calls_of_wp hf hb ?_
 have hH:Holds {w0:=w,I0:=I,N:=fn.ntmps} {env:=t9 0 args,sto:=[]} {tmps:=vs++Array.replicate (fn.ntmps-vs.size) undef,defers:=[]} w:=by
  refine ⟨I,fun _=>none,fun _=>none,?_⟩
  refine
   {defers:=rfl
    size:=by simp; omega
    below:=Below.refl _ _
    env:=fun t x ht=>?_
    sto:=fun k en hk=>by simp[lk] at hk
    usto:=fun l sz rows hk=>by simp[lk] at hk
    bdom:=fun k b hk=>by cases hk
    binj:=fun k k' b hk=>by cases hk
    bnew:=fun k b hk=>by cases hk
    Isub:=hI
    I0sub:=fun _ _ h=>h
    Inew:=fun _ _ h=>.inl h
    spare:=fun l a len cap sz hl=>by cases hl
    ldis:=fun l l' b o o' len len' cap cap' sz sz' _ h1=>by cases h1}
  obtain ⟨d,t⟩:=t
  cases d with
  | succ d=>simp[St.look] at ht
  | zero=>?_
  obtain ⟨j,rfl,hj⟩:=PR _ _ _ _ ht
  have hlt:j<vs.size:=by
   have:=(List.getElem?_eq_some_iff.1 hj).1
   omega
  refine ⟨vs.getD j undef,?_,.base (hR j x hj)⟩
  simp only[z3.val]
  rw[Nat.zero_add,Array.getElem?_append_left hlt]
  simp[hlt]
 refine Us (F:={w0:=w,I0:=I,N:=fn.ntmps}) code ac htr hH h fun e s a' w' _ hK hH'=>?_
 obtain ⟨he,r0,hr,himp⟩:=hK0 _ _ hK
 obtain ⟨I',β,lam,hI'⟩:=hH'
 obtain ⟨xs,hxs,rfl⟩:=BS hr
 have hJ:∀ b o,Seen I' β lam b o→(I b o∨w.heap.size≤b)∧b<w'.heap.size:=by
  intro b o hb
  rcases hb with hb | ⟨k,hb⟩ | ⟨l,p,cap,sz,hl,h0⟩
  ·exact ⟨hI'.Inew b o hb,hI'.Isub b o hb⟩
  ·exact ⟨.inr (hI'.bnew k b hb).1,(hI'.bnew k b hb).2.1⟩
  ·obtain ⟨g1,g2,_⟩:=hI'.ublock hl h0
   exact ⟨.inr g1,g2⟩
 obtain ⟨v,hrun,hRv⟩:=YK (fn:=fn) (rd:=Sr s) (Rel:=R0 (fun b o=>(I b o∨w.heap.size≤b)∧b<w'.heap.size) w') (fun rv ra x h1 h2=>by
   obtain ⟨v,g1,g2⟩:=abR hI' h1 h2
   exact ⟨v,g1,g2.mono hJ (fun _ _ _ _ h=>h)⟩) (fun xs vs _ h2 h3=>.tuple xs vs h2 h3) hres hxs
 have hpost:a'.defers=[]∧∃ v,(results fn a'.tmps).run P w'=.ok v w'∧∃ u,Ending.returned v=.returned u∧Below w.heap.size w w'∧R0 (fun b o=>(I b o∨w.heap.size≤b)∧b<w'.heap.size) w' r u :=
  ⟨hI'.defers,v,hrun,v,rfl,hI'.below,himp _ _ _ hRv⟩
 rcases he with rfl | rfl
 ·exact hpost
 ·exact hpost
end
def zq (P:Program) (f:FuncId):Option (zc × List zB × Nat) :=
 match P.funcs[f]? with
 | some fn=>match fn.body with
  | some c=>match yj P fn.ntmps c,yx (rg P) fn.results.toList with
   | some a,some r=>some (a,r,fn.ntmps)
   | _,_=>none
  | none=>none
 | none=>none
theorem Dl {P:Program} {f:FuncId} {ac:zc} {ras:List zB} {N:Nat} {args:List AV} {r:AV} {K:Exit→St→Prop} (hK0:∀ e s,K e s→(e=.normal∨e=.ret)∧∃ r0,pC ras s=some r0∧AV.imp r0 r) (ht:zq P f=some (bare ac,ras,N)) (hn:args.length≤N)
  (h:awp P ac {env:=t9 0 args,sto:=[]} K):zd P f args r:=by
 unfold zq at ht
 split at ht
 ·rename_i fn hf
  split at ht
  ·rename_i c hb
   split at ht
   ·rename_i a r' ha hr
    simp only[Option.some.injEq,Prod.mk.injEq] at ht
    obtain ⟨rfl,rfl,rfl⟩:=ht
    exact Az hK0 hf hb ha hr hn h
   ·cases ht
  ·cases ht
 ·cases ht
theorem sound {P:Program} {f:FuncId} {ac:zc} {ras:List zB} {N:Nat} {args:List AV} {r:AV} (ht:zq P f=some (bare ac,ras,N)) (hn:args.length≤N)
  (h:awp P ac {env:=t9 0 args,sto:=[]} fun e s=>(e=.normal∨e=.ret)∧pC ras s=some r):zd P f args r :=
 Dl (fun _ _ h=>⟨h.1,r,h.2,AV.imp.refl⟩) ht hn h
theorem ad9 {P:Program} {f:FuncId} {ac:zc} {ras:List zB} {N:Nat} {args:List AV} {s:St} {K:AV→St→Prop} (B:Nat) (ht:zq P f=some (bare ac,ras,N)) (hn:args.length≤N)
  (h:awp P ac {env:=t9 0 args,sto:=s.sto,out:=s.env::s.out,base:=B} fun e s'=>(e=.normal∨e=.ret)∧∃ xs e0 o0,yx (mU s') ras=some xs∧s'.out=e0::o0∧K (tup xs) {env:=e0,sto:=s'.sto,out:=o0,base:=s.base}):yc P f args s K:=by
 unfold zq at ht
 split at ht
 ·rename_i fn hf
  split at ht
  ·rename_i c hb
   split at ht
   ·rename_i a r' ha hr
    simp only[Option.some.injEq,Prod.mk.injEq] at ht
    obtain ⟨rfl,rfl,rfl⟩:=ht
    exact Ce B hf hb ha hr hn h
   ·cases ht
  ·cases ht
 ·cases ht
abbrev iv (n:Int):AV:=.val (.int .i64 n)
abbrev bv (b:Bool):AV:=.val (.bool b)
def Pk (D DK:List Nat) (K:Exit→St→Prop):St→Prop:=fun s=>ZK (s.drop D) DK fun s=>K .normal s
def adV (P:Program) (ops:List zi) (D DK:List Nat) (K:Exit→St→Prop):St→Prop:=fun s=>zj P ops s (Pk D DK K)
def rX (P:Program) (b:zc) (K:Exit→St→Prop):Exit→St→Prop:=NC (awp P b) K
def wZ (id:Nat) (K:Exit→St→Prop):Exit→St→Prop:=X7 id K
def eg (P:Program) (os:List zi) (K:St→Prop):St→Prop:=fun s=>zj P os s K
def xm (P:Program) (os:List zi) (s:St) (d:Option Nat) (K:St→Prop):AV→Option ze→Prop:=fun x e=>zj P os ((s.put d x).new d e) K
def pn (x:AV) (A B:Prop):Prop :=
 match x with
 | .val (.bool c)=>(c=true→A)∧(c=false→B)
 | _=>False
def rO (x:AV) (b:Bool) (A B:Prop):Prop :=
 match x with
 | .val (.bool c)=>(c=b→A)∧(c=!b→B)
 | .val _=>B
 | _=>False
theorem agj {s:St} {n:Nat}:ev s (.t n)=(lk s.env n).getD .undef:=congrArg (fun x=>x) rfl
theorem agi {s:St} {x:AV}:ev s (.c x)=x:=congrArg (fun x=>x) rfl
theorem adv {s:St} {n:Nat}:s.get n=(lk s.env n).getD .undef:=congrArg (fun x=>x) rfl
@[congr] theorem aen {x x':AV} {A B:Prop} (h:Unit→x=x'):pn x A B=pn x' A B:=by rw[h ()]
@[congr] theorem adw {x x':AV} {b:Bool} {A B:Prop} (h:Unit→x=x'):rO x b A B=rO x' b A B:=by rw[h ()]
section
variable {P:Program} {s:St} {K:Exit→St→Prop} {KS:St→Prop} {os:List zi}
theorem KY {A B:Prop}:pn (bv true) A B=A:=by simp[pn]
theorem Mo {A B:Prop}:pn (bv false) A B=B:=by simp[pn]
theorem KX {c:Bool} {A B:Prop}:pn (bv c) A B=((c=true→A)∧(c=false→B)):=propext Iff.rfl
theorem Jj {b:Bool} {A B:Prop}:rO (bv b) b A B=A:=by cases b<;>simp[rO]
theorem PB {A B:Prop}:rO (bv true) false A B=B:=by simp[rO]
theorem PC {A B:Prop}:rO (bv false) true A B=B:=by simp[rO]
theorem MA {b:Bool} {A B:Prop}:rO (.val undef) b A B=B:=propext Iff.rfl
theorem D4:awp P .skip s K=K .normal s:=propext Iff.rfl
theorem KN {d:Bool} {FK:List Nat} {D DK:List Nat} {ops:List zi}:awp P (.region d FK ops D DK) s K=sL FK s (adV P ops D DK K):=propext Iff.rfl
theorem aau {a b:zc}:awp P (.seq a b) s K=awp P a s (rX P b K):=propext Iff.rfl
theorem D1 {c:Opd} {a b:zc}:awp P (.cond c a b) s K=pn (ev s c) (awp P a s K) (awp P b s K):=propext Iff.rfl
theorem GE {id:Nat} {a:zc}:awp P (.block id a) s K=awp P a s (wZ id K):=propext Iff.rfl
theorem D3 {l:Nat}:awp P (.goto l) s K=K (.goto l) s:=propext Iff.rfl
theorem D2 {id:Nat}:awp P (.exit id) s K=K (.exit id) s:=propext Iff.rfl
theorem aat:awp P .ret s K=K .ret s:=propext Iff.rfl
theorem abN {D DK:List Nat} {ops:List zi}:adV P ops D DK K s=zj P ops s (Pk D DK K):=propext Iff.rfl
theorem LI {D DK:List Nat}:Pk D DK K s=(l8 (lk s.sto) (DK.map (s.base+·)) ⟨del D s.env,del (DK.map (s.base+·)) s.sto,s.out,s.base⟩=true∧K .normal ⟨del D s.env,del (DK.map (s.base+·)) s.sto,s.out,s.base⟩):=propext Iff.rfl
theorem LD {α:Type} (l:List (Nat × α)):del [] l=l:=by
 induction l with
 | nil=>rfl
 | cons p l ih=>simp[del,ih]
theorem CQ {D:List Nat}:Pk D [] K s=K .normal ⟨del D s.env,s.sto,s.out,s.base⟩:=by
 rw[LI]
 simp[l8,LD]
theorem MT {b:zc}:rX P b K .normal s=awp P b s K:=propext Iff.rfl
theorem EV {b:zc} {i:Nat}:rX P b K (.exit i) s=K (.exit i) s:=propext Iff.rfl
theorem Ac {b:zc}:rX P b K .ret s=K .ret s:=propext Iff.rfl
theorem R2 {i:Nat}:wZ i K .normal s=K .normal s:=propext Iff.rfl
theorem Mi {i j:Nat}:wZ i K (.exit j) s=if j=i then K .normal s else K (.exit j) s:=propext Iff.rfl
theorem KQ {i:Nat}:wZ i K .ret s=K .ret s:=propext Iff.rfl
theorem EW {b:zc} {i:Nat}:rX P b K (.goto i) s=K (.goto i) s:=propext Iff.rfl
theorem Mj {i j:Nat}:wZ i K (.goto j) s=K (.goto j) s:=propext Iff.rfl
theorem Mw:sL [] s KS=KS s:=propext Iff.rfl
theorem abB:zj P [] s KS=KS s:=propext Iff.rfl
theorem Eg {d:Option Nat} {op:AOp} {xs:List Opd} {g:Nat} {b:Bool}:zj P (⟨d,op,xs,some (g,b)⟩::os) s KS =
  rO (s.get g) b (zj P (⟨d,op,xs,none⟩::os) s KS) (zj P os (s.put d (.val undef)) KS):=propext Iff.rfl
variable {d:Nat}
theorem abA {x:Opd}:zj P (⟨some d,.mov,[x],none⟩::os) s KS=zj P os ⟨pt s.env d (ev s x),s.sto,s.out,s.base⟩ KS:=propext Iff.rfl
theorem Bx {c a b:Opd}:zj P (⟨some d,.pick,[c,a,b],none⟩::os) s KS=pn (ev s c) (zj P os ⟨pt s.env d (ev s a),s.sto,s.out,s.base⟩ KS) (zj P os ⟨pt s.env d (ev s b),s.sto,s.out,s.base⟩ KS):=by
 show (match [ev s c,ev s a,ev s b] with | [.val (.bool t),a,b]=>(t=true→xm P os s (some d) KS a none)∧(t=false→xm P os s (some d) KS b none) | _=>False)=_
 unfold pn
 cases ev s c<;>try rfl
 rename_i v
 cases v<;>rfl
theorem F9 {cells:List AV}:zj P (⟨some d,.alloc cells,[],none⟩::os) s KS=(lk s.sto (s.base+d)=none∧zj P os ⟨pt s.env d (.ptr (s.base+d) 0),pt s.sto (s.base+d) (.var cells),s.out,s.base⟩ KS):=propext Iff.rfl
def pQ (x:Option AV) (P:Program) (os:List zi) (s:St) (d:Nat) (KS:St→Prop):Prop :=
 match x with
 | some v=>zj P os ⟨pt s.env d v,s.sto,s.out,s.base⟩ KS
 | none=>False
theorem El {v:AV}:pQ (some v) P os s d KS=zj P os ⟨pt s.env d v,s.sto,s.out,s.base⟩ KS:=propext Iff.rfl
theorem abw {d:Option Nat} {o:BinOp} {t:TypeId} {ox oy:Operand} {x y:Opd}:zj P (⟨d,.bin o t ox oy,[x,y],none⟩::os) s KS=z9 P o t ox oy [ev s x,ev s y] (xm P os s d KS):=propext Iff.rfl
theorem Bt {d:Option Nat} {n:Option Nat} {x:Opd}:zj P (⟨d,.load n,[x],none⟩::os) s KS=lb (lk s.sto) n [ev s x] (xm P os s d KS):=propext Iff.rfl
theorem Jz {d:Option Nat} {n m:Nat} {x y:Opd}:zj P (⟨d,.iaddrA n m,[x,y],none⟩::os) s KS=nk n m [ev s x,ev s y] (xm P os s d KS):=propext Iff.rfl
theorem JA {d:Option Nat} {n:Nat} {x y:Opd}:zj P (⟨d,.iaddrS n,[x,y],none⟩::os) s KS=y9 n [ev s x,ev s y] (xm P os s d KS):=propext Iff.rfl
theorem Ei {d:Option Nat} {n:Nat} {a b c:Bool} {xs:List Opd}:zj P (⟨d,.slice n a b c,xs,none⟩::os) s KS=qZ n a b c (xs.map (ev s)) (xm P os s d KS):=propext Iff.rfl
theorem adK {d:Option Nat} {n m:Nat} {z:List AV} {x y:Opd}:zj P (⟨d,.mk n m z,[x,y],none⟩::os) s KS=eMk n m z (s.base+d.getD 0) (lk s.sto) [ev s x,ev s y] (xm P os s d KS):=propext Iff.rfl
theorem aby {d:Option Nat} {b:Bool} {x:Opd}:zj P (⟨d,.len b,[x],none⟩::os) s KS=mA b [ev s x] (xm P os s d KS):=propext Iff.rfl
theorem Bq {d:Option Nat} {f:FuncId} {xs:List Opd}:zj P (⟨d,.call f,xs,none⟩::os) s KS=xX P f (lk s.sto) (xs.map (ev s)) (xm P os s d KS):=propext Iff.rfl
theorem abz {d:Nat} {f:FuncId} {xs:List Opd}:zj P (⟨some d,.mkb f,xs,none⟩::os) s KS=zj P os ⟨pt s.env d (.fn (.via 0 #[] f false) ((xs.map (ev s)).map strip)),s.sto,s.out,s.base⟩ KS:=propext Iff.rfl
theorem Bu {d:Nat} {f:FuncId} {xs:List Opd}:zj P (⟨some d,.mkfn f,xs,none⟩::os) s KS=zj P os ⟨pt s.env d (.fn (.func f) ((xs.map (ev s)).map strip)),s.sto,s.out,s.base⟩ KS:=propext Iff.rfl
theorem Bv {d:Nat} {t:TypeId} {x:Opd}:zj P (⟨some d,.mkif t,[x],none⟩::os) s KS=(rf (ev s x)=true∧zj P os ⟨pt s.env d (.iface t (strip (ev s x))),s.sto,s.out,s.base⟩ KS):=propext Iff.rfl
def unA (P:Program) (op:UnOp):AV→Option AV
 | .val v=>(zr P (Op.unary op v)).map ofV
 | _=>none
def ZH (P:Program) (a b:TypeId):AV→Option AV
 | .val v=>(zr P (convert a b v)).map ofV
 | _=>none
def j1 (off:Nat) (n:Option Nat):AV→Option AV
 | .agg cells=>vu cells off n
 | .raw cells=>zH cells off n
 | _=>none
def Pp (off:Nat):AV→Option AV
 | .ptr j o=>some (.ptr j (o+off))
 | .eptr j sz i o=>some (.eptr j sz i (o+off))
 | .up j sz i o=>some (.up j sz i (o+off))
 | .ro cells=>some (.ro (cells.drop off))
 | _=>none
def Uz (i:Nat):AV→Option AV
 | .tuple vs=>vs[i]?
 | _=>none
def xH:AV→Option AV
 | .ptr j off=>some (.ptr j off)
 | .eptr j sz i off=>some (.eptr j sz i off)
 | .up j sz i off=>some (.up j sz i off)
 | .ro cells=>some (.ro cells)
 | .fn f caps=>some (.fn f caps)
 | _=>none
theorem adM {o:UnOp} {x:Opd}:zj P (⟨some d,.un o,[x],none⟩::os) s KS=pQ (unA P o (ev s x)) P os s d KS:=by
 show zJ P (s.base+d) (.un o) [ev s x] (lk s.sto) (xm P os s (some d) KS)=_
 simp only[zJ]
 cases ev s x<;>try rfl
 rename_i v
 simp only[unA]
 cases zr P (Op.unary o v)<;>rfl
theorem Br {a b:TypeId} {x:Opd}:zj P (⟨some d,.conv a b,[x],none⟩::os) s KS=pQ (ZH P a b (ev s x)) P os s d KS:=by
 show zJ P (s.base+d) (.conv a b) [ev s x] (lk s.sto) (xm P os s (some d) KS)=_
 simp only[zJ]
 cases ev s x<;>try rfl
 rename_i v
 simp only[ZH]
 cases zr P (convert a b v)<;>rfl
theorem Ef {off:Nat} {n:Option Nat} {x:Opd}:zj P (⟨some d,.field off n,[x],none⟩::os) s KS=pQ (j1 off n (ev s x)) P os s d KS:=by
 show zJ P (s.base+d) (.field off n) [ev s x] (lk s.sto) (xm P os s (some d) KS)=_
 simp only[zJ]
 cases ev s x<;>try rfl
 ·rename_i v
  simp only[j1]
  cases vu v off n<;>rfl
 ·rename_i v
  simp only[j1]
  cases zH v off n<;>rfl
theorem Ee {off:Nat} {x:Opd}:zj P (⟨some d,.faddr off,[x],none⟩::os) s KS=pQ (Pp off (ev s x)) P os s d KS:=by
 show zJ P (s.base+d) (.faddr off) [ev s x] (lk s.sto) (xm P os s (some d) KS)=_
 simp only[zJ]
 cases ev s x<;>rfl
theorem MF {i:Nat} {x:Opd}:zj P (⟨some d,.extract i,[x],none⟩::os) s KS=pQ (Uz i (ev s x)) P os s d KS:=by
 show zJ P (s.base+d) (.extract i) [ev s x] (lk s.sto) (xm P os s (some d) KS)=_
 simp only[zJ]
 cases ev s x<;>try rfl
 rename_i v
 simp only[Uz]
 cases v[i]?<;>rfl
theorem JD {x:Opd}:zj P (⟨some d,.nilChk,[x],none⟩::os) s KS=pQ (xH (ev s x)) P os s d KS:=by
 show zJ P (s.base+d) .nilChk [ev s x] (lk s.sto) (xm P os s (some d) KS)=_
 simp only[zJ]
 cases ev s x<;>rfl
theorem Ea {z:List AV} {ps:List (Nat × Nat)} {xs:List Opd}:zj P (⟨some d,.build z ps,xs,none⟩::os) s KS=pQ (orR (uZ z ps (xs.map (ev s))) (t5 z ps (xs.map (ev s)))) P os s d KS:=by
 show zJ P (s.base+d) (.build z ps) (xs.map (ev s)) (lk s.sto) (xm P os s (some d) KS)=_
 simp only[zJ]
 cases orR (uZ z ps (xs.map (ev s))) (t5 z ps (xs.map (ev s)))<;>rfl
def orL (sz:Nat):Option (List (List AV))→Option (List (List AV))→Option AV
 | some rows,_=>some (.list sz .full rows)
 | none,some rows=>some (.lit sz rows)
 | none,none=>none
@[congr] theorem afU {a a' b:Option (List AV)} (h:a=a'):orR a b=orR a' b:=by rw[h]
@[congr] theorem afT {sz:Nat} {a a' b:Option (List (List AV))} (h:a=a'):orL sz a b=orL sz a' b:=by rw[h]
theorem BF {cs:List AV} {b:Option (List AV)}:orR (some cs) b=some (.agg cs):=by cases b<;>exact congrArg (fun x=>x) rfl
theorem BE {b:Option (List AV)}:orR none b=b.map .raw:=by cases b<;>exact congrArg (fun x=>x) rfl
theorem BD {sz:Nat} {rows:List (List AV)} {b:Option (List (List AV))}:orL sz (some rows) b=some (.list sz .full rows):=by cases b<;>exact congrArg (fun x=>x) rfl
theorem BC {sz:Nat} {b:Option (List (List AV))}:orL sz none b=b.map (.lit sz):=by cases b<;>exact congrArg (fun x=>x) rfl
theorem Nh {sz n:Nat} {z:List AV} {ps:List Nat} {xs:List Opd} (h1:z.length=sz) (h2:0<sz) :
  zj P (⟨some d,.mksliceL sz n z ps,xs,none⟩::os) s KS=pQ ((wg sz (List.replicate n z) ps (xs.map (ev s))).map (.lit sz)) P os s d KS:=by
 show zJ P (s.base+d) (.mksliceL sz n z ps) (xs.map (ev s)) (lk s.sto) (xm P os s (some d) KS)=_
 simp only[zJ]
 cases wg sz (List.replicate n z) ps (xs.map (ev s)) with
 | none=>rfl
 | some rows=>simp only[h1,h2,true_and]; rfl
theorem Eh:zj P (⟨some d,.mkmap,[],none⟩::os) s KS=(lk s.sto (s.base+d)=none∧zj P os ⟨pt s.env d (.mp (s.base+d)),pt s.sto (s.base+d) (.map #[] 0),s.out,s.base⟩ KS):=propext Iff.rfl
theorem JB {d:Option Nat} {t:TypeId} {ok:Bool} {x y:Opd}:zj P (⟨d,.lookup t ok,[x,y],none⟩::os) s KS=ur P t ok (lk s.sto) [ev s x,ev s y] (xm P os s d KS):=propext Iff.rfl
theorem JC {d:Option Nat} {t:TypeId} {x y z:Opd}:zj P (⟨d,.mapset t,[x,y,z],none⟩::os) s KS=tq P t s d (eg P os KS) [ev s x,ev s y,ev s z]:=propext Iff.rfl
theorem MG {sz n:Nat} {z:List AV} {ps:List Nat} {xs:List Opd} (h1:z.length=sz) (h2:0<sz) :
  zj P (⟨some d,.mkslice sz n z ps,xs,none⟩::os) s KS=pQ (orL sz (uh sz (List.replicate n z) ps (xs.map (ev s))) (wg sz (List.replicate n z) ps (xs.map (ev s)))) P os s d KS:=by
 show zJ P (s.base+d) (.mkslice sz n z ps) (xs.map (ev s)) (lk s.sto) (xm P os s (some d) KS)=_
 simp only[zJ]
 cases uh sz (List.replicate n z) ps (xs.map (ev s)) with
 | none =>
  cases wg sz (List.replicate n z) ps (xs.map (ev s)) with
  | none=>rfl
  | some rows=>simp only[h1,h2,true_and]; rfl
 | some rows=>simp only[h1,h2,true_and]; rfl
def Su (ras:List zB) (r:AV):Exit→St→Prop:=fun e s=>(e=.normal∨e=.ret)∧pC ras s=some r
theorem BU {ras:List zB} {r:AV}:Su ras r .ret s=(pC ras s=some r):=by simp[Su]
theorem MO {ras:List zB} {r:AV}:Su ras r .normal s=(pC ras s=some r):=by simp[Su]
theorem zC {f:FuncId} {ac:zc} {ras:List zB} {N:Nat} {args:List AV} {r:AV} (ht:zq P f=some (bare ac,ras,N)) (hn:args.length≤N)
  (h:awp P ac ⟨t9 0 args,[],[],0⟩ (Su ras r)):zd P f args r:=sound ht hn h
def cy (ras:List zB) (r:AV):Exit→St→Prop:=fun e s=>(e=.normal∨e=.ret)∧∃ r0,pC ras s=some r0∧AV.imp r0 r
theorem BV {ras:List zB} {r:AV}:cy ras r .ret s=∃ r0,pC ras s=some r0∧AV.imp r0 r:=by simp[cy]
theorem MP {ras:List zB} {r:AV}:cy ras r .normal s=∃ r0,pC ras s=some r0∧AV.imp r0 r:=by simp[cy]
theorem wR {f:FuncId} {ac:zc} {ras:List zB} {N:Nat} {args:List AV} {r:AV} (ht:zq P f=some (bare ac,ras,N)) (hn:args.length≤N)
  (h:awp P ac ⟨t9 0 args,[],[],0⟩ (cy ras r)):zd P f args r:=Dl (fun _ _ h=>h) ht hn h
def ac4 (x:Option (List AV)) (P:Program) (os:List zi) (s:St) (d:Nat) (KS:St→Prop):Prop :=
 match x with
 | some cs=>lk s.sto (s.base+d)=none∧zj P os ⟨pt s.env d (.ptr (s.base+d) 0),pt s.sto (s.base+d) (.var cs),s.out,s.base⟩ KS
 | none=>False
theorem GL {cs:List AV}:ac4 (some cs) P os s d KS=(lk s.sto (s.base+d)=none∧zj P os ⟨pt s.env d (.ptr (s.base+d) 0),pt s.sto (s.base+d) (.var cs),s.out,s.base⟩ KS):=propext Iff.rfl
theorem abx {x:Opd}:zj P (⟨some d,.box,[x],none⟩::os) s KS=ac4 (cellsOf (ev s x)) P os s d KS:=propext Iff.rfl
theorem Bz {x:Option AV}:xM x (xm P os s (some d) KS)=pQ x P os s d KS:=by cases x<;>rfl
theorem Ni {x:Option Value}:yL x (xm P os s (some d) KS)=pQ (x.map ofV) P os s d KS:=by cases x<;>rfl
theorem Ey {v:AV}:xm P os s (some d) KS v none=zj P os ⟨pt s.env d v,s.sto,s.out,s.base⟩ KS:=propext Iff.rfl
theorem JH {v:AV}:xm P os s none KS v none=zj P os s KS:=propext Iff.rfl
theorem Ez {v:AV} {e:ze}:xm P os s (some d) KS v (some e)=zj P os ⟨pt s.env d v,pt s.sto (s.base+d) e,s.out,s.base⟩ KS:=propext Iff.rfl
theorem Ek {n:Nat} {a b:Opd}:zj P (⟨none,.store n,[a,b],none⟩::os) s KS=nP n s none [ev s a,ev s b] (eg P os KS):=propext Iff.rfl
theorem ME {sz by_:Nat} {a b:Opd} {d:Option Nat}:zj P (⟨d,.appendU sz by_,[a,b],none⟩::os) s KS=xc sz by_ s d (eg P os KS) [ev s a,ev s b]:=propext Iff.rfl
theorem Eb {f:FuncId} {xs:List Opd} {d:Option Nat}:zj P (⟨d,.callI f,xs,none⟩::os) s KS=(yZ P f=true∧tp P f (xs.map (ev s)) s d (eg P os KS)):=propext Iff.rfl
theorem Bw {neg:Bool} {x:Opd} {d:Option Nat}:zj P (⟨d,.nilS neg,[x],none⟩::os) s KS=fb neg s d (eg P os KS) [ev s x]:=propext Iff.rfl
theorem K6 {neg:Bool} {d:Option Nat} {sz:Nat} {m:Mode} {rows:List (List AV)} {K:St→Prop}:fb neg s d K [.list sz m rows]=((rows=[]→K (s.put d (bv true))∧K (s.put d (bv false)))∧(rows≠[]→K (s.put d (bv neg)))):=by
 simp only[fb,P6,List.length_eq_zero_iff,ne_eq]
theorem abv:eg P os KS s=zj P os s KS:=propext Iff.rfl
theorem Jy {sz by_:Nat} {a b:Opd} {d:Option Nat}:zj P (⟨d,.append sz by_,[a,b],none⟩::os) s KS=wc sz by_ s d (eg P os KS) [ev s a,ev s b]:=propext Iff.rfl
end
section
variable {P:Program} {t:TypeId} {ox oy:Operand} {k:IntKind} {a b:Int} {K:AV→Option ze→Prop}
theorem CD:z9 P .add t ox oy [.val (.int k a),.val (.int k b)] K=K (.val (.int k (k.wrap (a+b)))) none:=by
 simp[z9,toV,zr,eqGuard,binOp,Op.intArith,yL,ofV,yW,bind,Sem.bind,pure]
theorem CN:z9 P .sub t ox oy [.val (.int k a),.val (.int k b)] K=K (.val (.int k (k.wrap (a-b)))) none:=by
 simp[z9,toV,zr,eqGuard,binOp,Op.intArith,yL,ofV,yW,bind,Sem.bind,pure]
theorem CL:z9 P .mul t ox oy [.val (.int k a),.val (.int k b)] K=K (.val (.int k (k.wrap (a*b)))) none:=by
 simp[z9,toV,zr,eqGuard,binOp,Op.intArith,yL,ofV,yW,bind,Sem.bind,pure]
theorem CK:z9 P .lss t ox oy [.val (.int k a),.val (.int k b)] K=K (bv (decide (a<b))) none:=by
 simp[z9,toV,zr,eqGuard,binOp,Op.intCmp,yL,ofV,yW,bind,Sem.bind,pure]
theorem CJ:z9 P .leq t ox oy [.val (.int k a),.val (.int k b)] K=K (bv (decide (a≤b))) none:=by
 simp[z9,toV,zr,eqGuard,binOp,Op.intCmp,yL,ofV,yW,bind,Sem.bind,pure]
theorem CH:z9 P .gtr t ox oy [.val (.int k a),.val (.int k b)] K=K (bv (decide (b<a))) none:=by
 simp[z9,toV,zr,eqGuard,binOp,Op.intCmp,yL,ofV,yW,bind,Sem.bind,pure]
theorem CG:z9 P .geq t ox oy [.val (.int k a),.val (.int k b)] K=K (bv (decide (b≤a))) none:=by
 simp[z9,toV,zr,eqGuard,binOp,Op.intCmp,yL,ofV,yW,bind,Sem.bind,pure]
theorem CF:z9 P .eql t ox oy [.val (.int k a),.val (.int k b)] K=K (bv (decide (a=b))) none:=by
 simp[z9,toV,zr,eqGuard,binOp,Op.intCmp,yL,ofV,yW,bind,Sem.bind,pure]
 rfl
theorem CM:z9 P .neq t ox oy [.val (.int k a),.val (.int k b)] K=K (bv (decide (a≠b))) none:=by
 simp[z9,toV,zr,eqGuard,binOp,Op.intCmp,yL,ofV,yW,bind,Sem.bind,pure]
 rfl
theorem aei {c:Bool}:zr P (Op.unary .not (.bool c))=some (.bool !c):=by
 simp[zr,Op.unary,pure]
theorem wrap64 {n:Int} (h1:-9223372036854775808≤n) (h2:n≤9223372036854775807):IntKind.i64.wrap n=n:=IntWalk.i64_in n ⟨h1,h2⟩
end
theorem Gb {cells:List AV} {off:Nat} {x:AV} (h:off<cells.length):splice cells off [x]=cells.set off x:=by
 unfold splice
 rw[List.set_eq_take_append_cons_drop,if_pos h]
 simp
theorem Ga {cells cs:List AV} (h:cs.length=cells.length):splice cells 0 cs=cs:=by
 unfold splice
 simp[h]
theorem GB (k:Nat) (l:List Int):xg k (l.map iv)=false:=by
 induction l with
 | nil=>rfl
 | cons x l ih=>simp[ih,xg,zT]
theorem NZ:strip∘iv=iv:=rfl
theorem Rl {l:List Int} {n:Nat} (h:l.length=n):zH (l.map iv) 0 (some n)=some (.agg (l.map iv)):=by
 have h1:(l.map iv).all rf=true:=by simp[rf]
 have h2:(l.map iv).map strip=l.map iv:=by simp[NZ]
 simp only[zH,List.drop_zero]
 rw[List.take_of_length_le (by simp; omega),if_pos ⟨by simp; omega,h1⟩,h2]
theorem Mz (cells:List AV) (off:Nat):zH cells off none=cells[off]?:=by simp[zH]
section
variable {σ:Nat→Option ze}
theorem J7:wB σ .undef=some .undef:=rfl
theorem Ay {v:Value}:wB σ (.val v)=some (.val v):=rfl
theorem Aw {c:List AV}:wB σ (.agg c)=some (.agg c):=rfl
theorem J6 {c:List AV}:wB σ (.tuple c)=if c.all rf=true then some (.tuple (c.map strip)) else none:=rfl
theorem Dk {sz:Nat} {m:Mode} {r:List (List AV)}:wB σ (.list sz m r)=some (strip (.list sz m r)):=rfl
theorem ab6 {c:List AV}:wB σ (.ro c)=some (.ro c):=rfl
theorem Ax {k off:Nat}:wB σ (.ptr k off)=(match σ k with
  | some (.var cells)=>if (cells.drop off).all rf=true then some (.ro ((cells.drop off).map strip)) else (yx (xK σ) (cells.drop off)).map .ro
  | _=>none):=rfl
theorem Dg {v:Value}:xK σ (.val v)=some (.val v):=rfl
theorem Df {c:List AV}:xK σ (.agg c)=some (.agg c):=rfl
theorem J3 {sz:Nat} {m:Mode} {r:List (List AV)}:xK σ (.list sz m r)=some (strip (.list sz m r)):=rfl
theorem As {c:List AV}:xK σ (.ro c)=some (.ro c):=rfl
theorem Au {k sz off n:Nat}:xK σ (.us k sz off n)=(match σ k with
  | some (.uarr sz' rows)=>if sz'=sz∧off+n≤rows.length∧xk ((rows.drop off).take n)=true then some (.list sz .plain (zP ((rows.drop off).take n))) else none
  | _=>none):=rfl
theorem At {k sz off n:Nat}:xK σ (.sl k sz off n)=(match σ k with
  | some (.arr sz' rows)=>if sz'=sz∧off+n≤rows.length then some (.list sz .plain ((rows.drop off).take n)) else none
  | _=>none):=rfl
theorem Dj {k sz i off:Nat}:wB σ (.eptr k sz i off)=(match σ k with
  | some (.arr sz' rows)=>if sz'=sz then (rows[i]?).map fun r=>.ro (r.drop off) else none
  | _=>none):=rfl
theorem ab7 {k sz off n:Nat}:wB σ (.sl k sz off n)=(match σ k with
  | some (.arr sz' rows)=>if sz'=sz∧off+n≤rows.length then some (.list sz .plain ((rows.drop off).take n)) else none
  | _=>none):=rfl
theorem ab9 {k sz off n:Nat}:wB σ (.us k sz off n)=(match σ k with
  | some (.uarr sz' rows)=>if sz'=sz∧off+n≤rows.length∧xk ((rows.drop off).take n)=true then some (.list sz .plain (zP ((rows.drop off).take n))) else none
  | _=>none):=rfl
theorem ab8 {k sz i off:Nat}:wB σ (.up k sz i off)=(match σ k with
  | some (.uarr sz' rows)=>match rows[i]? with
   | some r=>if sz'=sz∧(r.drop off).all rf=true then some (.ro ((r.drop off).map strip)) else none
   | none=>none
  | _=>none):=rfl
theorem J5 {t:TypeId} {x:AV}:wB σ (.iface t x)=some (.iface t x):=rfl
theorem ab5 {f:Fn} {caps:List AV}:wB σ (.fn f caps)=(yx (k8 σ) caps).map (.fn f):=rfl
theorem Di {v:Value}:k8 σ (.val v)=some (.val v):=rfl
theorem Dh {c:List AV}:k8 σ (.agg c)=some (.agg c):=rfl
theorem J4 {sz:Nat} {m:Mode} {r:List (List AV)}:k8 σ (.list sz m r)=some (strip (.list sz m r)):=rfl
theorem Av {c:List AV}:k8 σ (.ro c)=some (.ro c):=rfl
end
theorem M0:strip .undef=.undef:=rfl
theorem Dt {v:Value}:strip (.val v)=.val v:=rfl
theorem Dr {c:List AV}:strip (.agg c)=.agg c:=rfl
theorem MZ {c:List AV}:strip (.tuple c)=.tuple c:=rfl
theorem AE {c:List AV}:strip (.ro c)=.ro c:=rfl
theorem Ds {k o:Nat}:strip (.ptr k o)=.ptr k o:=rfl
theorem Gp {k sz i o:Nat}:strip (.eptr k sz i o)=.eptr k sz i o:=rfl
theorem AF {k sz o n:Nat}:strip (.sl k sz o n)=.sl k sz o n:=rfl
theorem AH {k sz o n:Nat}:strip (.us k sz o n)=.us k sz o n:=rfl
theorem AG {k sz i o:Nat}:strip (.up k sz i o)=.up k sz i o:=rfl
theorem MY {t:TypeId} {x:AV}:strip (.iface t x)=.iface t x:=rfl
theorem AD {f:Fn} {c:List AV}:strip (.fn f c)=.fn f c:=rfl
attribute [simp ↓ low] KX
attribute [simp ↓] KY Mo Jj PB PC MA
theorem Nt {k:Nat}:zT k .undef=false:=rfl
theorem JP {k:Nat} {v:Value}:zT k (.val v)=false:=rfl
theorem JL {k:Nat} {c:List AV}:zT k (.agg c)=false:=rfl
theorem MM {k sz:Nat} {m:Mode} {r:List (List AV)}:zT k (.list sz m r)=false:=rfl
theorem EF {k:Nat} {c:List AV}:zT k (.ro c)=false:=rfl
theorem Nr {k:Nat} {t:TypeId} {x:AV}:zT k (.iface t x)=false:=rfl
theorem JN {k j o:Nat}:zT k (.ptr j o)=(j == k):=rfl
theorem ML {k j a b c:Nat}:zT k (.eptr j a b c)=(j == k):=rfl
theorem EG {k j a b c:Nat}:zT k (.sl j a b c)=(j == k):=rfl
theorem EI {k j a b c:Nat}:zT k (.us j a b c)=(j == k):=rfl
theorem EH {k j a b c:Nat}:zT k (.up j a b c)=(j == k):=rfl
theorem ED {k:Nat} {f:Fn} {c:List AV}:zT k (.fn f c)=c.any (ud k):=rfl
theorem Ns {k:Nat} {c:List AV}:zT k (.tuple c)=c.any (ud k):=rfl
theorem BY:rf .undef=true:=rfl
theorem ad1 {v:Value}:rf (.val v)=true:=rfl
theorem adX {c:List AV}:rf (.agg c)=true:=rfl
theorem abT {sz:Nat} {m:Mode} {r:List (List AV)}:rf (.list sz m r)=true:=rfl
theorem aff {c:List AV}:rf (.ro c)=true:=rfl
theorem BW {t:TypeId} {x:AV}:rf (.iface t x)=true:=rfl
theorem adZ {j o:Nat}:rf (.ptr j o)=false:=rfl
theorem abS {j a b c:Nat}:rf (.eptr j a b c)=false:=rfl
theorem afg {j a b c:Nat}:rf (.sl j a b c)=false:=rfl
theorem afi {j a b c:Nat}:rf (.us j a b c)=false:=rfl
theorem afh {j a b c:Nat}:rf (.up j a b c)=false:=rfl
theorem afd {f:Fn} {c:List AV}:rf (.fn f c)=false:=rfl
theorem BX {c:List AV}:rf (.tuple c)=false:=rfl
theorem afe {k:Nat}:rf (.mp k)=false:=rfl
theorem adY {n:Nat} {c:List (List AV)}:rf (.lit n c)=false:=rfl
theorem ad0 {c:List AV}:rf (.raw c)=false:=rfl
theorem EE {j k:Nat}:zT k (.mp j)=(j == k):=rfl
theorem JM {k n:Nat} {rows:List (List AV)}:zT k (.lit n rows)=rows.any fun r=>r.any (Xv k):=rfl
theorem JO {k:Nat} {c:List AV}:zT k (.raw c)=c.any (Xv k):=rfl
attribute [simp] afe adY ad0 EE JM JO Xv Qv
attribute [simp] Nt JP JL MM EF Nr JN ML EG EI EH ED Ns ud BY ad1 adX abT aff BW adZ abS afg afi afh afd BX
attribute [simp] D3 EW Mj
attribute [simp] D4 KN aau D1 GE D2 aat abN CQ LI MT EV Ac R2 Mi KQ Mw abB Eg abA Bx F9 GL abx abw Bt Jz JA Ei adK aby Bq Bu abz Bv adM Br Ef Ee MF JD Ea MG Nh Eh JB JC BF BE BD BC BU MO BV MP El Bz Ni Ey JH Ez Ek abv Jy Bw K6 ME Eb CD CN CL CK CJ CH CG CF CM GB NZ lb nk y9 mA qo nP agj agi adv lk pt del Rl Mz cellsOf t9 pC yx Sr J7 Ay Aw J6 Dk ab6 Ax Dj ab7 ab5 Di J4 Dh Av Dg Df J3 As Au At M0 Dt Dr MZ AE Ds Gp AF AD ab9 ab8 J5 AH AG MY St.unmet l8 tv ze.isU qx tz nU xg xn mW unA aei j1 Pp Uz xH single Value.oneCell' List.getElem?_eq_getElem
def xT (P:Program) (os:List zi) (s:St) (d:Nat) (KS:St→Prop):AV→Option ze→Prop:=fun x e=>lk s.env d=some x∧lk s.sto (s.base+d)=e∧zj P os s KS
def pM (x:Option AV) (P:Program) (os:List zi) (s:St) (d:Nat) (KS:St→Prop):Prop :=
 match x with
 | some v=>lk s.env d=some v∧lk s.sto (s.base+d)=none∧zj P os s KS
 | none=>False
def ac5 (x:Option (List AV)) (P:Program) (os:List zi) (s:St) (d:Nat) (KS:St→Prop):Prop :=
 match x with
 | some cs=>lk (del [s.base+d] s.sto) (s.base+d)=none∧lk s.env d=some (.ptr (s.base+d) 0)∧lk s.sto (s.base+d)=some (.var cs)∧zj P os s KS
 | none=>False
section
variable {P:Program} {s:St} {KS:St→Prop} {os:List zi} {d:Nat}
theorem aay {x:AV} {e:Option ze}:xT P os s d KS x e=(lk s.env d=some x∧lk s.sto (s.base+d)=e∧zj P os s KS):=propext Iff.rfl
theorem GR {x:AV}:pM (some x) P os s d KS=(lk s.env d=some x∧lk s.sto (s.base+d)=none∧zj P os s KS):=propext Iff.rfl
theorem GO {cs:List AV}:ac5 (some cs) P os s d KS=(lk (del [s.base+d] s.sto) (s.base+d)=none∧lk s.env d=some (.ptr (s.base+d) 0)∧lk s.sto (s.base+d)=some (.var cs)∧zj P os s KS):=propext Iff.rfl
theorem By {x:Option AV}:xM x (xT P os s d KS)=pM x P os s d KS:=by cases x<;>rfl
theorem BA {x:Option Value}:yL x (xT P os s d KS)=pM (x.map ofV) P os s d KS:=by cases x<;>rfl
theorem Ej {ds:List Nat}:zj P (⟨none,.start ds,[],none⟩::os) s KS=(rM s.sto s.base ds∧zj P os ⟨del ds s.env,s.sto,s.out,s.base⟩ KS):=propext Iff.rfl
def aaj (P:Program) (os:List zi) (s:St) (d:Nat) (KS:St→Prop):Prop:=lk s.env d=some (.val undef)∧lk s.sto (s.base+d)=none∧zj P os s KS
theorem GW {op:AOp} {g:Nat} {b:Bool} {xs:List Opd}:zj P (⟨some d,.chkG op g b,xs,none⟩::os) s KS=rO (s.get g) b (zj P (⟨some d,.chk op,xs,none⟩::os) s KS) (aaj P os s d KS):=propext Iff.rfl
theorem B8:aaj P os s d KS=(lk s.env d=some (.val undef)∧lk s.sto (s.base+d)=none∧zj P os s KS):=propext Iff.rfl
theorem aaD {x:Opd}:zj P (⟨some d,.chk .mov,[x],none⟩::os) s KS=xT P os s d KS (ev s x) none:=propext Iff.rfl
theorem Cl {c a b:Opd}:zj P (⟨some d,.chk .pick,[c,a,b],none⟩::os) s KS=pn (ev s c) (xT P os s d KS (ev s a) none) (xT P os s d KS (ev s b) none):=by
 show (match [ev s c,ev s a,ev s b] with | [.val (.bool t),a,b]=>(t=true→xT P os s d KS a none)∧(t=false→xT P os s d KS b none) | _=>False)=_
 unfold pn
 cases ev s c<;>try rfl
 rename_i v
 cases v<;>rfl
theorem GS {cells:List AV}:zj P (⟨some d,.chk (.alloc cells),[],none⟩::os) s KS=(lk (del [s.base+d] s.sto) (s.base+d)=none∧xT P os s d KS (.ptr (s.base+d) 0) (some (.var cells))):=propext Iff.rfl
theorem aaA {x:Opd}:zj P (⟨some d,.chk .box,[x],none⟩::os) s KS=ac5 (cellsOf (ev s x)) P os s d KS:=by
 show zJ P (s.base+d) .box [ev s x] (lk (del [s.base+d] s.sto)) (xT P os s d KS)=_
 simp only[zJ]
 cases cellsOf (ev s x)<;>rfl
theorem aaz {o:BinOp} {t:TypeId} {ox oy:Operand} {x y:Opd}:zj P (⟨some d,.chk (.bin o t ox oy),[x,y],none⟩::os) s KS=z9 P o t ox oy [ev s x,ev s y] (xT P os s d KS):=propext Iff.rfl
theorem Cj {n:Option Nat} {x:Opd}:zj P (⟨some d,.chk (.load n),[x],none⟩::os) s KS=lb (lk (del [s.base+d] s.sto)) n [ev s x] (xT P os s d KS):=propext Iff.rfl
theorem KT {n m:Nat} {x y:Opd}:zj P (⟨some d,.chk (.iaddrA n m),[x,y],none⟩::os) s KS=nk n m [ev s x,ev s y] (xT P os s d KS):=propext Iff.rfl
theorem KU {n:Nat} {x y:Opd}:zj P (⟨some d,.chk (.iaddrS n),[x,y],none⟩::os) s KS=y9 n [ev s x,ev s y] (xT P os s d KS):=propext Iff.rfl
theorem GX {n:Nat} {a b c:Bool} {xs:List Opd}:zj P (⟨some d,.chk (.slice n a b c),xs,none⟩::os) s KS=qZ n a b c (xs.map (ev s)) (xT P os s d KS):=propext Iff.rfl
theorem aaB {b:Bool} {x:Opd}:zj P (⟨some d,.chk (.len b),[x],none⟩::os) s KS=mA b [ev s x] (xT P os s d KS):=propext Iff.rfl
theorem Ch {f:FuncId} {xs:List Opd}:zj P (⟨some d,.chk (.call f),xs,none⟩::os) s KS=xX P f (lk (del [s.base+d] s.sto)) (xs.map (ev s)) (xT P os s d KS):=propext Iff.rfl
theorem aaC {f:FuncId} {xs:List Opd}:zj P (⟨some d,.chk (.mkb f),xs,none⟩::os) s KS=xT P os s d KS (.fn (.via 0 #[] f false) ((xs.map (ev s)).map strip)) none:=propext Iff.rfl
theorem Ck {f:FuncId} {xs:List Opd}:zj P (⟨some d,.chk (.mkfn f),xs,none⟩::os) s KS=xT P os s d KS (.fn (.func f) ((xs.map (ev s)).map strip)) none:=propext Iff.rfl
theorem ac7 {o:UnOp} {x:Opd}:zj P (⟨some d,.chk (.un o),[x],none⟩::os) s KS=pM (unA P o (ev s x)) P os s d KS:=by
 show zJ P (s.base+d) (.un o) [ev s x] (lk (del [s.base+d] s.sto)) (xT P os s d KS)=_
 simp only[zJ]
 cases ev s x<;>try rfl
 rename_i v
 simp only[unA]
 cases zr P (Op.unary o v)<;>rfl
theorem Ci {a b:TypeId} {x:Opd}:zj P (⟨some d,.chk (.conv a b),[x],none⟩::os) s KS=pM (ZH P a b (ev s x)) P os s d KS:=by
 show zJ P (s.base+d) (.conv a b) [ev s x] (lk (del [s.base+d] s.sto)) (xT P os s d KS)=_
 simp only[zJ]
 cases ev s x<;>try rfl
 rename_i v
 simp only[ZH]
 cases zr P (convert a b v)<;>rfl
theorem GV {off:Nat} {n:Option Nat} {x:Opd}:zj P (⟨some d,.chk (.field off n),[x],none⟩::os) s KS=pM (j1 off n (ev s x)) P os s d KS:=by
 show zJ P (s.base+d) (.field off n) [ev s x] (lk (del [s.base+d] s.sto)) (xT P os s d KS)=_
 simp only[zJ]
 cases ev s x<;>try rfl
 ·rename_i v
  simp only[j1]
  cases vu v off n<;>rfl
 ·rename_i v
  simp only[j1]
  cases zH v off n<;>rfl
theorem GU {off:Nat} {x:Opd}:zj P (⟨some d,.chk (.faddr off),[x],none⟩::os) s KS=pM (Pp off (ev s x)) P os s d KS:=by
 show zJ P (s.base+d) (.faddr off) [ev s x] (lk (del [s.base+d] s.sto)) (xT P os s d KS)=_
 simp only[zJ]
 cases ev s x<;>rfl
theorem Ml {i:Nat} {x:Opd}:zj P (⟨some d,.chk (.extract i),[x],none⟩::os) s KS=pM (Uz i (ev s x)) P os s d KS:=by
 show zJ P (s.base+d) (.extract i) [ev s x] (lk (del [s.base+d] s.sto)) (xT P os s d KS)=_
 simp only[zJ]
 cases ev s x<;>try rfl
 rename_i v
 simp only[Uz]
 cases v[i]?<;>rfl
theorem KW {x:Opd}:zj P (⟨some d,.chk .nilChk,[x],none⟩::os) s KS=pM (xH (ev s x)) P os s d KS:=by
 show zJ P (s.base+d) .nilChk [ev s x] (lk (del [s.base+d] s.sto)) (xT P os s d KS)=_
 simp only[zJ]
 cases ev s x<;>rfl
theorem GT {z:List AV} {ps:List (Nat × Nat)} {xs:List Opd}:zj P (⟨some d,.chk (.build z ps),xs,none⟩::os) s KS=pM (orR (uZ z ps (xs.map (ev s))) (t5 z ps (xs.map (ev s)))) P os s d KS:=by
 show zJ P (s.base+d) (.build z ps) (xs.map (ev s)) (lk (del [s.base+d] s.sto)) (xT P os s d KS)=_
 simp only[zJ]
 cases orR (uZ z ps (xs.map (ev s))) (t5 z ps (xs.map (ev s)))<;>rfl
theorem Q3 {sz n:Nat} {z:List AV} {ps:List Nat} {xs:List Opd} (h1:z.length=sz) (h2:0<sz) :
  zj P (⟨some d,.chk (.mksliceL sz n z ps),xs,none⟩::os) s KS=pM ((wg sz (List.replicate n z) ps (xs.map (ev s))).map (.lit sz)) P os s d KS:=by
 show zJ P (s.base+d) (.mksliceL sz n z ps) (xs.map (ev s)) (lk (del [s.base+d] s.sto)) (xT P os s d KS)=_
 simp only[zJ]
 cases wg sz (List.replicate n z) ps (xs.map (ev s))<;>simp[pM,h1,h2,xT]
theorem KV {t:TypeId} {ok:Bool} {x y:Opd}:zj P (⟨some d,.chk (.lookup t ok),[x,y],none⟩::os) s KS=ur P t ok (lk (del [s.base+d] s.sto)) [ev s x,ev s y] (xT P os s d KS):=propext Iff.rfl
theorem Mm {sz n:Nat} {z:List AV} {ps:List Nat} {xs:List Opd} (h1:z.length=sz) (h2:0<sz) :
  zj P (⟨some d,.chk (.mkslice sz n z ps),xs,none⟩::os) s KS=pM (orL sz (uh sz (List.replicate n z) ps (xs.map (ev s))) (wg sz (List.replicate n z) ps (xs.map (ev s)))) P os s d KS:=by
 show zJ P (s.base+d) (.mkslice sz n z ps) (xs.map (ev s)) (lk (del [s.base+d] s.sto)) (xT P os s d KS)=_
 simp only[zJ]
 cases uh sz (List.replicate n z) ps (xs.map (ev s)) with
 | none=>cases wg sz (List.replicate n z) ps (xs.map (ev s))<;>simp[pM,h1,h2,xT,orL]
 | some rows=>simp[pM,h1,h2,xT,orL]
end
attribute [simp] aay GW B8 GR GO By BA Ej rM aaD Cl GS aaA aaz Cj KT KU GX aaB Ch Ck aaC ac7 Ci GV GU Ml KW GT Mm Q3 KV
theorem zM {α β:Type} (P:Program) (s:Sem α) (f:α→Sem β):zr P (s >>= f)=(zr P s).bind fun a=>zr P (f a):=by
 induction s with
 | pure a=>simp[bind,Sem.bind,zr]
 | program k ih=>simp only[bind,Sem.bind,zr] at *; exact ih P
 | _=>rfl
theorem zQ {α:Type} (P:Program) (a:α):zr P (pure a:Sem α)=some a:=rfl
theorem yn {P:Program} {t:TypeId}:zr P (underlying t)=P.underlying t:=by
 simp only[underlying,zM]
 simp only[program,zr]
 simp only[Option.bind]
 cases P.underlying t<;>rfl
theorem R7 {P:Program} {t:TypeId}:zr P (typeInfo t)=P.info? t:=by
 simp only[typeInfo,zM]
 simp only[program,zr]
 simp only[Option.bind]
 cases P.info? t<;>rfl
theorem YE {P:Program} {t:TypeId}:zr P (sizeOf t)=szT P t:=by
 simp only[sizeOf,zM,R7,szT]
 cases P.info? t<;>rfl
theorem JG {P:Program} {t:TypeId} {d:TypeDesc} (h:P.underlying t=some d):zr P (isAgg t)=some (agT P t):=by
 simp only[isAgg,zM,yn,h,Option.bind,agT]
 cases d<;>rfl
inductive Kd where
 | b
 | i (k:IntKind)
 | s
def Kd.fit:Kd→Value→Bool
 | .b,.bool _=>true
 | .i k,.int k' _=>decide (k=k')
 | .s,.string _=>true
 | _,_=>false
def ui:List Kd→List Value→Bool
 | [],[]=>true
 | k::ks,v::vs=>k.fit v&&ui ks vs
 | _,_=>false
def eq1:Value→Value→Bool
 | .bool a,.bool b=>a == b
 | .int _ a,.int _ b=>a == b
 | .string a,.string b=>a == b
 | _,_=>false
def eqL:List Value→List Value→Bool
 | [],[]=>true
 | x::xs,y::ys=>eq1 x y&&eqL xs ys
 | _,_=>false
def Sa (P:Program) (kd:TypeId→Option (List Kd)):Nat→List Field→Option (List Kd)
 | _,[]=>some []
 | off,f::fs =>
  if f.name = "_" ∨ f.offset ≠ off then none
  else
   match kd f.type with
   | some ks=>if szT P f.type=some ks.length then (Sa P kd (off+ks.length) fs).map (ks++·) else none
   | none=>none
def kds (P:Program):Nat→TypeId→Option (List Kd)
 | 0,_=>none
 | d+1,t =>
  match P.underlying t with
  | some .bool=>some [.b]
  | some (.int k)=>some [.i k]
  | some .string=>some [.s]
  | some (.array n e) =>
   match kds P d e with
   | some ks=>if szT P e=some ks.length then some (List.replicate n ks).flatten else none
   | none=>none
  | some (.struct fs)=>if P.stoodInHeld t=true then none else Sa P (kds P d) 0 fs.toList
  | _=>none
theorem Y4:∀ {ks:List Kd} {xs:List Value},ui ks xs=true→xs.length=ks.length
 | [],[],_=>rfl
 | [],_::_,h=>by cases h
 | _::_,[],h=>by cases h
 | k::ks,x::xs,h=>by simp only[ui,Bool.and_eq_true] at h; simp[Y4 h.2]
theorem j2:∀ {ks ls:List Kd} {xs:List Value},ui (ks++ls) xs=true→ui ks (xs.take ks.length)=true∧ui ls (xs.drop ks.length)=true
 | [],_,_,h=>by simpa [ui] using h
 | k::ks,ls,[],h=>by cases h
 | k::ks,ls,x::xs,h=>by
  simp only[List.cons_append,ui,Bool.and_eq_true] at h
  have:=j2 h.2
  simp[ui,h.1,this.1,this.2]
theorem T2:∀ {n:Nat} {xs ys:List Value},xs.length=ys.length→eqL xs ys=(eqL (xs.take n) (ys.take n)&&eqL (xs.drop n) (ys.drop n))
 | 0,_,_,_=>by simp[eqL]
 | _+1,[],[],_=>by simp[eqL]
 | _+1,[],_::_,h=>by cases h
 | _+1,_::_,[],h=>by cases h
 | n+1,x::xs,y::ys,h=>by
  simp only[List.length_cons,Nat.add_right_cancel_iff] at h
  simp only[eqL,List.take_succ_cons,List.drop_succ_cons,Bool.and_assoc]
  rw[T2 (n:=n) h]
def valOf (P:Program) (t:TypeId) (xs:List Value):Value:=if agT P t=true then .agg xs.toArray else xs.headD undef
theorem LW {P:Program} {d:Nat} {t:TypeId} {ks:List Kd} (h:kds P d t=some ks):(∃ u,P.underlying t=some u)∧(agT P t=false→ks.length=1):=by
 cases d with
 | zero=>cases h
 | succ d =>
  simp only[kds] at h
  split at h<;>rename_i hu
  ·exact ⟨⟨_,hu⟩,fun _=>by cases h; rfl⟩
  ·exact ⟨⟨_,hu⟩,fun _=>by cases h; rfl⟩
  ·exact ⟨⟨_,hu⟩,fun _=>by cases h; rfl⟩
  ·exact ⟨⟨_,hu⟩,fun ha=>by simp[agT,hu] at ha⟩
  ·exact ⟨⟨_,hu⟩,fun ha=>by simp[agT,hu] at ha⟩
  ·cases h
theorem fu {P:Program} {d:Nat} {t:TypeId} {ks:List Kd} {xs:List Value} {off:Nat} (h:kds P d t=some ks) (hz:szT P t=some ks.length)
  (hl:off+ks.length≤xs.length):zr P (part t xs.toArray off)=some (valOf P t ((xs.drop off).take ks.length)):=by
 obtain ⟨⟨u,hu⟩,h1⟩:=LW h
 simp only[part,zM,JG hu,Option.bind_some]
 by_cases ha:agT P t=true
 ·simp only[ha,if_true,zM,YE,hz,Option.bind_some,zQ,valOf]
  congr 2
  apply Array.ext'
  simp
 ·have h2:=h1 (by simpa using ha)
  rw[if_neg ha]
  have h3:off<xs.length:=by omega
  simp only[List.getElem?_toArray,List.getElem?_eq_getElem h3,zQ,valOf,if_neg ha,h2]
  rw[List.drop_eq_getElem_cons h3]
  rfl
theorem RG {P:Program} {α:Type} (f:α→Sem Bool):∀ (l:List α) (g:List α→Bool),g []=true→(∀ a m,(∃ h,h++a::m=l)→∃ b,zr P (f a)=some b∧g (a::m)=(b&&g m)) →
  zr P (forIn l ((none,()):Option Bool × Unit) fun a _=>do
   let b ← f a
   if (!b)=true then pure (ForInStep.done (some false,())) else pure (ForInStep.yield (none,())))=some (if g l=true then (none,()) else (some false,()))
 | [],g,h0,_=>by simp[h0,zQ]
 | a::l,g,h0,h=>by
  obtain ⟨b,hb,hg⟩:=h a l ⟨[],rfl⟩
  have ih:=RG f l g h0 (fun x m ⟨p,hp⟩=>h x m ⟨a::p,by simp[hp]⟩)
  rw[List.forIn_cons]
  simp only[zM,hb,Option.bind_some]
  cases b with
  | false=>simp[hg,zQ]
  | true =>
   simp only[hg,Bool.true_and,Bool.not_true,Bool.false_eq_true,if_false,zQ,Option.bind_some]
   exact ih
theorem adW {n:Nat} {α:Type} {l:List α}:(List.replicate n l).flatten.length=n*l.length:=by
 induction n with
 | zero=>simp
 | succ n ih=>simp[List.replicate_succ,ih,Nat.succ_mul,Nat.add_comm]
theorem LV {P:Program} {d:Nat}:∀ {fs:List Field} {off:Nat} {ks:List Kd} {xs ys:List Value},Sa P (kds P d) off fs=some ks→xs.length=off+ks.length→ys.length=off+ks.length →
  ui ks (xs.drop off)=true→ui ks (ys.drop off)=true →
  (∀ (t:TypeId) (ks:List Kd) (xs ys:List Value),kds P d t=some ks→ui ks xs=true→ui ks ys=true→zr P (Op.equalIn d t (valOf P t xs) (valOf P t ys))=some (eqL xs ys)) →
  zr P (forIn fs ((none,()):Option Bool × Unit) fun f _ =>
   if f.name ≠ "_" then do
    let x ← part f.type xs.toArray f.offset
    let y ← part f.type ys.toArray f.offset
    let b ← Op.equalIn d f.type x y
    if (!b)=true then pure (ForInStep.done (some false,())) else pure (ForInStep.yield (none,()))
   else pure (ForInStep.yield (none,())))=some (if eqL (xs.drop off) (ys.drop off)=true then (none,()) else (some false,()))
 | [],off,ks,xs,ys,h,hx,hy,_,_,_=>by
  simp only[Sa,Option.some.injEq] at h
  subst h
  simp only[List.length_nil,Nat.add_zero] at hx hy
  rw[List.drop_of_length_le (by omega),List.drop_of_length_le (by omega)]
  simp[zQ,eqL]
 | f::fs,off,ks,xs,ys,h,hx,hy,h1,h2,IH=>by
  simp only[Sa] at h
  split at h
  ·cases h
  rename_i hn
  simp only[not_or,Decidable.not_not,ne_eq] at hn
  split at h
  rotate_left
  ·cases h
  rename_i ls hk
  split at h
  rotate_left
  ·cases h
  rename_i hz
  cases hr:Sa P (kds P d) (off+ls.length) fs with
  | none=>simp[hr] at h
  | some ms =>
   simp only[hr,Option.map_some,Option.some.injEq] at h
   subst h
   simp only[List.length_append] at hx hy
   have a1:=j2 h1
   have a2:=j2 h2
   rw[List.drop_drop] at a1 a2
   have ih:=LV hr (xs:=xs) (ys:=ys) (by omega) (by omega) a1.2 a2.2 IH
   rw[List.forIn_cons]
   have p1:=fu (xs:=xs) (off:=off) hk hz (by omega)
   have p2:=fu (xs:=ys) (off:=off) hk hz (by omega)
   have p3:=IH _ _ _ _ hk a1.1 a2.1
   rw[if_pos hn.1,hn.2]
   simp only[zM,p1,p2,p3,Option.bind_some]
   rw[T2 (n:=ls.length) (xs:=xs.drop off) (ys:=ys.drop off) (by simp; omega),List.drop_drop,List.drop_drop]
   cases eqL ((xs.drop off).take ls.length) ((ys.drop off).take ls.length) with
   | false=>simp[zQ]
   | true =>
    simp only[Bool.true_and,Bool.not_true,Bool.false_eq_true,if_false,zQ,Option.bind_some]
    exact ih
theorem dW {ls:List Kd}:∀ {n:Nat} {xs:List Value} {a:Nat},ui (List.replicate n ls).flatten xs=true→a<n→ui ls ((xs.drop (a*ls.length)).take ls.length)=true
 | 0,_,_,_,h=>by omega
 | n+1,xs,0,h,_=>by
  simp only[List.replicate_succ,List.flatten_cons] at h
  simpa using (j2 h).1
 | n+1,xs,a+1,h,ha=>by
  simp only[List.replicate_succ,List.flatten_cons] at h
  have:=dW (j2 h).2 (a:=a) (by omega)
  rw[List.drop_drop] at this
  rw[Nat.succ_mul,Nat.add_comm (a*ls.length)]
  exact this
theorem rV {P:Program}:∀ (d:Nat) (t:TypeId) (ks:List Kd) (xs ys:List Value),kds P d t=some ks→ui ks xs=true→ui ks ys=true →
  zr P (Op.equalIn d t (valOf P t xs) (valOf P t ys))=some (eqL xs ys)
 | 0,_,_,_,_,h,_,_=>by cases h
 | d+1,t,ks,xs,ys,h,hx,hy=>by
  have lx:=Y4 hx
  have ly:=Y4 hy
  simp only[kds] at h
  split at h<;>rename_i hu
  ·cases h
   match xs,ys,hx,hy with
   | [.bool a],[.bool b],_,_=>simp[valOf,agT,hu,Op.equalIn,zM,yn,zQ,eqL,eq1]
  ·cases h
   match xs,ys,hx,hy with
   | [.int k a],[.int k' b],hx,hy =>
    simp only[ui,Kd.fit,decide_eq_true_eq,Bool.and_true] at hx hy
    subst hx; subst hy
    simp[valOf,agT,hu,Op.equalIn,zM,yn,zQ,eqL,eq1]
  ·cases h
   match xs,ys,hx,hy with
   | [.string a],[.string b],_,_=>simp[valOf,agT,hu,Op.equalIn,zM,yn,zQ,eqL,eq1]
  ·rename_i n e
   split at h
   rotate_left
   ·cases h
   rename_i ls hk
   split at h
   rotate_left
   ·cases h
   rename_i hz
   cases h
   rw[adW] at lx ly
   simp only[valOf,agT,hu,if_true,Op.equalIn,zM,yn,Option.bind_some,YE,hz]
   have hloop:=RG (P:=P) (fun i=>do
     let x ← part e xs.toArray (i*ls.length)
     let y ← part e ys.toArray (i*ls.length)
     Op.equalIn d e x y) (List.range' 0 n) (fun m=>eqL (xs.drop ((n-m.length)*ls.length)) (ys.drop ((n-m.length)*ls.length)))
    (by
     simp only[List.length_nil,Nat.sub_zero]
     rw[List.drop_of_length_le (by omega),List.drop_of_length_le (by omega)]; rfl)
    (by
     rintro a m ⟨p,hp⟩
     have hlen:p.length+(m.length+1)=n:=by
      have:=congrArg List.length hp
      simpa using this
     have ha:a=p.length:=by
      have:=congrArg (·[p.length]?) hp
      simp only[List.getElem?_append_right (Nat.le_refl _),Nat.sub_self,List.getElem?_cons_zero] at this
      rw[List.getElem?_range' (by omega)] at this
      simpa using this
     have hmul:a*ls.length+ls.length≤n*ls.length:=by
      rw[← Nat.succ_mul]; exact Nat.mul_le_mul_right _ (by omega)
     have e1:n-(a::m).length=a:=by simp only[List.length_cons]; omega
     have e2:(n-m.length)*ls.length=a*ls.length+ls.length:=by
      have:n-m.length=a+1:=by omega
      rw[this,Nat.succ_mul]
     have f1:=dW hx (a:=a) (by omega)
     have f2:=dW hy (a:=a) (by omega)
     have p1:=fu (xs:=xs) (off:=a*ls.length) hk hz (by omega)
     have p2:=fu (xs:=ys) (off:=a*ls.length) hk hz (by omega)
     refine ⟨_,by simp only[zM,p1,p2,Option.bind_some]; exact rV d _ _ _ _ hk f1 f2,?_⟩
     simp only[e1,e2]
     rw[T2 (n:=ls.length) (by simp; omega),List.drop_drop,List.drop_drop])
   simp only[List.length_range',Nat.sub_self,Nat.zero_mul,List.drop_zero] at hloop
   simp only[bind_assoc] at hloop
   rw[Std.Legacy.Range.forIn_eq_forIn_range']
   simp only[Std.Legacy.Range.size,Nat.sub_zero,Nat.add_sub_cancel,Nat.div_one] at hloop ⊢
   rw[hloop]
   cases eqL xs ys<;>simp[zQ]
  ·rename_i fs
   split at h
   ·cases h
   rename_i hs
   simp only[valOf,agT,hu,if_true,Op.equalIn,zM,yn,Option.bind_some]
   simp only[program,zr,Option.bind_some,hs]
   have:=LV (xs:=xs) (ys:=ys) h (by omega) (by omega) (by simpa using hx) (by simpa using hy) (rV d)
   simp only[Bool.false_eq_true,if_false]
   rw[← Array.forIn_toList,zM,this]
   simp only[List.drop_zero,Option.bind_some]
   cases eqL xs ys<;>rfl
  ·cases h
def j6 (n:Nat) (l:List AV):Bool:=decide (l.length=n)&&l.all fun | .val (.int .i64 _)=>true | _=>false
def ca:List AV→List Int
 | .val (.int _ x)::r=>x::ca r
 | _=>[]
theorem aE (l:List Int):ca (l.map iv)=l:=by
 induction l with
 | nil=>rfl
 | cons x l ih=>simp[ca,ih]
theorem UE (n:Nat) (l:List Int):j6 n (l.map iv)=decide (l.length=n):=by simp[j6]
theorem T9:∀ {l:List AV},(l.all fun | .val (.int .i64 _)=>true | _=>false)=true→∃ xs:List Int,l=xs.map iv
 | [],_=>⟨[],rfl⟩
 | x::l,h=>by
  simp only[List.all_cons,Bool.and_eq_true] at h
  obtain ⟨xs,rfl⟩:=T9 h.2
  match x,h.1 with
  | .val (.int .i64 n),_=>exact ⟨n::xs,rfl⟩
theorem Yc:∀ l:List Int,sm (l.map iv)=some (l.map (Value.int .i64))
 | []=>rfl
 | x::l=>by simp[sm,Yc l]
theorem Pm:∀ (a b:List Int),eqL (a.map (Value.int .i64)) (b.map (Value.int .i64))=decide (a=b)
 | [],[]=>rfl
 | [],_::_=>by simp[eqL]
 | _::_,[]=>by simp[eqL]
 | x::a,y::b=>by
  simp only[List.map_cons,eqL,eq1,Pm a b,List.cons.injEq,Bool.decide_and]
  rfl
theorem eV:∀ (a:List Int),ui (List.replicate a.length (.i .i64)) (a.map (Value.int .i64))=true
 | []=>rfl
 | x::a=>by simp[List.replicate_succ,ui,Kd.fit,eV a]
theorem Ux {P:Program} {op:BinOp} {t:TypeId} {ox oy:Operand} {xs ys:Array Value} (hg:P.eqGuardType P.depth t=false):zr P (eqGuard op t ox oy (.agg xs) (.agg ys))=some ():=by
 have e:zr P program=some P:=rfl
 unfold eqGuard
 cases op<;>simp[zM,e,hg,zQ]
section
variable {P:Program} {t n:Nat} {ox oy:Operand} {a b:List AV} {K:AV→Option ze→Prop} {σ:Nat→Option ze}
theorem kz (hk:kds P Op.maxDepth t=some (List.replicate n (.i .i64))) (hg:P.eqGuardType P.depth t=false) (hA:agT P t=true)
  (ha:j6 n a=true) (hb:j6 n b=true):z9 P .eql t ox oy [.agg a,.agg b] K=K (bv (decide (ca a=ca b))) none:=by
 simp only[j6,Bool.and_eq_true,decide_eq_true_eq] at ha hb
 obtain ⟨xs,rfl⟩:=T9 ha.2
 obtain ⟨ys,rfl⟩:=T9 hb.2
 simp only[List.length_map] at ha hb
 have e:=rV Op.maxDepth t _ (xs.map (Value.int .i64)) (ys.map (Value.int .i64)) hk (by rw[← ha.1]; exact eV xs) (by rw[← hb.1]; exact eV ys)
 simp only[valOf,hA,if_true] at e
 have e2:zr P (Op.equal t (.agg (xs.map (Value.int .i64)).toArray) (.agg (ys.map (Value.int .i64)).toArray))=some (decide (xs=ys)):=by rw[← Pm]; exact e
 have e1:binOp .eql t (.agg (xs.map (Value.int .i64)).toArray) (.agg (ys.map (Value.int .i64)).toArray)=(do pure (.bool (← Op.equal t (.agg (xs.map (Value.int .i64)).toArray) (.agg (ys.map (Value.int .i64)).toArray)))):=rfl
 simp only[z9,toV,Yc,Option.map_some,zM,Ux hg,e1,e2,Option.bind_some,zQ,yL,ofV,yW,aE]
theorem pq {x y:Bool} (hu:P.underlying t=some .bool):z9 P .eql t ox oy [bv x,bv y] K=K (bv (x == y)) none:=by
 have e1:binOp .eql t (.bool x) (.bool y)=(do pure (.bool (← Op.equal t (.bool x) (.bool y)))):=rfl
 have e2:zr P (eqGuard .eql t ox oy (.bool x) (.bool y))=some ():=rfl
 have e3:zr P (Op.equal t (.bool x) (.bool y))=some (x == y):=by
  have e4:∀ d:Nat,zr P (Op.equalIn (d+1) t (.bool x) (.bool y))=some (x == y):=fun d=>by
   simp only[Op.equalIn,zM,yn,hu,Option.bind_some,zQ]
  exact e4 9999
 simp only[z9,toV,zM,e1,e2,e3,Option.bind_some,zQ,yL,ofV,yW]
theorem yG {x y:Bool} (hu:P.underlying t=some .bool):z9 P .neq t ox oy [bv x,bv y] K=K (bv (!(x == y))) none:=by
 have e1:binOp .neq t (.bool x) (.bool y)=(do pure (.bool (!(← Op.equal t (.bool x) (.bool y))))):=rfl
 have e2:zr P (eqGuard .neq t ox oy (.bool x) (.bool y))=some ():=rfl
 have e3:zr P (Op.equal t (.bool x) (.bool y))=some (x == y):=by
  have e4:∀ d:Nat,zr P (Op.equalIn (d+1) t (.bool x) (.bool y))=some (x == y):=fun d=>by
   simp only[Op.equalIn,zM,yn,hu,Option.bind_some,zQ]
  exact e4 9999
 simp only[z9,toV,zM,e1,e2,e3,Option.bind_some,zQ,yL,ofV,yW]
theorem za {f:FuncId} {xs args:List AV} {r:AV} (h:zd P f args r) (hs:yx (wB σ) xs=some args) (hp:xs.any rP=false∨pf r=true) (hk:K r none):xX P f σ xs K:=by
 unfold xX
 rw[hs]
 refine ⟨r,h,fun hr=>?_,hk⟩
 rcases hp with hp | hp
 ·rw[hp] at hr; cases hr
 ·exact hp
end
theorem RB {k k':AV→Option ze→Prop} (hk:∀ x e,k x e→k' x e):∀ {x:Option Value},yL x k→yL x k'
 | some _,h=>hk _ _ h
 | none,h=>h
theorem nw {k k':AV→Option ze→Prop} (hk:∀ x e,k x e→k' x e):∀ {x:Option AV},xM x k→xM x k'
 | some _,h=>hk _ _ h
 | none,h=>h
theorem X8 {n lo hi mx xs} {k k':Nat→Nat→Bool→Prop} (hk:∀ x e f,k x e f→k' x e f):wK n lo hi mx xs k→wK n lo hi mx xs k':=by
 unfold wK
 repeat' split
 all_goals grind
theorem G9 {P:Program} {op t ox oy xs} {k k':AV→Option ze→Prop} (hk:∀ x e,k x e→k' x e):z9 P op t ox oy xs k→z9 P op t ox oy xs k':=by
 match xs with
 | []=>exact id
 | [_]=>exact id
 | [x,y] =>
  simp only[z9]
  cases toV x<;>cases toV y<;>first | exact id | exact RB hk
 | _::_::_::_=>exact id
theorem K5 {σ n xs} {k k':AV→Option ze→Prop} (hk:∀ x e,k x e→k' x e):lb σ n xs k→lb σ n xs k':=by
 unfold lb
 split
 ·split
  ·exact nw hk
  ·exact id
 ·split
  ·refine fun ⟨a,b⟩=>⟨a,?_⟩
   revert b
   split
   ·exact nw hk
   ·exact id
  ·exact id
 ·exact nw hk
 ·split
  ·refine fun ⟨a,b⟩=>⟨a,?_⟩
   revert b
   split
   ·exact nw hk
   ·exact id
  ·exact id
 ·exact id
theorem K4 {str x} {k k':AV→Option ze→Prop} (hk:∀ x e,k x e→k' x e):qo str k x→qo str k' x:=by
 unfold qo
 split<;>first | exact id | exact fun ⟨a,b⟩=>⟨a,hk _ _ b⟩
theorem Uw {P:Program} {f σ xs} {k k':AV→Option ze→Prop} (hk:∀ x e,k x e→k' x e):xX P f σ xs k→xX P f σ xs k':=by
 unfold xX
 cases yx (wB σ) xs with
 | none=>exact id
 | some args=>exact fun ⟨r,h1,h2,h3⟩=>⟨r,h1,h2,hk _ _ h3⟩
theorem Ph {P:Program} {t ok σ xs} {k k':AV→Option ze→Prop} (hk:∀ x e,k x e→k' x e):ur P t ok σ xs k→ur P t ok σ xs k':=by
 unfold ur
 repeat' split
 all_goals first | exact id | exact hk _ _
theorem dU {P:Program} {d op xs σ} {k k':AV→Option ze→Prop} (hk:∀ x e,k x e→k' x e):zJ P d op xs σ k→zJ P d op xs σ k':=by
 unfold zJ
 repeat' split
 all_goals first
  | exact id
  | exact hk _ _
  | exact RB hk
  | exact nw hk
  | exact G9 hk
  | exact K5 hk
  | exact Ph hk
  | exact Uw hk
  | (unfold nk; repeat' split<;>first | exact id | grind)
  | (unfold y9; repeat' split<;>first | exact id | grind)
  | (unfold eMk; repeat' split<;>first | exact id | grind)
  | (unfold mA; split<;>first | exact id | exact K4 hk)
  | (unfold qZ; repeat' split<;>first | exact id | exact fun ⟨h1,h2⟩=>⟨h1,X8 (fun _ _ _=>hk _ _) h2⟩)
  | exact X8 (fun _ _ _ h=>⟨h.1,hk _ _ h.2⟩)
  | exact fun ⟨a,b⟩=>⟨a,Uw hk b⟩
  | exact fun ⟨a,b⟩=>⟨a,hk _ _ b⟩
  | exact fun ⟨a,b,c⟩=>⟨a,b,hk _ _ c⟩
  | exact fun ⟨a,b,c⟩=>⟨a,b,nw hk c⟩
  | exact fun ⟨a,b⟩=>⟨fun h=>hk _ _ (a h),fun h=>hk _ _ (b h)⟩
  | skip
theorem jw {σ sz x} {k k':List (List AV)→Prop} (hk:∀ x,k x→k' x):yT σ sz x k→yT σ sz x k':=by
 unfold yT
 repeat' split
 all_goals grind
theorem Mv {n s dst xs} {K K':St→Prop} (hk:∀ s,K s→K' s):nP n s dst xs K→nP n s dst xs K':=by
 unfold nP
 repeat' split
 all_goals grind
theorem Pe {n b s dst xs} {K K':St→Prop} (hk:∀ s,K s→K' s):wc n b s dst K xs→wc n b s dst K' xs:=by
 unfold wc
 split
 ·refine jw fun rows h=>⟨h.1,h.2.1,h.2.2.1,?_⟩
  have:=h.2.2.2
  revert this
  repeat' split
  all_goals grind
 ·exact id
theorem K1 {n s dst xs} {K K':St→Prop} (hk:∀ s,K s→K' s):dQ n s dst K xs→dQ n s dst K' xs:=by
 unfold dQ
 split
 ·refine fun ⟨a,a2,b⟩=>⟨a,a2,?_⟩
  unfold eT at b ⊢
  revert b
  split
  ·exact id
  ·refine jw fun rows h=>?_
   revert h
   split<;>grind
 ·exact id
theorem cX {σ sz x} {k k':List (List AV)→Prop} (hk:∀ x,k x→k' x):xb σ sz x k→xb σ sz x k':=by
 unfold xb
 split
 ·split
  ·exact fun ⟨a,b,c,d⟩=>⟨a,b,c,hk _ d⟩
  ·exact fun ⟨_,h⟩=>h.elim
 ·exact fun ⟨a,b⟩=>⟨a,hk _ b⟩
 ·exact jw hk
theorem R3 {n b s dst xs} {K K':St→Prop} (hk:∀ s,K s→K' s):xc n b s dst K xs→xc n b s dst K' xs:=by
 unfold xc
 split
 ·refine cX fun rows h=>⟨h.1,h.2.1,h.2.2.1,?_⟩
  have:=h.2.2.2
  revert this
  split
  ·exact fun ⟨a,b,c⟩=>⟨a,b,hk _ c⟩
  ·exact id
 ·refine cX fun rows h=>⟨h.1,h.2.1,h.2.2.1,?_⟩
  have:=h.2.2.2
  revert this
  split
  ·exact fun ⟨a,b,c,d,e⟩=>⟨a,b,c,d,hk _ e⟩
  ·exact id
 ·exact id
theorem T0 {n b z ps s dst xs} {K K':St→Prop} (hk:∀ s,K s→K' s):nn n b z ps s dst K xs→nn n b z ps s dst K' xs:=by
 unfold nn
 split
 ·exact fun ⟨a,b,c,d⟩=>⟨a,b,c,hk _ d⟩
 ·exact id
theorem Pj {P t s dst xs} {K K':St→Prop} (hk:∀ s,K s→K' s):tq P t s dst K xs→tq P t s dst K' xs:=by
 unfold tq
 repeat' split
 all_goals first | exact id | exact fun ⟨a,b⟩=>⟨a,hk _ b⟩
theorem XX {P f args s} {K K':AV→St→Prop} (hk:∀ r s,K r s→K' r s) (h:yc P f args s K):yc P f args s K' :=
 fun F a w I β lam hI vs hs hR=>(h F a w I β lam hI vs hs hR).mono fun _e _w' ⟨v,he,r,s',I',β',lam',hK,h⟩=>⟨v,he,r,s',I',β',lam',hk _ _ hK,h⟩
theorem Yu {P f xs s dst} {K K':St→Prop} (hk:∀ s,K s→K' s):tp P f xs s dst K→tp P f xs s dst K' :=
 XX fun _ _ h=>⟨h.1,hk _ h.2⟩
theorem QL {P o s} {K K':St→Prop} (hk:∀ s,K s→K' s):xo P o s K→xo P o s K':=by
 have hop:yD P o s K→yD P o s K':=by
  unfold yD
  split
  ·unfold aj
   split
   ·exact dU fun _ _ h=>⟨h.1,h.2.1,hk _ h.2.2⟩
   ·exact id
  ·have hc:∀ {op:AOp} {xs:List AV},aj P op s o.dst K xs→aj P op s o.dst K' xs:=by
    unfold aj
    split
    ·exact dU fun _ _ h=>⟨h.1,h.2.1,hk _ h.2.2⟩
    ·exact id
   have hs:dR s o.dst K→dR s o.dst K':=by
    unfold dR
    split
    ·exact fun h=>⟨h.1,h.2.1,hk _ h.2.2⟩
    ·exact id
   split
   ·exact fun h=>⟨fun e=>hc (h.1 e),fun e=>hs (h.2 e)⟩
   ·exact hs
   ·exact id
  ·exact fun ⟨a,b⟩=>⟨a,hk _ b⟩
  ·exact Mv hk
  ·exact Pe hk
  ·exact K1 hk
  ·exact R3 hk
  ·exact T0 hk
  ·exact Pj hk
  ·unfold fb
   split
   ·split
    ·exact fun ⟨a,b⟩=>⟨fun h=>⟨hk _ (a h).1,hk _ (a h).2⟩,fun h=>hk _ (b h)⟩
    ·exact id
   ·exact id
  ·exact fun ⟨a,b⟩=>⟨a,Yu hk b⟩
  ·split
   ·exact fun ⟨a,b⟩=>⟨a,Yu hk b⟩
   ·exact id
  ·exact fun ⟨a,b,c⟩=>⟨a,b,fun D=>XX (fun _ _ ⟨A,h1,h2,h3,h4⟩=>⟨A,h1,h2,h3,hk _ h4⟩) (c D)⟩
  ·exact dU fun _ _=>hk _
 unfold xo
 repeat' split
 ·exact hop
 ·exact fun ⟨a,b⟩=>⟨fun h=>hop (a h),fun h=>hk _ (b h)⟩
 ·exact hk _
 ·exact id
theorem Yk {P}:∀ {os s} {K K':St→Prop},(∀ s,K s→K' s)→zj P os s K→zj P os s K'
 | [],_,_,_,hk,h=>hk _ h
 | _::_,_,_,_,hk,h=>QL (fun _=>Yk hk) h
theorem au:∀ {ks s} {K K':St→Prop},(∀ s,K s→K' s)→sL ks s K→sL ks s K'
 | [],_,_,_,hk,h=>hk _ h
 | k::ks,s,K,K',hk,h=>by
  simp only[sL,y8] at h ⊢
  split at h
  ·exact ⟨h.1,au hk h.2⟩
  ·exact h
theorem xL {P}:∀ {c s} {K K':Exit→St→Prop},(∀ e s,K e s→K' e s)→awp P c s K→awp P c s K'
 | .skip,_,_,_,hk,h=>hk _ _ h
 | .region ..,_,_,_,hk,h=>au (fun _=>Yk fun _ h=>by
   unfold ZK at h ⊢
   exact ⟨h.1,hk _ _ h.2⟩) h
 | .seq a b,s,K,K',hk,h=>by
  simp only[awp] at h ⊢
  refine xL (fun e s h=>?_) h
  cases e<;>first | exact xL hk h | exact hk _ _ h
 | .cond c a b,s,K,K',hk,h=>by
  simp only[awp] at h ⊢
  split at h
  ·exact ⟨fun e=>xL hk (h.1 e),fun e=>xL hk (h.2 e)⟩
  ·exact h
 | .block i b,s,K,K',hk,h=>by
  simp only[awp] at h ⊢
  refine xL (fun e s h=>?_) h
  cases e<;>simp only[X7] at h ⊢<;>grind
 | .loop b,s,K,K',hk,⟨J,n,s0,hi,h0,h⟩=>⟨J,n,s0,hi,h0,fun n s hj=>xL (fun e s h=>by
   cases e<;>simp only[aaa] at h ⊢<;>grind) (h n s hj)⟩
 | .goto _,_,_,_,hk,h=>hk _ _ h
 | .again l b,s,K,K',hk,⟨J,n,s0,hi,h0,h⟩=>⟨J,n,s0,hi,h0,fun n s hj=>xL (fun e s h=>by
   cases e<;>simp only[GA] at h ⊢<;>grind) (h n s hj)⟩
 | .exit i,_,_,_,hk,h=>hk _ _ h
 | .ret,_,_,_,hk,h=>hk _ _ h
section
variable {P:Program} {s:St} {K:Exit→St→Prop} {KS:St→Prop} {os:List zi} {d:Nat}
def mmA (P:Program) (b:Builtin) (ts:Array TypeId) (t:TypeId) (xs:List AV):Option AV :=
 match sm xs with
 | some vs=>(zr P (if b=.max then Builtin.max_ ts t vs.toArray else Builtin.min_ ts t vs.toArray)).map ofV
 | none=>none
theorem adL {b:Builtin} {ts:Array TypeId} {t:TypeId} {xs:List Opd}:zj P (⟨some d,.mm b ts t,xs,none⟩::os) s KS=pQ (mmA P b ts t (xs.map (ev s))) P os s d KS:=by
 show zJ P (s.base+d) (.mm b ts t) (xs.map (ev s)) (lk s.sto) (xm P os s (some d) KS)=_
 simp only[zJ,mmA]
 cases sm (xs.map (ev s)) with
 | none=>rfl
 | some vs=>simp only[Ni]
theorem abf {ts:Array TypeId} {t:TypeId} {x y:Int}:mmA P .max ts t [iv x,iv y]=some (iv (max x y)):=by
 simp only[mmA,sm,Builtin.max_,Option.map_some,if_true,List.foldlM,zM]
 simp only[Builtin.max2,zQ,Option.bind_some,Option.map_some,ofV,yW]
 by_cases h:y > x
 ·rw[if_pos h,Int.max_eq_right (by omega)]
 ·rw[if_neg h,Int.max_eq_left (by omega)]
theorem abg {ts:Array TypeId} {t:TypeId} {x y:Int}:mmA P .min ts t [iv x,iv y]=some (iv (min x y)):=by
 have e:(Go.Builtin.min=Go.Builtin.max)=False:=by simp
 simp only[mmA,sm,Builtin.min_,Option.map_some,e,if_false,List.foldlM,zM]
 simp only[Builtin.min2,zQ,Option.bind_some,Option.map_some,ofV,yW]
 by_cases h:y<x
 ·rw[if_pos h,Int.min_eq_right (by omega)]
 ·rw[if_neg h,Int.min_eq_left (by omega)]
def Ts (st:Nat→St) (k:Nat) (K:Exit→St→Prop):Exit→St→Prop
 | .normal,s=>s=st k
 | e,s=>K e s
def ug (K:Exit→St→Prop):Exit→St→Prop
 | .normal,_=>False
 | e,s=>K e s
theorem NY {st:Nat→St} {k:Nat}:Ts st k K .normal s=(s=st k):=rfl
theorem Gk {st:Nat→St} {k j:Nat}:Ts st k K (.exit j) s=K (.exit j) s:=rfl
theorem Do {st:Nat→St} {k:Nat}:Ts st k K .ret s=K .ret s:=rfl
theorem Jo {j:Nat}:ug K (.exit j) s=K (.exit j) s:=rfl
theorem FG:ug K .ret s=K .ret s:=rfl
theorem PM:ug K .normal s=False:=rfl
theorem aas {a:zc} (st:Nat→St) (N:Nat) (h0:s=st 0) (h1:∀ k,k<N→awp P a (st k) (Ts st (k+1) K)) (h2:awp P a (st N) (ug K)):awp P (.loop a) s K:=by
 refine ⟨fun n s=>∃ k,k≤N∧n=N-k∧s=st k,N,s,St.imp.refl,⟨0,by omega,by omega,h0⟩,?_⟩
 rintro n s ⟨k,hk,rfl,rfl⟩
 by_cases h:k<N
 ·refine xL (fun e s hs=>?_) (h1 k h)
  cases e with
  | normal=>exact ⟨N-(k+1),s,by omega,St.imp.refl,k+1,by omega,rfl,hs⟩
  | _=>exact hs
 ·obtain rfl:k=N:=by omega
  refine xL (fun e s hs=>?_) h2
  cases e with
  | normal=>exact hs.elim
  | _=>exact hs
theorem Gl {st:Nat→St} {k j:Nat}:Ts st k K (.goto j) s=K (.goto j) s:=rfl
theorem Jp {j:Nat}:ug K (.goto j) s=K (.goto j) s:=rfl
def rY {α:Type} (m:List (Nat × α)):List (Nat × α)→Prop
 | []=>True
 | (t,x)::l=>lk m t=some x∧rY m l
theorem Ya {α:Type} {m l:List (Nat × α)} (h:rY m l) {t:Nat} {x:α} (hx:lk l t=some x):lk m t=some x:=by
 induction l with
 | nil=>simp[lk] at hx
 | cons p l ih =>
  obtain ⟨u,y⟩:=p
  obtain ⟨h1,h2⟩:=h
  simp only[lk] at hx
  split at hx
  ·rename_i e; cases hx; rw[← e]; exact h1
  ·exact ih h2 hx
theorem SS {α:Type} {m l:List (Nat × α)} (h:rY m l) (h':rY l m):lk l=lk m:=by
 funext t
 cases h1:lk l t with
 | some x=>exact (Ya h h1).symm
 | none =>
  cases h2:lk m t with
  | none=>rfl
  | some y=>rw[Ya h' h2] at h1; cases h1
def mI (s s':St):Prop:=rY s.env s'.env∧(s'.sto=s.sto∨lk s'.sto=lk s.sto∨(rY s.sto s'.sto∧rY s'.sto s.sto))∧s'.out=s.out
theorem St.imp_of {s s':St} (h:mI s s'):St.imp s s':=by
 obtain ⟨h1,h2,h3⟩:=h
 rintro F a w ⟨I,β,lam,hI⟩
 have e:lk s'.sto=lk s.sto:=by
  rcases h2 with h2 | h2 | h2
  ·rw[h2]
  ·exact h2
  ·exact SS h2.1 h2.2
 refine ⟨I,β,lam,{hI with env:=fun t x hx=>hI.env t x ?_,sto:=by rw[e]; exact hI.sto,usto:=by rw[e]; exact hI.usto,bdom:=by rw[e]; exact hI.bdom}⟩
 obtain ⟨d,t⟩:=t
 cases d with
 | zero=>exact Ya h1 hx
 | succ d =>
  simp only[St.look] at hx ⊢
  rw[← h3]; exact hx
theorem rZ {α:Type} {m:List (Nat × α)}:rY m []=True:=rfl
theorem tP {α:Type} {m l:List (Nat × α)} {t:Nat} {x:α}:rY m ((t,x)::l)=(lk m t=some x∧rY m l):=rfl
theorem aa6 {e e':List (Nat × AV)} {σ σ':List (Nat × ze)} {o o':List (List (Nat × AV))} {b b':Nat}:mI ⟨e,σ,o,b⟩ ⟨e',σ',o',b'⟩=(rY e e'∧(σ'=σ∨lk σ'=lk σ∨(rY σ σ'∧rY σ' σ))∧o'=o):=rfl
def stepW (st:Nat→St) (I:Nat→Prop) (k:Nat) (K:Exit→St→Prop):Exit→St→Prop
 | .normal,s=>mI s (st k)∧I k
 | e,s=>K e s
theorem Zm {st:Nat→St} {I:Nat→Prop} {k:Nat}:stepW st I k K .normal s=(mI s (st k)∧I k):=rfl
theorem Gm {st:Nat→St} {I:Nat→Prop} {k j:Nat}:stepW st I k K (.exit j) s=K (.exit j) s:=rfl
theorem Dp {st:Nat→St} {I:Nat→Prop} {k:Nat}:stepW st I k K .ret s=K .ret s:=rfl
theorem Gn {st:Nat→St} {I:Nat→Prop} {k j:Nat}:stepW st I k K (.goto j) s=K (.goto j) s:=rfl
theorem zl {a:zc} (st:Nat→St) (I:Nat→Prop) (N:Nat) (h0:mI s (st 0)) (i0:I 0) (h1:∀ k,k<N→I k→awp P a (st k) (stepW st I (k+1) K)) (h2:I N→awp P a (st N) (ug K)) :
  awp P (.loop a) s K:=by
 refine ⟨fun n s=>∃ k,k≤N∧n=N-k∧s=st k∧I k,N,st 0,St.imp_of h0,⟨0,by omega,by omega,rfl,i0⟩,?_⟩
 rintro n s ⟨k,hk,rfl,rfl,hi⟩
 by_cases h:k<N
 ·refine xL (fun e s hs=>?_) (h1 k h hi)
  cases e with
  | normal=>exact ⟨N-(k+1),st (k+1),by omega,St.imp_of hs.1,k+1,by omega,rfl,rfl,hs.2⟩
  | _=>exact hs
 ·obtain rfl:k=N:=by omega
  refine xL (fun e s hs=>?_) (h2 hi)
  cases e with
  | normal=>exact hs.elim
  | _=>exact hs
def UC (l:Nat) (st:Nat→St) (I:Nat→Prop) (k:Nat) (K:Exit→St→Prop):Exit→St→Prop
 | .goto i,s=>i=l∧mI s (st k)∧I k
 | e,s=>K e s
def UG (K:Exit→St→Prop):Exit→St→Prop
 | .goto _,_=>False
 | e,s=>K e s
theorem Jh {l j:Nat} {st:Nat→St} {I:Nat→Prop} {k:Nat}:UC l st I k K (.goto j) s=(j=l∧mI s (st k)∧I k):=rfl
theorem Jg {l j:Nat} {st:Nat→St} {I:Nat→Prop} {k:Nat}:UC l st I k K (.exit j) s=K (.exit j) s:=rfl
theorem FC {l:Nat} {st:Nat→St} {I:Nat→Prop} {k:Nat}:UC l st I k K .ret s=K .ret s:=rfl
theorem PA {l:Nat} {st:Nat→St} {I:Nat→Prop} {k:Nat}:UC l st I k K .normal s=K .normal s:=rfl
theorem Jq {j:Nat}:UG K (.exit j) s=K (.exit j) s:=rfl
theorem FH:UG K .ret s=K .ret s:=rfl
theorem PN:UG K .normal s=K .normal s:=rfl
theorem Jr {j:Nat}:UG K (.goto j) s=False:=rfl
theorem KM {a:zc} {l:Nat} (st:Nat→St) (I:Nat→Prop) (N:Nat) (h0:mI s (st 0)) (i0:I 0) (h1:∀ k,k<N→I k→awp P a (st k) (UC l st I (k+1) K)) (h2:I N→awp P a (st N) (UG K)) :
  awp P (.again l a) s K:=by
 refine ⟨fun n s=>∃ k,k≤N∧n=N-k∧s=st k∧I k,N,st 0,St.imp_of h0,⟨0,by omega,by omega,rfl,i0⟩,?_⟩
 rintro n s ⟨k,hk,rfl,rfl,hi⟩
 by_cases h:k<N
 ·refine xL (fun e s hs=>?_) (h1 k h hi)
  cases e with
  | goto i=>exact ⟨hs.1,N-(k+1),st (k+1),by omega,St.imp_of hs.2.1,k+1,by omega,rfl,rfl,hs.2.2⟩
  | _=>exact hs
 ·obtain rfl:k=N:=by omega
  refine xL (fun e s hs=>?_) (h2 hi)
  cases e with
  | goto i=>exact hs.elim
  | _=>exact hs
end
def wk (sz d:Nat) (rows:List (List AV)):AV:=.list (if rows=[] then 0 else sz) (if rows=[] then .full else .own d) rows
abbrev Nk (sz:Nat) (rows:List (List AV)):AV:=.list (if rows=[] then 0 else sz) (if rows=[] then .full else .plain) rows
theorem cS {sz d:Nat} {rows:List (List AV)}:strip (wk sz d rows)=Nk sz rows:=by
 unfold wk Nk
 split<;>rfl
theorem Ky {sz d:Nat} {rows:List (List AV)}:rf (wk sz d rows)=true:=rfl
theorem YJ {sz d k:Nat} {rows:List (List AV)}:zT k (wk sz d rows)=false:=by simp[wk,zT]
theorem Fd {sz d:Nat} {rows:List (List AV)} {K:AV→Option ze→Prop}:mA false [wk sz d rows] K=K (.val (.int .i64 rows.length)) none:=by simp[wk,mA]
theorem DV {sz d:Nat}:wk sz d []=.list 0 .full []:=rfl
theorem RR {sz d:Nat} {rows:List (List AV)} {σ:Nat→Option ze}:wB σ (wk sz d rows)=some (Nk sz rows):=by
 rw[← cS (d:=d)]; rfl
theorem adc {l:Nat} {v:Value}:dg l (.val v)=.val v:=rfl
theorem ada {l:Nat} {v:List AV}:dg l (.agg v)=.agg v:=rfl
theorem aeD {l:Nat} {v:List AV}:dg l (.ro v)=.ro v:=rfl
theorem adb {l k o:Nat}:dg l (.ptr k o)=.ptr k o:=rfl
theorem Cs {l sz:Nat} {r:List (List AV)}:dg l (.list sz .plain r)=.list sz .plain r:=rfl
theorem aaN {l sz:Nat} {r:List (List AV)}:dg l (.list sz .full r)=.list sz .full r:=rfl
theorem aeE {l k sz off n:Nat}:dg l (.sl k sz off n)=.sl k sz off n:=rfl
theorem aeG {l k sz off n:Nat}:dg l (.us k sz off n)=if k=l then .undef else .us k sz off n:=rfl
theorem aeF {l k sz i off:Nat}:dg l (.up k sz i off)=if k=l then .undef else .up k sz i off:=rfl
theorem Cu {l:Nat}:dg l .undef=.undef:=rfl
theorem aaM {l k sz i o:Nat}:dg l (.eptr k sz i o)=.eptr k sz i o:=rfl
theorem Cr {l:Nat} {t:TypeId} {x:AV}:dg l (.iface t x)=.iface t x:=rfl
theorem aeC {l:Nat} {f:Fn} {caps:List AV}:dg l (.fn f caps)=if caps.any (m5 l)=true then .undef else .fn f caps:=rfl
theorem Ct {l:Nat} {caps:List AV}:dg l (.tuple caps)=if caps.any (m5 l)=true then .undef else .tuple caps:=rfl
theorem aaL {l sz d:Nat} {rows:List (List AV)} (h:d≠l):dg l (wk sz d rows)=wk sz d rows:=by
 by_cases e:rows=[]
 ·simp[wk,e,dg]
 ·simp[wk,e,dg,h]
theorem ai {sz by_ d l:Nat} {s:St} {KS:St→Prop} {rows:List (List AV)} {m:Mode} {x:List AV} {xs:List (List AV)} (h0:0<sz) (h1:s.base+d=l) :
  wc sz by_ s (some d) KS [wk sz l rows,.list sz m (x::xs)] =
   ((rows.length+(xs.length+1))*by_≤140737488355328∧rows.length+(xs.length+1)≤9223372036854775807∧lk s.sto l=none∧KS ((s.dg l).put (some d) (wk sz l (rows++x::xs)))):=by
 subst h1
 unfold wk
 by_cases h:rows=[]
 ·subst h
  simp[wc,yT,h0,St.put]
 ·simp[wc,yT,h0,h,St.put]
theorem R4 {sz by_ d l sz':Nat} {s:St} {KS:St→Prop} {rows xs:List (List AV)} {m:Mode} (h0:0<sz) (hx:xs=[]∨sz'=sz) (h1:lk s.sto (s.base+d)=none) (h2:lk s.sto l=none)
  (hb:(rows.length+xs.length)*by_≤140737488355328) (hb2:rows.length+xs.length≤9223372036854775807)
  (hK:∀ t,t=l∨t=s.base+d→KS ((s.dg t).put (some d) (.list sz (.own t) (rows++xs)))):wc sz by_ s (some d) KS [wk sz l rows,.list sz' m xs]:=by
 by_cases hr:rows=[]
 ·subst hr
  exact ⟨hx,h0,hb,hb2,.inl rfl,h1,hK _ (.inr rfl)⟩
 ·simp only[wk,hr,if_false]
  exact ⟨hx,h0,hb,hb2,rfl,h2,hK _ (.inl rfl)⟩
theorem My {l:List Int} {off n:Nat} (h:l.length=n) (h0:off=0):zH (l.map iv) off (some n)=some (.agg (l.map iv)):=by
 subst h0
 exact Rl h
def stm:Mode→Mode
 | .own _=>.plain
 | m=>m
theorem qE {sz:Nat} {m:Mode} {rows:List (List AV)}:strip (.list sz m rows)=.list sz (stm m) rows:=by cases m<;>rfl
theorem Dq:stm .plain=.plain:=rfl
theorem AC:stm .full=.full:=rfl
theorem acf {l:Nat}:stm (.own l)=.plain:=rfl
theorem uH {cells:List AV} {n:Nat} (h:cells.length=n) (h2:cells.all rf=true):zH cells 0 (some n)=some (.agg (cells.map strip)):=by
 simp only[zH,List.drop_zero]
 rw[List.take_of_length_le (by omega),if_pos ⟨by omega,h2⟩]
theorem acg {m:Mode}:stm (stm m)=stm m:=by cases m<;>rfl
theorem aaO {l sz:Nat} {m:Mode} {r:List (List AV)} (h:stm m=m):dg l (.list sz m r)=.list sz m r:=by
 cases m with
 | own k=>cases h
 | _=>rfl
theorem BO {s:St} {d:Nat} {x:AV}:s.put (some d) x=⟨pt s.env d x,s.sto,s.out,s.base⟩:=rfl
attribute [simp] Gl Jp rZ tP aa6 Zm Gm Dp Gn Jh Jg FC PA Jq FH PN Jr
attribute [simp] adL abf abg NY Gk Do PM Jo FG aE UE ca j6 cS Ky YJ Fd DV RR adc ada aeD adb Cs aaN aeE aaL aeG aeF Cu aaM Cr aeC Ct m5 ai BO uh uZ St.dg dgE Gb Ga qE Dq AC acf acg aaO rP mV pf pf1 Jm My uH
abbrev XE:=Option (AV × Option ze)
def Qs (n:Nat) (lo hi mx:Bool) (xs:List AV):Option (Nat × Nat × Bool) :=
 match lo,hi,mx,xs with
 | false,false,false,[]=>some (0,n,false)
 | true,false,false,[.val (.int _ l)]=>if 0≤l∧l≤n then some (l.toNat,n,false) else none
 | false,true,false,[.val (.int _ h)]=>if 0≤h∧h≤n then some (0,h.toNat,false) else none
 | true,true,false,[.val (.int _ l),.val (.int _ h)]=>if 0≤l∧l≤h∧h≤n then some (l.toNat,h.toNat,false) else none
 | false,true,true,[.val (.int _ h),.val (.int _ m)]=>if 0≤h∧h=m∧m≤n then some (0,h.toNat,true) else none
 | true,true,true,[.val (.int _ l),.val (.int _ h),.val (.int _ m)]=>if 0≤l∧l≤h∧h=m∧m≤n then some (l.toNat,h.toNat,true) else none
 | _,_,_,_=>none
def Md:Option Value→XE
 | some v=>some (ofV v,none)
 | none=>none
def avX:Option AV→XE
 | some v=>some (v,none)
 | none=>none
def agc (P:Program) (op:BinOp) (t:TypeId) (ox oy:Operand):List AV→XE
 | [x,y]=>match toV x,toV y with
  | some a,some b=>Md (zr P (do eqGuard op t ox oy a b; binOp op t a b))
  | _,_=>none
 | _=>none
def aeZ (σ:Nat→Option ze) (n:Option Nat):List AV→XE
 | [.ptr j off]=>match σ j with
  | some (.var cells)=>avX (zH cells off n)
  | _=>none
 | [.eptr j sz i off]=>match σ j with
  | some (.arr sz' rows)=>if sz'=sz then (match rows[i]? with
   | some r=>avX (zH r off n)
   | none=>none) else none
  | _=>none
 | [.ro cells]=>avX (zH cells 0 n)
 | [.up l sz i off]=>match σ l with
  | some (.uarr sz' rows)=>if sz'=sz then (match rows[i]? with
   | some r=>avX (zH r off n)
   | none=>none) else none
  | _=>none
 | _=>none
def aa4 (len esz:Nat):List AV→XE
 | [.ptr j off,.val (.int _ i)]=>if 0≤i∧i<len then some (.ptr j (off+i.toNat * esz),none) else none
 | [.eptr j sz r off,.val (.int _ i)]=>if 0≤i∧i<len then some (.eptr j sz r (off+i.toNat * esz),none) else none
 | [.ro cells,.val (.int _ i)]=>if 0≤i∧i<len then some (.ro (cells.drop (i.toNat * esz)),none) else none
 | [.up j sz r off,.val (.int _ i)]=>if 0≤i∧i<len then some (.up j sz r (off+i.toNat * esz),none) else none
 | _=>none
def aa5 (sz:Nat):List AV→XE
 | [.list sz' _ rows,.val (.int _ i)]=>if 0≤i∧i<rows.length∧sz'=sz then (match rows[i.toNat]? with
   | some r=>some (.ro r,none)
   | none=>none) else none
 | [.sl j sz' off len,.val (.int _ i)]=>if 0≤i∧i<len∧sz'=sz then some (.eptr j sz (off+i.toNat) 0,none) else none
 | [.us j sz' off len,.val (.int _ i)]=>if 0≤i∧i<len∧sz'=sz then some (.up j sz (off+i.toNat) 0,none) else none
 | [.lit sz' rows,.val (.int _ i)]=>if xk rows=true∧0≤i∧i<(zP rows).length∧sz'=sz then (match (zP rows)[i.toNat]? with
   | some r=>some (.ro r,none)
   | none=>none) else none
 | _=>none
def ad7 (sz:Nat) (lo hi mx:Bool):List AV→XE
 | .list sz' _ rows::xs=>if rows.isEmpty=true∨sz'=sz then (match Qs rows.length lo hi mx xs with
   | some (l,h,f)=>some (.list sz' (if f=true then .full else .plain) ((rows.take h).drop l),none)
   | none=>none) else none
 | .sl j sz' off len::xs=>if sz'=sz then (match Qs len lo hi mx xs with
   | some (l,h,_)=>some (.sl j sz (off+l) (h-l),none)
   | none=>none) else none
 | .us j sz' off len::xs=>if sz'=sz then (match Qs len lo hi mx xs with
   | some (l,h,_)=>some (.us j sz (off+l) (h-l),none)
   | none=>none) else none
 | _=>none
def mkX (sz bytes:Nat) (zero:List AV) (d:Nat) (σ:Nat→Option ze):List AV→XE
 | [.val (.int _ l),.val (.int _ c)] =>
  if l=c∧0≤l∧l*bytes≤140737488355328∧l≤9223372036854775807∧zero.length=sz∧0<sz∧(σ d).isNone=true then
   some (.sl d sz 0 l.toNat,some (.arr sz (List.replicate l.toNat zero))) else none
 | _=>none
def agw (str:Bool):List AV→XE
 | [.list _ _ rows]=>if str=false then some (.val (.int .i64 rows.length),none) else none
 | [.sl _ _ _ len]=>if str=false then some (.val (.int .i64 len),none) else none
 | [.us _ _ _ len]=>if str=false then some (.val (.int .i64 len),none) else none
 | [.lit _ rows]=>if str=false then some (.val (.int .i64 rows.length),none) else none
 | [.val (.string s)]=>if str=true then some (.val (.int .i64 s.size),none) else none
 | _=>none
def Uo (call:FuncId→List AV→Option AV) (f:FuncId) (σ:Nat→Option ze) (xs:List AV):XE :=
 match yx (wB σ) xs with
 | some args=>match call f args with
  | some r=>if xs.any rP=false∨pf r=true then some (r,none) else none
  | none=>none
 | none=>none
def aa9 (P:Program) (t:TypeId) (ok:Bool) (σ:Nat→Option ze):List AV→XE
 | [.mp j,y]=>match σ j,toV y with
  | some (.map es _),some kv=>match findM P t kv es with
   | some (v,b)=>some (if ok=true then .tuple [ofV v,.val (.bool b)] else ofV v,none)
   | none=>none
  | _,_=>none
 | _=>none
def A2 (P:Program) (call:FuncId→List AV→Option AV) (d:Nat) (op:AOp) (xs:List AV) (σ:Nat→Option ze):XE :=
 match op with
 | .mov=>match xs with
  | [x]=>some (x,none)
  | _=>none
 | .pick=>match xs with
  | [.val (.bool t),a,b]=>some (cond t a b,none)
  | _=>none
 | .alloc cells=>if (σ d).isNone=true then some (.ptr d 0,some (.var cells)) else none
 | .box=>match xs with
  | [x]=>match cellsOf x with
   | some cs=>if (σ d).isNone=true then some (.ptr d 0,some (.var cs)) else none
   | none=>none
  | _=>none
 | .build zero places=>avX (orR (uZ zero places xs) (t5 zero places xs))
 | .mkslice sz n zero places=>match uh sz (List.replicate n zero) places xs,wg sz (List.replicate n zero) places xs with
  | some rows,_=>if zero.length=sz∧0<sz then some (.list sz .full rows,none) else none
  | none,some rows=>if zero.length=sz∧0<sz then some (.lit sz rows,none) else none
  | none,none=>none
 | .load n=>aeZ σ n xs
 | .nilChk=>match xs with
  | [.ptr j off]=>some (.ptr j off,none)
  | [.eptr j sz i off]=>some (.eptr j sz i off,none)
  | [.up j sz i off]=>some (.up j sz i off,none)
  | [.ro cells]=>some (.ro cells,none)
  | [.fn f caps]=>some (.fn f caps,none)
  | _=>none
 | .bin op t ox oy=>agc P op t ox oy xs
 | .un op=>match xs with
  | [.val v]=>Md (zr P (Op.unary op v))
  | _=>none
 | .conv s d'=>match xs with
  | [.val v]=>Md (zr P (convert s d' v))
  | _=>none
 | .idxV t=>match xs with
  | [x,.val i]=>match toV x with
   | some a=>Md (zr P (Instr.index t a i))
   | none=>none
  | _=>none
 | .sliceV _ lo hi mx=>match xs with
  | .val (.string s)::ys=>match Qs s.size lo hi mx ys with
   | some (l,h,_)=>if mx=false then some (.val (.string (s.extract l h)),none) else none
   | none=>none
  | _=>none
 | .mm b ts t=>match sm xs with
  | some vs=>Md (zr P (if b=.max then Builtin.max_ ts t vs.toArray else Builtin.min_ ts t vs.toArray))
  | none=>none
 | .field off n=>match xs with
  | [.agg cells]=>avX (vu cells off n)
  | [.raw cells]=>avX (zH cells off n)
  | _=>none
 | .faddr off=>match xs with
  | [.ptr j o]=>some (.ptr j (o+off),none)
  | [.eptr j sz i o]=>some (.eptr j sz i (o+off),none)
  | [.up j sz i o]=>some (.up j sz i (o+off),none)
  | [.ro cells]=>some (.ro (cells.drop off),none)
  | _=>none
 | .iaddrA len esz=>aa4 len esz xs
 | .iaddrS sz=>aa5 sz xs
 | .idxA len esz n=>match xs with
  | [.agg cells,.val (.int _ i)]=>if 0≤i∧i<len then avX (vu cells (i.toNat * esz) n) else none
  | _=>none
 | .slice sz lo hi mx=>ad7 sz lo hi mx xs
 | .mk sz bytes zero=>mkX sz bytes zero d σ xs
 | .len s=>agw s xs
 | .extract i=>match xs with
  | [.tuple vs]=>avX vs[i]?
  | _=>none
 | .mkfn f=>some (.fn (.func f) (xs.map strip),none)
 | .mkb f=>some (.fn (.via 0 #[] f false) (xs.map strip),none)
 | .call f=>Uo call f σ xs
 | .callv=>match xs with
  | .fn (.func f) caps::ys=>if yZ P f=true then Uo call f σ (ys++caps) else none
  | .fn (.via _ _ f _) rs::ys=>if yZ P f=true then Uo call f σ (rs++ys) else none
  | _=>none
 | .mksliceL sz n zero places=>match wg sz (List.replicate n zero) places xs with
  | some rows=>if zero.length=sz∧0<sz then some (.lit sz rows,none) else none
  | none=>none
 | .mkmap=>if (σ d).isNone=true then some (.mp d,some (.map #[] 0)) else none
 | .lookup t ok=>aa9 P t ok σ xs
 | .mkif t=>match xs with
  | [x]=>if rf x=true then some (.iface t (strip x),none) else none
  | _=>none
 | .callm name=>match xs with
  | .iface t x::ys=>match ZT P t name with
   | some f=>if yZ P f=true then Uo call f σ (x::ys) else none
   | none=>none
  | _=>none
 | _=>none
def aed (n:Nat) (s:St) (dst:Option Nat):List AV→Option St
 | [.ptr j off,x]=>match lk s.sto j,cellsOf x with
  | some (.var cells),some cs=>if cs.length=n∧off+n≤cells.length∧dst.isNone=true then some {s with sto:=pt s.sto j (.var (splice cells off cs))} else none
  | _,_=>none
 | [.eptr j sz i off,x]=>match lk s.sto j,cellsOf x with
  | some (.arr sz' rows),some cs=>if sz'=sz∧cs.length=n∧off+n≤sz∧i<rows.length∧cs.all rf=true∧dst.isNone=true then
    (match rows[i]? with
    | some r=>some {s with sto:=pt s.sto j (.arr sz (rows.set i (splice r off (cs.map strip))))}
    | none=>none) else none
  | _,_=>none
 | [.up l sz i off,x]=>match lk s.sto l,cellsOf x with
  | some (.uarr sz' rows),some cs=>if sz'=sz∧cs.length=n∧off+n≤sz∧dst.isNone=true then
    (match rows[i]? with
    | some r=>some {s with sto:=pt s.sto l (.uarr sz (rows.set i (splice r off cs)))}
    | none=>none) else none
  | _,_=>none
 | _=>none
def YT (σ:Nat→Option ze) (sz:Nat):AV→Option (List (List AV))
 | .list sz' _ rows=>if rows.isEmpty=true∨sz'=sz then some rows else none
 | .sl j sz' off len=>if sz'=sz then (match σ j with
   | some (.arr sz'' rows)=>if sz''=sz∧off+len≤rows.length then some ((rows.drop off).take len) else none
   | _=>none) else none
 | .us j sz' off len=>if sz'=sz then (match σ j with
   | some (.uarr sz'' rows)=>if sz''=sz∧off+len≤rows.length∧xk ((rows.drop off).take len)=true then some (zP ((rows.drop off).take len)) else none
   | _=>none) else none
 | .val (.string b)=>if sz=1 then some (b.data.toList.map fun x=>[.val (.int .u8 x.toNat)]) else none
 | .lit sz' rows=>if sz'=sz∧xk rows=true then some (zP rows) else none
 | _=>none
def S1 (σ:Nat→Option ze) (sz:Nat):AV→Option (List (List AV))
 | .us j sz' off len=>if sz'=sz then (match σ j with
   | some (.uarr sz'' rows)=>if sz''=sz∧off+len≤rows.length then some ((rows.drop off).take len) else none
   | _=>none) else none
 | .lit sz' rows=>if sz'=sz then some rows else none
 | x=>YT σ sz x
def DZ (sz bytes:Nat) (s:St) (dst:Option Nat):List AV→Option St
 | [.list _ .full rows1,x]=>match S1 (lk s.sto) sz x with
  | some rows2=>if 0<sz∧(rows1.length+rows2.length)*bytes≤140737488355328∧rows1.length+rows2.length≤9223372036854775807 then
    (match dst with
    | some d=>if rows1.isEmpty=true∧(lk s.sto (s.base+d)).isNone=true then
      some (((s.dg (s.base+d)).put (some d) (.us (s.base+d) sz 0 rows2.length)).new (some d) (some (.uarr sz (zX (s.base+d) rows2)))) else none
    | none=>none) else none
  | none=>none
 | [.us l sz1 off len,x]=>match S1 (lk s.sto) sz x with
  | some rows2=>if 0<sz∧(len+rows2.length)*bytes≤140737488355328∧len+rows2.length≤9223372036854775807 then
    (match lk s.sto l,dst with
    | some (.uarr sz' rows1),some d=>if sz'=sz∧sz1=sz∧off=0∧len=rows1.length then
      some ({(s.dg l) with sto:=pt (s.dg l).sto l (.uarr sz (zX l (rows1++rows2)))}.put (some d) (.us l sz 0 (len+rows2.length))) else none
    | _,_=>none) else none
  | none=>none
 | _=>none
def FW (sz n:Nat) (zero:List AV) (places:List Nat) (s:St) (dst:Option Nat) (xs:List AV):Option St :=
 match wg sz (List.replicate n zero) places xs,dst with
 | some rows,some d=>if zero.length=sz∧0<sz∧(lk s.sto (s.base+d)).isNone=true then
   some (((s.dg (s.base+d)).put (some d) (.us (s.base+d) sz 0 n)).new (some d) (some (.uarr sz (zX (s.base+d) rows)))) else none
 | _,_=>none
abbrev CI:=FuncId→List AV→St→Option (AV × St)
def GN (P:Program) (ci:CI) (f:FuncId) (xs:List AV) (s:St) (dst:Option Nat):Option St :=
 if yZ P f=true then (match ci f xs s with
  | some (r,s')=>if s'.base=s.base then some (s'.put dst r) else none
  | none=>none) else none
def aaq (sz bytes:Nat) (s:St) (dst:Option Nat):List AV→Option St
 | [.list sz1 m rows1,x]=>match YT (lk s.sto) sz x with
  | some rows2=>if 0<sz∧(rows1.length+rows2.length)*bytes≤140737488355328∧rows1.length+rows2.length≤9223372036854775807 then
    (match m,dst with
    | .full,some d=>if (rows1.isEmpty=true∨sz1=sz)∧(lk s.sto (s.base+d)).isNone=true then some ((s.dg (s.base+d)).put (some d) (.list sz (.own (s.base+d)) (rows1++rows2))) else none
    | .own l,some d=>if sz1=sz∧(lk s.sto l).isNone=true then some ((s.dg l).put (some d) (.list sz (.own l) (rows1++rows2))) else none
    | _,_=>none) else none
  | none=>none
 | _=>none
def aaH (σ:Nat→Option ze) (sz:Nat):AV→Option (List (List AV))
 | .val _=>none
 | x=>YT σ sz x
def aeA (sz:Nat) (s:St) (dst:Option Nat):List AV→Option St
 | [.sl j sz1 off len,x]=>if sz1=sz∧0<sz then (match aaH (lk s.sto) sz x with
  | some rows2=>match lk s.sto j with
   | some (.arr sz' rows)=>if sz'=sz∧off+len≤rows.length∧rows2.length≤len then
     some (({s with sto:=pt s.sto j (.arr sz (rows.take off++rows2++rows.drop (off+rows2.length)))}).put dst (.val (.int .i64 (rows2.length:Nat)))) else none
   | _=>none
  | none=>none) else none
 | _=>none
section
variable {P:Program} {call:FuncId→List AV→Option AV} {ci:CI} {K:St→Prop} {s s':St} {xs:List AV} {dst:Option Nat}
def vEq:Value→Value→Bool
 | .bool a,.bool b=>a == b
 | .int k a,.int k' b=>decide (k=k')&&decide (a=b)
 | .string a,.string b=>decide (a=b)
 | .pointer none,.pointer none=>true
 | .slice none a b,.slice none c d=>decide (a=c)&&decide (b=d)
 | _,_=>false
def mEq:Mode→Mode→Bool
 | .plain,.plain=>true
 | .full,.full=>true
 | .own a,.own b=>decide (a=b)
 | _,_=>false
def fEq:Fn→Fn→Bool
 | .func a,.func b=>decide (a=b)
 | _,_=>false
mutual
def D0:AV→AV→Bool
 | .undef,y=>match y with
  | .undef=>true
  | _=>false
 | .val a,y=>match y with
  | .val b=>vEq a b
  | _=>false
 | .agg a,y=>match y with
  | .agg b=>gH a b
  | _=>false
 | .tuple a,y=>match y with
  | .tuple b=>gH a b
  | _=>false
 | .list n m r,y=>match y with
  | .list n' m' r'=>decide (n=n')&&(mEq m m'&&Qq r r')
  | _=>false
 | .ro a,y=>match y with
  | .ro b=>gH a b
  | _=>false
 | .ptr a b,y=>match y with
  | .ptr c d=>decide (a=c)&&decide (b=d)
  | _=>false
 | .eptr a b c d,y=>match y with
  | .eptr a' b' c' d'=>decide (a=a')&&decide (b=b')&&decide (c=c')&&decide (d=d')
  | _=>false
 | .sl a b c d,y=>match y with
  | .sl a' b' c' d'=>decide (a=a')&&decide (b=b')&&decide (c=c')&&decide (d=d')
  | _=>false
 | .us a b c d,y=>match y with
  | .us a' b' c' d'=>decide (a=a')&&decide (b=b')&&decide (c=c')&&decide (d=d')
  | _=>false
 | .up a b c d,y=>match y with
  | .up a' b' c' d'=>decide (a=a')&&decide (b=b')&&decide (c=c')&&decide (d=d')
  | _=>false
 | .fn f c,y=>match y with
  | .fn f' c'=>fEq f f'&&gH c c'
  | _=>false
 | .iface t x,y=>match y with
  | .iface t' x'=>decide (t=t')&&D0 x x'
  | _=>false
 | .mp a,y=>match y with
  | .mp b=>decide (a=b)
  | _=>false
 | .lit n r,y=>match y with
  | .lit n' r'=>decide (n=n')&&Qq r r'
  | _=>false
 | .raw a,y=>match y with
  | .raw b=>gH a b
  | _=>false
def gH:List AV→List AV→Bool
 | [],y=>match y with
  | []=>true
  | _=>false
 | x::l,y=>match y with
  | z::m=>D0 x z&&gH l m
  | _=>false
def Qq:List (List AV)→List (List AV)→Bool
 | [],y=>match y with
  | []=>true
  | _=>false
 | x::l,y=>match y with
  | z::m=>gH x z&&Qq l m
  | _=>false
end
def agh:Option ze→Option ze→Bool
 | none,none=>true
 | some (.var a),some (.var b)=>gH a b
 | some (.arr n a),some (.arr m b)=>decide (n=m)&&Qq a b
 | some (.map a n),some (.map b m)=>a.isEmpty&&b.isEmpty&&decide (n=m)
 | _,_=>false
def agd (P:Program) (call:FuncId→List AV→Option AV) (op:AOp) (s:St) (dst:Option Nat) (xs:List AV):Option St :=
 match dst with
 | some d=>match A2 P call (s.base+d) op xs (lk (del [s.base+d] s.sto)),lk s.env d with
  | some (x,e),some y=>if D0 y x&&agh (lk s.sto (s.base+d)) e then some s else none
  | _,_=>none
 | none=>none
def Fw (σ:List (Nat × ze)) (base:Nat):List Nat→Bool
 | []=>true
 | d::ds=>(lk σ (base+d)).isNone&&Fw σ base ds
def aeb (ds:List Nat) (s:St):Option St:=if Fw s.sto s.base ds=true then some {s with env:=del ds s.env} else none
def abe (P:Program) (t:TypeId) (s:St) (dst:Option Nat):List AV→Option St
 | [.mp j,y,x]=>match lk s.sto j,toV y,toV x with
  | some (.map es clock),some kv,some v=>match setM P t kv v es clock with
   | some (es',clock')=>if dst.isNone=true then some {s with sto:=pt s.sto j (.map es' clock')} else none
   | none=>none
  | _,_,_=>none
 | _=>none
def execOp (P:Program) (call:FuncId→List AV→Option AV) (ci:CI) (dst:Option Nat) (op:AOp) (xs:List AV) (s:St):Option St :=
 match op with
 | .store n=>aed n s dst xs
 | .append sz b=>aaq sz b s dst xs
 | .copy sz=>aeA sz s dst xs
 | .appendU sz b=>DZ sz b s dst xs
 | .mksliceU sz n z ps=>FW sz n z ps s dst xs
 | .callI f=>GN P ci f xs s dst
 | .mapset t=>abe P t s dst xs
 | .chk op=>agd P call op s dst xs
 | .start ds=>aeb ds s
 | .callvI=>match xs with
  | .fn (.func f) caps::ys=>GN P ci f (ys++caps) s dst
  | _=>none
 | .nilS neg=>match xs with
  | [x]=>match P6 x with
   | some (_+1)=>some (s.put dst (.val (.bool neg)))
   | _=>none
  | _=>none
 | .callM _ _=>none
 | .chkG _ _ _=>none
 | op=>match A2 P call (s.base+dst.getD 0) op xs (lk s.sto) with
  | some (x,e)=>some ((s.put dst x).new dst e)
  | none=>none
end
abbrev af7:=FuncId→Option (zc × List zB × Nat)
def X0 (P:Program) (tbl:af7):Prop:=∀ f ac ras N,tbl f=some (ac,ras,N)→zq P f=some (bare ac,ras,N)
theorem X0.nil {P:Program}:X0 P (lk []):=fun _ _ _ _ h=>by cases h
theorem X0.cons {P:Program} {f:FuncId} {ac:zc} {ras:List zB} {N:Nat} {l:List (Nat × (zc × List zB × Nat))} (h:zq P f=some (bare ac,ras,N)) (hl:X0 P (lk l)) :
  X0 P (lk ((f,(ac,ras,N))::l)):=fun g a r n hg=>by
 simp only[lk] at hg
 split at hg
 ·rename_i e; subst e; cases hg; exact h
 ·exact hl _ _ _ _ hg
@[simp] theorem agB {b:Bool}:ofV (.bool b)=.val (.bool b):=rfl
@[simp] theorem abr {k:IntKind} {n:Int}:ofV (.int k n)=.val (.int k n):=rfl
@[simp] theorem ae4 {s:ByteArray}:ofV (.string s)=.val (.string s):=rfl
@[congr] theorem aep {P:Program} {f:FuncId} {σ:Nat→Option ze} {xs xs':List AV} {k:AV→Option ze→Prop} (h:Unit→xs=xs'):xX P f σ xs k=xX P f σ xs' k:=by rw[h ()]
@[congr] theorem acX {P:Program} {os:List zi} {s s':St} {K:St→Prop} (h:Unit→s=s'):zj P os s K=zj P os s' K:=by rw[h ()]
@[simp] theorem ahf {c:Prop} [Decidable c]:stm (if c then Mode.full else Mode.plain)=if c then Mode.full else Mode.plain:=by split<;>rfl
def K3 (len esz:Nat) (n:Option Nat) (x y:AV) (k:AV→Option ze→Prop):Prop :=
 match x,y with
 | .agg cells,.val (.int _ i)=>0≤i∧i<len∧xM (vu cells (i.toNat * esz) n) k
 | _,_=>False
@[simp] theorem afD {len esz:Nat} {n:Option Nat} {cells:List AV} {ik:IntKind} {i:Int} {k:AV→Option ze→Prop} :
  K3 len esz n (.agg cells) (.val (.int ik i)) k=(0≤i∧i<len∧xM (vu cells (i.toNat * esz) n) k):=rfl
@[simp] theorem agC {P:Program} {s:St} {KS:St→Prop} {os:List zi} {d:Nat} {len esz:Nat} {n:Option Nat} {x y:Opd} :
  zj P (⟨some d,.idxA len esz n,[x,y],none⟩::os) s KS=K3 len esz n (ev s x) (ev s y) (xm P os s (some d) KS):=by
 show zJ P (s.base+d) (.idxA len esz n) [ev s x,ev s y] (lk s.sto) (xm P os s (some d) KS)=_
 simp only[zJ,K3]
 cases ev s x<;>try rfl
 cases ev s y<;>try rfl
 rename_i v
 cases v<;>rfl
@[simp] theorem ae7 {cells:List AV} {off:Nat}:vu cells off none=cells[off]?:=rfl
open Go.ChangeShapes Go.WideShapes
inductive Ty where
 | bool
 | int (k:IntKind)
 | str
 | slice (e:Ty)
 | arr (n:Nat) (e:Ty)
 | st (fs:List Ty)
mutual
def Ty.sz:Ty→Nat
 | .bool=>1
 | .int _=>1
 | .str=>1
 | .slice _=>1
 | .arr n e=>n*e.sz
 | .st fs=>Ty.szs fs
def Ty.szs:List Ty→Nat
 | []=>0
 | t::ts=>t.sz+Ty.szs ts
end
def mC (P:Program) (f:TypeId→Option Ty):Nat→List Field→Option (List Ty)
 | _,[]=>some []
 | off,g::gs=>match f g.type with
  | some τ=>if g.offset=off∧P.cellsOf g.type=τ.sz then (mC P f (off+τ.sz) gs).map (τ::·) else none
  | none=>none
def gy (P:Program):Nat→TypeId→Option Ty
 | 0,_=>none
 | m+1,t=>match P.underlying t with
  | some .bool=>some .bool
  | some (.int k)=>some (.int k)
  | some .string=>some .str
  | some (.slice e)=>match gy P m e with
   | some τ=>if 0<τ.sz∧P.cellsOf e=τ.sz∧0<P.bytesOf e then some (.slice τ) else none
   | none=>none
  | some (.array n e)=>match gy P m e with
   | some τ=>if P.cellsOf e=τ.sz∧P.cellsOf t=n*τ.sz then some (.arr n τ) else none
   | none=>none
  | some (.struct fs)=>match mC P (gy P m) 0 fs.toList with
   | some τs=>if P.cellsOf t=Ty.szs τs then some (.st τs) else none
   | none=>none
  | _=>none
mutual

def TyC:Ty→List AV→Prop
 | .bool,cs=>∃ b,cs=[.val (.bool b)]
 | .int k,cs=>∃ n,cs=[.val (.int k n)]∧(Lit.int k n).wf=true
 | .str,cs=>∃ s:ByteArray,cs=[.val (.string s)]∧s.size≤reachBytes
 | .slice e,cs=>∃ rows:List (List AV),cs=[.list e.sz .plain rows]∧rows.length≤reachBytes∧∀ r∈rows,TyC e r
 | .arr n e,cs=>∃ rows:List (List AV),cs=rows.flatten∧rows.length=n∧∀ r∈rows,TyC e r
 | .st fs,cs=>QE fs cs
def QE:List Ty→List AV→Prop
 | [],cs=>cs=[]
 | τ::τs,cs=>∃ a b,cs=a++b∧TyC τ a∧QE τs b
end
theorem Yv {α:Type} {n:Nat}:∀ {rows:List (List α)},(∀ r∈rows,r.length=n)→rows.flatten.length=rows.length*n
 | [],_=>by simp
 | r::rows,h=>by
  simp only[List.flatten_cons,List.length_append,List.length_cons,Nat.succ_mul]
  rw[Yv (rows:=rows) (fun r hr=>h r (by simp[hr])),h r (by simp)]
  omega
mutual
theorem ZC:∀ {τ:Ty} {cs:List AV},TyC τ cs→cs.length=τ.sz
 | .bool,_,h=>by obtain ⟨b,rfl⟩:=h; rfl
 | .int _,_,h=>by obtain ⟨b,rfl,_⟩:=h; rfl
 | .str,_,h=>by obtain ⟨b,rfl,_⟩:=h; rfl
 | .slice _,_,h=>by obtain ⟨b,rfl,_⟩:=h; rfl
 | .arr n e,_,h=>by
  obtain ⟨rows,rfl,rfl,h⟩:=h
  rw[Yv (fun r hr=>ZC (h r hr))]; rfl
 | .st fs,_,h=>QF (show QE fs _ from h)
theorem QF:∀ {τs:List Ty} {cs:List AV},QE τs cs→cs.length=Ty.szs τs
 | [],_,h=>by rw[show _=[] from h]; rfl
 | τ::τs,_,h=>by
  obtain ⟨a,b,rfl,h1,h2⟩:=h
  rw[List.length_append,ZC h1,QF h2]; rfl
end
section
variable {H:Type} {enc:TypeId × Value→H} {P:Program} {w:World}
abbrev PI (ps:List MemPlace):Nat→Nat→Prop:=fun b o=>MemPlace.cell b o∈ps
def xE (w:World) (ps:List MemPlace) (xs:List AV) (cs:List Value):Prop :=
 xs.length=cs.length∧∀ (i:Nat) x,xs[i]?=some x→R0 (PI ps) w x (cs.getD i undef)∧single (cs.getD i undef)=true
theorem xE.mono {ps qs:List MemPlace} {xs:List AV} {cs:List Value} (h:xE w ps xs cs) (hs:∀ p∈ps,p∈qs):xE w qs xs cs :=
 ⟨h.1,fun i x hx=>⟨(h.2 i x hx).1.mono (fun _ _ hp=>hs _ hp) (fun _ _ _ _ h=>h),(h.2 i x hx).2⟩⟩
theorem xE.append {ps:List MemPlace} {xs ys:List AV} {cs ds:List Value} (h:xE w ps xs cs) (k:xE w ps ys ds):xE w ps (xs++ys) (cs++ds):=by
 refine ⟨by simp[h.1,k.1],fun i x hx=>?_⟩
 by_cases hi:i<xs.length
 ·rw[List.getElem?_append_left hi] at hx
  have:(cs++ds).getD i undef=cs.getD i undef:=by simp only[List.getD]; rw[List.getElem?_append_left (by rw[← h.1]; exact hi)]
  rw[this]; exact h.2 i x hx
 ·rw[List.getElem?_append_right (by omega)] at hx
  have:(cs++ds).getD i undef=ds.getD (i-xs.length) undef:=by simp only[List.getD]; rw[List.getElem?_append_right (by rw[← h.1]; omega),h.1]
  rw[this]; exact k.2 _ x hx
theorem xE.one {ps:List MemPlace} {x:AV} {v:Value} (h:R0 (PI ps) w x v) (hs:single v=true):xE w ps [x] [v]:=by
 refine ⟨rfl,fun i y hy=>?_⟩
 cases i with
 | zero=>simp at hy; subst hy; exact ⟨h,hs⟩
 | succ i=>simp at hy
theorem xE.nil {ps:List MemPlace}:xE w ps [] []:=⟨rfl,fun i x h=>by simp at h⟩
theorem Tr {ps:List MemPlace} {n:Nat}:∀ {rows:List (List AV)} {cs:List Value},cs.length=rows.length*n →
  (∀ i r,rows[i]?=some r→xE w ps r ((cs.drop (i*n)).take n))→xE w ps rows.flatten cs
 | [],cs,hl,_=>by
  have:cs=[]:=List.eq_nil_of_length_eq_zero (by simpa using hl)
  subst this
  exact xE.nil
 | r::rows,cs,hl,h=>by
  simp only[List.length_cons,Nat.succ_mul] at hl
  have h0:=h 0 r rfl
  simp only[Nat.zero_mul,List.drop_zero] at h0
  have ih:=Tr (ps:=ps) (n:=n) (rows:=rows) (cs:=cs.drop n) (by simp; omega) (fun i q hq=>by
   have:=h (i+1) q (by simpa using hq)
   rw[List.drop_drop]
   rwa [Nat.succ_mul,Nat.add_comm] at this)
  have:=h0.append ih
  rwa [List.take_append_drop] at this
theorem Y0 {base:Nat} {a:Addr} {n:Nat} {cs:List Value} (h:w.cells? base a n=some cs):cs.length=n∧∀ i,i<n→w.cell? (a.add i)=cs[i]?:=by
 unfold World.cells? at h
 split at h
 ·refine ⟨by simpa using mapM_some_length h,fun i hi=>mapM_some_get h i i (by simp[hi])⟩
 ·cases h
abbrev m7 (P:Program) (t:TypeId) (d:DataW H):Prop:=(d.weights P t).all (·≤reachBytes)=true
theorem Zb {P:Program} {e:TypeId}:∀ {ds:List (DataW H)},(DataW.weightsAll P e ds).all (·≤reachBytes)=true→∀ d∈ds,m7 P e d
 | [],_,_,h=>by cases h
 | d::ds,h,q,hq=>by
  simp only[DataW.weightsAll,List.all_append,Bool.and_eq_true] at h
  rcases List.mem_cons.1 hq with rfl | hq
  ·exact h.1
  ·exact Zb h.2 q hq
theorem cE {P:Program}:∀ {ts:List TypeId} {ds:List (DataW H)},(DataW.weightsEach P ts ds).all (·≤reachBytes)=true→∀ (i:Nat) t d,ts[i]?=some t→ds[i]?=some d→m7 P t d
 | [],_,_,i,t,d,h1,_=>by simp at h1
 | t::ts,[],_,i,_,_,_,h2=>by simp at h2
 | t::ts,d::ds,h,i,t',d',h1,h2=>by
  simp only[DataW.weightsEach,List.all_append,Bool.and_eq_true] at h
  cases i with
  | zero=>simp at h1 h2; subst h1; subst h2; exact h.1
  | succ i=>simp at h1 h2; exact cE h.2 i _ _ h1 h2
theorem f8 {α β:Type} {Q:Nat→α→β→Prop}:∀ {l:List α} (k:Nat),(∀ i a,l[i]?=some a→∃ b,Q (k+i) a b)→∃ m:List β,m.length=l.length∧∀ i a b,l[i]?=some a→m[i]?=some b→Q (k+i) a b
 | [],_,_=>⟨[],rfl,fun i a b h=>by simp at h⟩
 | a::l,k,h=>by
  obtain ⟨b,hb⟩:=h 0 a rfl
  obtain ⟨m,h1,h2⟩:=f8 (l:=l) (k+1) (fun i a ha=>by
   have:=h (i+1) a (by simpa using ha)
   rwa [show k+1+i=k+(i+1) by omega])
  refine ⟨b::m,by simp[h1],fun i a' b' ha hb'=>?_⟩
  cases i with
  | zero=>simp at ha hb'; subst ha; subst hb'; exact hb
  | succ i =>
   simp at ha hb'
   have:=h2 i a' b' ha hb'
   rwa [show k+1+i=k+(i+1) by omega] at this
theorem Zl {ps:List MemPlace} {n:Nat} {f:TypeId→Option Ty} {cs:List Value}:∀ {fs:List Field} {τs:List Ty} {off:Nat} {xs:List (DataW H × List MemPlace)},mC P f off fs=some τs→xs.length=fs.length→cs.length=off+Ty.szs τs →
  (∀ (i:Nat) (g:Field) x,fs[i]?=some g→xs[i]?=some x→(∀ p∈x.2,p∈ps)∧∀ τ,f g.type=some τ→∃ ys,TyC τ ys∧xE w x.2 ys ((cs.drop g.offset).take (P.cellsOf g.type))) →
  ∃ ys,QE τs ys∧xE w ps ys (cs.drop off)
 | [],τs,off,xs,h,_,hl,_=>by
  simp only[mC,Option.some.injEq] at h
  subst h
  simp only[Ty.szs,Nat.add_zero] at hl
  rw[List.drop_of_length_le (by omega)]
  exact ⟨[],rfl,xE.nil⟩
 | g::fs,τs,off,xs,h,hx,hl,hf=>by
  simp only[mC] at h
  split at h
  ·rename_i τ hτ
   split at h
   ·rename_i hc
    cases hr:mC P f (off+τ.sz) fs with
    | none=>simp[hr] at h
    | some τr =>
     simp only[hr,Option.map_some,Option.some.injEq] at h
     subst h
     cases xs with
     | nil=>simp at hx
     | cons x xs =>
      simp only[Ty.szs] at hl
      obtain ⟨h1,h2⟩:=hf 0 g x rfl rfl
      obtain ⟨ys,hy1,hy2⟩:=h2 τ hτ
      obtain ⟨zs,hz1,hz2⟩:=Zl (ps:=ps) (n:=n) hr (by simpa using hx) (by omega) (fun i g' x' hg hx'=>hf (i+1) g' x' (by simpa using hg) (by simpa using hx'))
      refine ⟨ys++zs,⟨ys,zs,rfl,hy1,hz1⟩,?_⟩
      have:=(hy2.mono h1).append hz2
      rw[hc.1,hc.2,← List.drop_drop] at this
      rwa [List.take_append_drop] at this
   ·cases h
  ·cases h
theorem cQ {held:Bool}:∀ (n m:Nat) (t:TypeId) (τ:Ty) (cs:List Value) (d:DataW H) (ps:List MemPlace),gy P m t=some τ →
  DataW.trod enc P w 0 (fun _=>true) held n t cs=some (d,ps)→m7 P t d→∃ xs,TyC τ xs∧xE w ps xs cs
 | 0,_,_,_,_,_,_,_,h,_=>by simp[DataW.trod] at h
 | n+1,0,_,_,_,_,_,h,_,_=>by cases h
 | n+1,m+1,t,τ,cs,d,ps,hτ,h,hw=>by
  simp only[gy] at hτ
  split at hτ<;>rename_i hu
  ·cases hτ
   obtain ⟨b,rfl,hx⟩:=DataW.trod_bool hu h
   exact ⟨[.val (.bool b)],⟨b,rfl⟩,xE.one (.val _) rfl⟩
  ·cases hτ
   obtain ⟨k,rfl,hx,hwf⟩:=DataW.trod_int hu h
   exact ⟨[.val (.int _ k)],⟨k,rfl,hwf⟩,xE.one (.val _) rfl⟩
  ·cases hτ
   obtain ⟨s,rfl,hx,_⟩:=DataW.trod_string hu h
   simp only[Prod.mk.injEq] at hx
   obtain ⟨rfl,rfl⟩:=hx
   refine ⟨[.val (.string s)],⟨s,rfl,?_⟩,xE.one (.val _) rfl⟩
   simp[m7,DataW.weights] at hw
   exact hw
  ·rename_i e
   split at hτ
   ·rename_i σ hσ
    split at hτ
    ·rename_i hc
     cases hτ
     rcases DataW.trod_slice hu h with ⟨rfl,hx⟩ | ⟨a,len,cap,elems,rest,n',hn,rfl,hx,_,hlc,hcm,hlen,hel,_,_⟩
     ·exact ⟨[.list σ.sz .plain []],⟨[],rfl,by simp,by simp⟩,xE.one (.listNil _ _ _ _ (fun h=>by cases h) (fun _ h=>by cases h)) rfl⟩
     ·cases hn
      simp only[Prod.mk.injEq] at hx
      obtain ⟨rfl,rfl⟩:=hx
      simp only[m7,DataW.weights,hu,List.all_cons,List.all_append,Bool.and_eq_true,decide_eq_true_eq] at hw
      obtain ⟨hw1,hw2,_⟩:=hw
      have hsz:=Zb hw2
      obtain ⟨rows,hr1,hr2⟩:=f8 (l:=elems) (Q:=fun i y r=>TyC σ r∧∃ c,w.cells? 0 (a.add (i*P.cellsOf e)) (P.cellsOf e)=some c∧xE w y.2 r c) 0 (fun i y hy=>by
       have hi:i<len:=by have:=(List.getElem?_eq_some_iff.1 hy).1; omega
       have:=hel i hi
       rw[hy,Option.bind_eq_some_iff] at this
       obtain ⟨c,hc1,hc2⟩:=this
       obtain ⟨xs,hx1,hx2⟩:=cQ n m e σ c y.1 y.2 hσ hc2 (hsz y.1 (List.mem_map.2 ⟨y,List.mem_of_getElem? hy,rfl⟩))
       exact ⟨xs,hx1,c,by rw[Nat.zero_add]; exact hc1,hx2⟩)
      simp only[Nat.zero_add] at hr2
      have hlr:rows.length=len:=by omega
      refine ⟨[.list σ.sz .plain rows],⟨rows,rfl,?_,fun r hr=>?_⟩,xE.one ?_ rfl⟩
      ·have h1:(elems.length+rest.length)*P.bytesOf e≤reachBytes:=by simpa using hw1
       have h2:elems.length+rest.length≤(elems.length+rest.length)*P.bytesOf e:=Nat.le_mul_of_pos_right _ hc.2.2
       omega
      ·obtain ⟨i,hi⟩:=List.mem_iff_getElem?.1 hr
       have hil:i<elems.length:=by have:=(List.getElem?_eq_some_iff.1 hi).1; omega
       exact (hr2 i elems[i] r (by simp[hil]) hi).1
      ·by_cases h0:len=0
       ·have:rows=[]:=List.eq_nil_of_length_eq_zero (by omega)
        subst this
        subst h0
        exact .listNil _ _ _ _ (fun h=>by cases h) (fun _ h=>by cases h)
       ·have get:∀ (i:Nat) (r:List AV),rows[i]?=some r→∃ y c,elems[i]?=some y∧TyC σ r∧w.cells? 0 (a.add (i*P.cellsOf e)) (P.cellsOf e)=some c∧xE w y.2 r c:=fun i r hi=>by
         have hil:i<elems.length:=by have:=(List.getElem?_eq_some_iff.1 hi).1; omega
         obtain ⟨g1,c,g2,g3⟩:=hr2 i elems[i] r (by simp[hil]) hi
         exact ⟨elems[i],c,by simp[hil],g1,g2,g3⟩
        obtain ⟨b,o,spot⟩:=a
        have hspot:spot=none:=by
         obtain ⟨y,c,g1,g2,g3,g4⟩:=get 0 rows[0] (List.getElem?_eq_getElem (by omega))
         have g5:=(Y0 g3).2 0 (by omega)
         have g6:=(Y0 g3).1
         rw[List.getElem?_eq_getElem (by omega)] at g5
         simpa [Addr.add] using World.cell?_spot g5
        subst hspot
        have hget:∀ (i:Nat) (r:List AV) (j:Nat) (x:AV),rows[i]?=some r→r[j]?=some x→∃ y v,elems[i]?=some y∧i<len∧j<σ.sz∧w.cell? ⟨b,o+i*σ.sz+j,none⟩=some v∧R0 (PI y.2) w x v∧single v=true:=fun i r j x hi hj=>by
         obtain ⟨y,c,g1,g2,g3,g4⟩:=get i r hi
         obtain ⟨g5,g6⟩:=Y0 g3
         have hjl:j<σ.sz:=by have:=(List.getElem?_eq_some_iff.1 hj).1; have:=ZC g2; omega
         have g7:=g6 j (by omega)
         have hjc:j<c.length:=by omega
         rw[List.getElem?_eq_getElem hjc] at g7
         obtain ⟨k1,k2⟩:=g4.2 j x hj
         have:c.getD j undef=c[j]:=by simp[hjc]
         rw[this] at k1 k2
         refine ⟨y,c[j],g1,?_,hjl,?_,k1,k2⟩
         ·have:=(List.getElem?_eq_some_iff.1 hi).1; omega
         ·rw[← g7,hc.2.1,addr_add,addr_add]
        rw[← hlr]
        refine .list _ _ _ _ _ _ (fun i j=>((w.cell? ⟨b,o+i*σ.sz+j,none⟩).getD undef)) (by omega) (fun h=>by cases h) (fun _ h=>by cases h) (fun i r hi=>?_) (fun i r j x hi hj=>?_) (fun i r j x hi hj=>?_)
        ·obtain ⟨_,_,_,g2,_⟩:=get i r hi
         exact ZC g2
        ·obtain ⟨y,v,g1,gi,gj,g2,g3,g4⟩:=hget i r j x hi hj
         rw[g2]
         refine ⟨?_,rfl,g4⟩
         refine List.mem_append_left _ (MemPlace.mem_row.2 ⟨i*σ.sz+j,?_,?_⟩)
         ·rw[hc.2.1]
          have h1:i+1≤elems.length+rest.length:=by omega
          have h2:=Nat.mul_le_mul_right σ.sz h1
          rw[Nat.succ_mul] at h2
          omega
         ·simp only[MemPlace.cell.injEq,true_and]; omega
        ·obtain ⟨y,v,g1,gi,gj,g2,g3,g4⟩:=hget i r j x hi hj
         rw[g2]
         refine g3.mono (fun b' o' hp=>?_) (fun _ _ _ _ h=>h)
         exact List.mem_append_right _ (List.mem_flatMap.2 ⟨y,List.mem_append_left _ (List.mem_of_getElem? g1),hp⟩)
    ·cases hτ
   ·cases hτ
  ·rename_i k e
   split at hτ
   ·rename_i σ hσ
    split at hτ
    ·rename_i hc
     cases hτ
     obtain ⟨xs,n',hn,hx,hcl,hxl,hel⟩:=DataW.trod_array hu h
     cases hn
     simp only[Prod.mk.injEq] at hx
     obtain ⟨rfl,rfl⟩:=hx
     simp only[m7,DataW.weights,hu] at hw
     have hsz:=Zb hw
     obtain ⟨rows,hr1,hr2⟩:=f8 (l:=xs) (Q:=fun i y r=>TyC σ r∧xE w y.2 r ((cs.drop (i*P.cellsOf e)).take (P.cellsOf e))) 0 (fun i y hy=>by
      have hi:i<k:=by have:=(List.getElem?_eq_some_iff.1 hy).1; omega
      have:=hel i hi
      rw[hy] at this
      rw[Nat.zero_add]
      exact cQ n m e σ _ y.1 y.2 hσ this (hsz y.1 (List.mem_map.2 ⟨y,List.mem_of_getElem? hy,rfl⟩)))
     simp only[Nat.zero_add] at hr2
     refine ⟨rows.flatten,⟨rows,rfl,by omega,fun r hr=>?_⟩,?_⟩
     ·obtain ⟨i,hi⟩:=List.mem_iff_getElem?.1 hr
      have hil:i<xs.length:=by have:=(List.getElem?_eq_some_iff.1 hi).1; omega
      exact (hr2 i xs[i] r (by simp[hil]) hi).1
     ·refine Tr (n:=σ.sz) (by rw[hcl,hc.2,hr1,hxl]) (fun i r hi=>?_)
      have hil:i<xs.length:=by have:=(List.getElem?_eq_some_iff.1 hi).1; omega
      have:=(hr2 i xs[i] r (by simp[hil]) hi).2
      rw[hc.1] at this
      exact this.mono (fun p hp=>List.mem_flatMap.2 ⟨xs[i],List.getElem_mem _,hp⟩)
    ·cases hτ
   ·cases hτ
  ·rename_i fs
   split at hτ
   ·rename_i τs hσ
    split at hτ
    ·rename_i hc
     cases hτ
     obtain ⟨xs,n',hn,hx,hcl,hxl,hel⟩:=DataW.trod_struct hu h
     cases hn
     simp only[Prod.mk.injEq] at hx
     obtain ⟨rfl,rfl⟩:=hx
     simp only[m7,DataW.weights,hu] at hw
     have:=Zl (P:=P) (w:=w) (ps:=xs.flatMap (·.2)) (n:=n) (cs:=cs) hσ (by simpa using hxl) (by rw[hcl,hc]; omega) (fun i g x hg hx=>by
      have hg':fs[i]?=some g:=by simpa using hg
      have h1:=hel i g hg'
      rw[hx] at h1
      refine ⟨fun p hp=>List.mem_flatMap.2 ⟨x,List.mem_of_getElem? hx,hp⟩,fun τ hτ=>?_⟩
      exact cQ n m g.type τ _ x.1 x.2 hτ h1 (cE hw i g.type x.1 (by simp[hg']) (by simp[hx])))
     obtain ⟨ys,h1,h2⟩:=this
     exact ⟨ys,h1,by simpa using h2⟩
    ·cases hτ
   ·cases hτ
  ·cases hτ
end
def QC:Ty→AV→Prop
 | .arr n e,x=>∃ cs,x=.agg cs∧TyC (.arr n e) cs
 | .st fs,x=>∃ cs,x=.agg cs∧TyC (.st fs) cs
 | τ,x=>TyC τ [x]
def X1:List Ty→List AV→Prop
 | [],[]=>True
 | τ::τs,x::xs=>QC τ x∧X1 τs xs
 | _,_=>False
section
variable {H:Type} {enc:TypeId × Value→H} {P:Program} {W:World}
theorem RT {ps:List MemPlace} {xs:List AV} {cs:Array Value} (h:xE W ps xs cs.toList):R0 (PI ps) W (.agg xs) (.agg cs):=by
 obtain ⟨h1,h2⟩:=h
 simp only[Array.length_toList] at h1
 have hg:∀ i,cs.toList.getD i undef=cs.getD i undef:=fun i=>by simp[List.getD,Array.getD_eq_getD_getElem?]
 refine .agg _ _ h1.symm ?_ (fun i x hx=>?_)
 ·rw[Array.all_eq_true]
  intro i hi
  obtain ⟨_,h4⟩:=h2 i xs[i] (by simp[h1,hi])
  rw[hg] at h4
  simpa [hi] using h4
 ·obtain ⟨h3,_⟩:=h2 i x hx
  rw[hg] at h3
  exact h3
theorem GD {m:Nat} {t:TypeId} {τ:Ty} {v:Value} {d:DataW H} {ps:List MemPlace} {r:Reach} {base:Nat} (hτ:gy P m t=some τ) (hok:Value.okWide P W r base t v)
  (h:DataW.Trod enc P W 0 (fun _=>true) true t v d ps) (hw:m7 P t d):∃ x,QC τ x∧R0 (PI ps) W x v:=by
 obtain ⟨n,hn⟩:=h
 obtain ⟨xs,h1,h2⟩:=cQ n m t τ _ d ps hτ hn hw
 have one:v.cells=#[v]→(∃ x,xs=[x])→∃ x,TyC τ [x]∧R0 (PI ps) W x v:=by
  rintro hv ⟨x,rfl⟩
  obtain ⟨h3,_⟩:=h2.2 0 x rfl
  rw[hv] at h3
  exact ⟨x,h1,h3⟩
 cases m with
 | zero=>cases hτ
 | succ m =>
  simp only[gy] at hτ
  split at hτ<;>rename_i hu
  ·cases hτ
   obtain ⟨b,rfl⟩:=h1
   refine one ?_ ⟨_,rfl⟩
   simp only[Value.okWide,hu,Cell.okWide,Cell.ok] at hok
   cases v<;>first | rfl | exact hok.elim
  ·cases hτ
   obtain ⟨b,rfl,hb⟩:=h1
   have:=one ?_ ⟨_,rfl⟩
   ·exact this
   simp only[Value.okWide,hu,Cell.okWide,Cell.ok] at hok
   cases v<;>first | rfl | exact hok.elim
  ·cases hτ
   obtain ⟨b,rfl,hb⟩:=h1
   have:=one ?_ ⟨_,rfl⟩
   ·exact this
   simp only[Value.okWide,hu,Cell.okWide,Cell.ok] at hok
   cases v<;>first | rfl | exact hok.elim
  ·split at hτ
   ·split at hτ
    ·cases hτ
     obtain ⟨rows,rfl,hb⟩:=h1
     have:=one ?_ ⟨_,rfl⟩
     ·exact this
     simp only[Value.okWide,hu,Cell.okWide,Cell.ok] at hok
     cases v<;>first | rfl | exact hok.elim
    ·cases hτ
   ·cases hτ
  ·split at hτ
   ·split at hτ
    ·cases hτ
     simp only[Value.okWide,hu] at hok
     obtain ⟨cs,rfl,_⟩:=hok
     exact ⟨.agg xs,⟨xs,rfl,h1⟩,RT h2⟩
    ·cases hτ
   ·cases hτ
  ·split at hτ
   ·split at hτ
    ·cases hτ
     simp only[Value.okWide,hu] at hok
     obtain ⟨cs,rfl,_⟩:=hok
     exact ⟨.agg xs,⟨xs,rfl,h1⟩,RT h2⟩
    ·cases hτ
   ·cases hτ
  ·cases hτ
theorem X4 {m:Nat} {r:Reach} {base:Nat}:∀ {ts:List TypeId} {τs:List Ty} {vs:List Value} {ds:List (DataW H)} {ps:List MemPlace},yx (gy P m) ts=some τs →
  (∀ (j:Nat) t v,ts[j]?=some t→vs[j]?=some v→Value.okWide P W r base t v)→DataW.TrodAll enc P W 0 (fun _=>true) true ts vs ds ps →
  (∀ (j:Nat) t d,ts[j]?=some t→ds[j]?=some d→m7 P t d) →
  ∃ xs,X1 τs xs∧xs.length=vs.length∧ds.length=ts.length∧∀ (i:Nat) x,xs[i]?=some x→R0 (PI ps) W x (vs.getD i undef)
 | [],τs,vs,ds,ps,h,_,hA,_=>by
  simp only[yx,Option.some.injEq] at h
  subst h
  match vs,ds,hA with
  | [],[],_=>exact ⟨[],trivial,rfl,rfl,fun i x hx=>by simp at hx⟩
 | t::ts,τs,vs,ds,ps,h,hv,hA,hs=>by
  simp only[yx] at h
  split at h
  ·rename_i τ hτ
   cases hr:yx (gy P m) ts with
   | none=>simp[hr] at h
   | some σs =>
    simp only[hr,Option.map_some,Option.some.injEq] at h
    subst h
    match vs,ds,hA with
    | v::vs,d::ds,⟨p,q,h1,h2,e⟩ =>
     obtain ⟨x,a1,a2⟩:=GD hτ (hv 0 t v rfl rfl) h1 (hs 0 t d rfl rfl)
     obtain ⟨xs,b1,b2,b3,b4⟩:=X4 hr (fun j t' v' ht hv'=>hv (j+1) t' v' (by simpa using ht) (by simpa using hv')) h2 (fun j t' d' ht hd=>hs (j+1) t' d' (by simpa using ht) (by simpa using hd))
     subst e
     refine ⟨x::xs,⟨a1,b1⟩,by simp[b2],by simp[b3],fun i y hy=>?_⟩
     cases i with
     | zero =>
      simp at hy
      subst hy
      simp only[List.getD_cons_zero]
      exact a2.mono (fun _ _ hp=>List.mem_append_left _ hp) (fun _ _ _ _ h=>h)
     | succ i =>
      simp at hy
      simp only[List.getD_cons_succ]
      exact (b4 i y hy).mono (fun _ _ hp=>List.mem_append_right _ hp) (fun _ _ _ _ h=>h)
  ·cases h
theorem bB {W':World} (hl:laidOutB P=true) (hb:Below W.heap.size W W'):∀ {ts:List TypeId} {vs:List Value} {ds:List (DataW H)} {ps:List MemPlace},
  (∀ t∈ts,P.readableRec t=true∧t<P.types.size)→DataW.TrodAll enc P W 0 (fun _=>true) true ts vs ds ps→(∀ x∈ps,x.block<W.heap.size) →
  DataW.TrodAll enc P W' 0 (fun b=>decide (b<W.heap.size)) true ts vs ds ps
 | [],[],[],_,_,h,_=>h
 | t::ts,v::vs,d::ds,_,ht,⟨p,q,h1,h2,e⟩,hlt=>by
  subst e
  exact ⟨p,q,Below.trod hl (ht t (by simp)).1 (ht t (by simp)).2 h1 hb (fun x hx=>hlt x (List.mem_append_left _ hx)),
   bB hl hb (fun t h=>ht t (by simp[h])) h2 (fun x hx=>hlt x (List.mem_append_right _ hx)),rfl⟩
theorem FI {f:FuncId} {fn:Func} {s:ChangeSpec} {tb:TypeId} {τs:List Ty} (hl:laidOutB P=true) (hty:yx (gy P 20) fn.params.toList=some τs)
  (hread:(fn.params.toList.all fun t=>P.readableRec t&&decide (t<P.types.size))=true) (hres:fn.resultTypes=#[tb]) (hub:P.underlying tb=some .bool) (hvars:s.vars=[])
  (hfn:∀ ds:List (DataW H),ds.length=fn.params.toList.length→(s.fn H (ds++[])).results=[.lit (.bool true)]∧(s.fn H (ds++[])).args=ds∧(s.fn H (ds++[])).vars=[])
  (hcall:∀ xs,X1 τs xs→zd P f xs (bv true)) {base:Nat} {args:Array Value} {ds gs:List (DataW H)} {before:List MemPlace}
  (hval:∀ (j:Nat) t v,fn.params[j]?=some t→args[j]?=some v→Value.okWide P W .any base t v)
  (hW:DataW.Whole enc P fn.params.toList s.vars false W args.toList ds gs before)
  (hsz:(DataW.weightsEach P (fn.params.toList++s.plain.varTypes P) (ds++gs)).all (·≤reachBytes)=true) :
  Calls P f args W fun e W'=>∃ v,e=.returned v∧s.post enc P fn false true false false W args v W':=by
 have hW':=hW
 obtain ⟨p,q,hA,hV,rfl,_,_⟩:=hW
 rw[hvars] at hV
 obtain ⟨rfl,rfl⟩:=trodVars_none hV
 have hsz':∀ (j:Nat) t d,fn.params.toList[j]?=some t→ds[j]?=some d→m7 P t d:=fun j t d ht hd=>by
  refine cE hsz j t d ?_ ?_
  ·rw[List.getElem?_append_left (List.getElem?_eq_some_iff.1 ht).1]; exact ht
  ·rw[List.getElem?_append_left (List.getElem?_eq_some_iff.1 hd).1]; exact hd
 obtain ⟨xs,h1,h2,h3,h4⟩:=X4 (r:=.any) (base:=base) hty (fun j t v ht hv=>hval j t v (by simpa using ht) (by simpa using hv)) hA hsz'
 have hlt:∀ x∈p,x.block<W.heap.size:=fun x hx=>by simpa using hW'.lt x (List.mem_append_left _ hx)
 refine (hcall xs h1 (PI p) args W (fun b o hb=>hlt _ hb) (by simp[h2]) (fun i x hx=>?_)).mono fun e W' ⟨v,he,hb,hR⟩=>?_
 ·have:=h4 i x hx
  have e:args.toList.getD i undef=args.getD i undef:=by simp[List.getD,Array.getD_eq_getD_getElem?]
  rwa [e] at this
 ·have hv:v=.bool true:=R0.val_eq hR
  subst hv
  obtain ⟨f1,f2,f3⟩:=hfn ds h3
  have hread':∀ t∈fn.params.toList,P.readableRec t=true∧t<P.types.size:=fun t ht=>by
   have:=List.all_eq_true.1 hread t ht
   simpa using this
  refine ⟨_,he,ds,[],p++[],[]++[],p,[],hW',?_,?_,?_,hb.frame _,fun h=>by cases h⟩
  ·rw[f1,hres]
   exact trodAll_mk1 (shut_bool hub _)
  ·rw[f2]; exact bB hl hb hread' hA hlt
  ·rw[f3,hvars]; rfl
end
theorem cA {α:Type} {τ:Ty} (f:α→List AV) (Q:α→Prop) (one:∀ r,TyC τ r→∃ x,r=f x∧Q x):∀ {rows:List (List AV)},(∀ r∈rows,TyC τ r)→∃ a:List α,rows=a.map f∧∀ x∈a,Q x
 | [],_=>⟨[],rfl,by simp⟩
 | r::rows,h=>by
  obtain ⟨a,rfl,h2⟩:=cA f Q one (rows:=rows) (fun r hr=>h r (by simp[hr]))
  obtain ⟨x,rfl,h3⟩:=one r (h r (by simp))
  exact ⟨x::a,rfl,by simpa using ⟨h3,h2⟩⟩
theorem Gy {a b:Ty} {xs:List AV} (h:X1 [a,b] xs):∃ x y,xs=[x,y]∧QC a x∧QC b y:=by
 match xs,h with
 | [x,y],h=>exact ⟨x,y,rfl,h.1,h.2.1⟩
theorem AV.imp_nil {sz sz':Nat} {m':Mode} (hm:m'=.plain):AV.imp (.list sz .full []) (.list sz' m' []):=fun I w v h=>by
 subst hm
 cases h with
 | listNil _ _ a cap hm ho=>exact .listNil _ _ _ _ (by simp) (by simp)
 | list _ _ _ b o cap g h1 h2 h3 h4 h5 h6 =>
  exact .listNil _ _ _ _ (by simp) (by simp)
theorem AV.imp_tuple2 {x x' y:AV} (h:AV.imp x x'):AV.imp (.tuple [x,y]) (.tuple [x',y]):=fun I w v hv=>by
 cases hv with
 | tuple cells vs hs hc =>
  refine .tuple _ _ (by simpa using hs) fun i c hi=>?_
  match i,hi with
  | 0,hi=>simp at hi; subst hi; exact h _ _ _ (hc 0 x rfl)
  | 1,hi=>simp at hi; subst hi; exact hc 1 y rfl
  | i+2,hi=>simp at hi
attribute [simp] LD
@[simp] theorem afx {σ:Nat→Option ze} {s:St}:l8 σ [] s=true:=rfl
@[simp] theorem adf {sz by_ d n sz':Nat} {m:Mode} {rows:List (List AV)} {s:St} {K:St→Prop} :
  xc sz by_ s (some d) K [.list n .full [],.list sz' m rows]=((rows=[]∨sz'=sz)∧0<sz∧rows.length*by_≤140737488355328∧rows.length≤9223372036854775807∧lk s.sto (s.base+d)=none ∧
   K (((s.dg (s.base+d)).put (some d) (.us (s.base+d) sz 0 rows.length)).new (some d) (some (.uarr sz (zX (s.base+d) rows))))):=by
 simp[xc,xb,yT]
@[simp] theorem acQ {sz by_ d l sz1 off len sz':Nat} {m:Mode} {rows1 rows:List (List AV)} {s:St} {K:St→Prop} (h:lk s.sto l=some (.uarr sz rows1)) :
  xc sz by_ s (some d) K [.us l sz1 off len,.list sz' m rows]=((rows=[]∨sz'=sz)∧0<sz∧(len+rows.length)*by_≤140737488355328∧len+rows.length≤9223372036854775807∧sz1=sz∧off=0∧len=rows1.length ∧
   K ({(s.dg l) with sto:=pt (s.dg l).sto l (.uarr sz (zX l (rows1++rows)))}.put (some d) (.us l sz 0 (len+rows.length)))):=by
 simp[xc,xb,yT,h]
@[simp] theorem agx {s:St} {d:Nat} {e:ze}:s.new (some d) (some e)=⟨s.env,pt s.sto (s.base+d) e,s.out,s.base⟩:=rfl
attribute [simp] mU tup
def Xy (ras:List zB) (b:Nat) (K:AV→St→Prop):Exit→St→Prop:=fun e s'=>(e=.normal∨e=.ret)∧∃ xs e0 o0,yx (mU s') ras=some xs∧s'.out=e0::o0∧K (tup xs) {env:=e0,sto:=s'.sto,out:=o0,base:=b}
@[simp] theorem agE {ras:List zB} {b:Nat} {K:AV→St→Prop} {env e0:List (Nat × AV)} {sto:List (Nat × ze)} {o0:List (List (Nat × AV))} {B:Nat} :
  Xy ras b K .ret ⟨env,sto,e0::o0,B⟩=∃ xs,yx (mU ⟨env,sto,e0::o0,B⟩) ras=some xs∧K (tup xs) ⟨e0,sto,o0,b⟩:=by
 simp only[Xy,eq_iff_iff]
 constructor
 ·rintro ⟨_,xs,e1,o1,h1,h2,h3⟩
  cases h2
  exact ⟨xs,h1,h3⟩
 ·rintro ⟨xs,h1,h2⟩
  exact ⟨.inr trivial,xs,_,_,h1,rfl,h2⟩
@[simp] theorem aes {ras:List zB} {b:Nat} {K:AV→St→Prop} {env e0:List (Nat × AV)} {sto:List (Nat × ze)} {o0:List (List (Nat × AV))} {B:Nat} :
  Xy ras b K .normal ⟨env,sto,e0::o0,B⟩=∃ xs,yx (mU ⟨env,sto,e0::o0,B⟩) ras=some xs∧K (tup xs) ⟨e0,sto,o0,b⟩:=by
 simp only[Xy,eq_iff_iff]
 constructor
 ·rintro ⟨_,xs,e1,o1,h1,h2,h3⟩
  cases h2
  exact ⟨xs,h1,h3⟩
 ·rintro ⟨xs,h1,h2⟩
  exact ⟨.inl trivial,xs,_,_,h1,rfl,h2⟩
theorem vA {P:Program} {f:FuncId} {ac:zc} {ras:List zB} {N:Nat} {args:List AV} {s:St} {K:AV→St→Prop} (B:Nat) (ht:zq P f=some (bare ac,ras,N)) (hn:args.length≤N)
  (h:awp P ac ⟨t9 0 args,s.sto,s.env::s.out,B⟩ (Xy ras s.base K)):yc P f args s K:=ad9 B ht hn h
@[simp] theorem adg {sz by_ d sz1 sz':Nat} {m:Mode} {rows1 rows:List (List AV)} {s:St} {K:St→Prop} :
  wc sz by_ s (some d) K [.list sz1 .full rows1,.list sz' m rows]=((rows=[]∨sz'=sz)∧0<sz∧(rows1.length+rows.length)*by_≤140737488355328∧rows1.length+rows.length≤9223372036854775807 ∧
   (rows1=[]∨sz1=sz)∧lk s.sto (s.base+d)=none∧K ((s.dg (s.base+d)).put (some d) (.list sz (.own (s.base+d)) (rows1++rows)))):=by
 simp[wc,yT]
@[simp] theorem aeo {sz by_ d l sz1 sz':Nat} {m:Mode} {rows1 rows:List (List AV)} {s:St} {K:St→Prop} :
  wc sz by_ s (some d) K [.list sz1 (.own l) rows1,.list sz' m rows]=((rows=[]∨sz'=sz)∧0<sz∧(rows1.length+rows.length)*by_≤140737488355328∧rows1.length+rows.length≤9223372036854775807 ∧
   sz1=sz∧lk s.sto l=none∧K ((s.dg l).put (some d) (.list sz (.own l) (rows1++rows)))):=by
 simp[wc,yT]
@[simp] theorem ahp {l k sz:Nat} {rows:List (List AV)}:dg l (.list sz (.own k) rows)=if k=l then .list sz .plain rows else .list sz (.own k) rows:=rfl
@[simp] theorem aic {l:Nat}:dg l∘iv=iv:=rfl
section
variable {P:Program} {t:TypeId} {ox oy:Operand} {k k':IntKind} {a b:Int} {K:AV→Option ze→Prop}
theorem vD (h:b≠0):z9 P .quo t ox oy [.val (.int k a),.val (.int k b)] K=K (.val (.int k (k.wrap (a.tdiv b)))) none:=by
 simp[z9,toV,zr,eqGuard,binOp,Op.intDiv,h,yL,ofV,yW,bind,Sem.bind,pure]
theorem rL (h:b≠0):z9 P .rem t ox oy [.val (.int k a),.val (.int k b)] K=K (.val (.int k (a.tmod b))) none:=by
 simp[z9,toV,zr,eqGuard,binOp,Op.intDiv,h,yL,ofV,yW,bind,Sem.bind,pure]
def rt (op:BinOp) (k:IntKind) (a b:Int):Int :=
 match op with
 | .and=>k.wrap (BitVec.ofInt k.bits a &&& BitVec.ofInt k.bits b).toNat
 | .or=>k.wrap (BitVec.ofInt k.bits a ||| BitVec.ofInt k.bits b).toNat
 | .xor=>k.wrap (BitVec.ofInt k.bits a ^^^ BitVec.ofInt k.bits b).toNat
 | _=>k.wrap (BitVec.ofInt k.bits a &&& ~~~BitVec.ofInt k.bits b).toNat
theorem CE:z9 P .and t ox oy [.val (.int k a),.val (.int k b)] K=K (.val (.int k (rt .and k a b))) none:=by
 simp[z9,toV,zr,eqGuard,binOp,Op.intBits,rt,yL,ofV,yW,bind,Sem.bind,pure]
theorem aaV:z9 P .or t ox oy [.val (.int k a),.val (.int k b)] K=K (.val (.int k (rt .or k a b))) none:=by
 simp[z9,toV,zr,eqGuard,binOp,Op.intBits,rt,yL,ofV,yW,bind,Sem.bind,pure]
theorem CO:z9 P .xor t ox oy [.val (.int k a),.val (.int k b)] K=K (.val (.int k (rt .xor k a b))) none:=by
 simp[z9,toV,zr,eqGuard,binOp,Op.intBits,rt,yL,ofV,yW,bind,Sem.bind,pure]
theorem Ms:z9 P .andNot t ox oy [.val (.int k a),.val (.int k b)] K=K (.val (.int k (rt .andNot k a b))) none:=by
 simp[z9,toV,zr,eqGuard,binOp,Op.intBits,rt,yL,ofV,yW,bind,Sem.bind,pure]
theorem vE (h:¬ b<0):z9 P .shl t ox oy [.val (.int k a),.val (.int k' b)] K=K (.val (.int k (k.wrap (a*2^(min b.toNat k.bits))))) none:=by
 simp[z9,toV,zr,eqGuard,binOp,Op.shift,h,yL,ofV,yW,bind,Sem.bind,pure]
theorem wu (h:¬ b<0):z9 P .shr t ox oy [.val (.int k a),.val (.int k' b)] K=K (.val (.int k (a.fdiv (2^(min b.toNat k.bits))))) none:=by
 simp[z9,toV,zr,eqGuard,binOp,Op.shift,h,yL,ofV,yW,bind,Sem.bind,pure]
theorem LZ {x y:ByteArray}:(x.toList == y.toList)=decide (x=y):=by
 have:x.toList=y.toList↔x=y:=by
  constructor
  ·intro h
   have h1:x.data.toList=y.data.toList:=by simpa [ByteArray.toList_eq] using h
   cases x; cases y
   congr 1
   exact Array.ext' h1
  ·rintro rfl; rfl
 by_cases h:x=y
 ·subst h; simp
 ·have:¬ x.toList=y.toList:=fun e=>h (this.1 e)
  simp[h,this]
theorem Fa {x y:ByteArray}:z9 P .eql t ox oy [.val (.string x),.val (.string y)] K=K (bv (decide (x=y))) none:=by
 simp only[z9,toV,eqGuard,binOp,Op.stringOp,yL,ofV,yW,bind,pure,LZ]
 rfl
theorem Fb {x y:ByteArray}:z9 P .neq t ox oy [.val (.string x),.val (.string y)] K=K (bv (!decide (x=y))) none:=by
 simp only[z9,toV,eqGuard,binOp,Op.stringOp,yL,ofV,yW,bind,pure,LZ]
 rfl
end
section
variable {P:Program} {s:St} {KS:St→Prop} {os:List zi} {d:Nat} {k k':IntKind}
theorem G0 {ta tb:TypeId} {u:TypeDesc} {n:Int} (ha:P.underlying ta=some u) (hb:P.underlying tb=some (.int k')):ZH P ta tb (.val (.int k n))=some (.val (.int k' (k'.wrap n))):=by
 simp only[ZH,convert,zM,yn,ha,hb,Option.bind_some]
 rfl
theorem acJ {n:Int}:unA P .neg (.val (.int k n))=some (.val (.int k (k.wrap (0-n)))):=rfl
theorem acK {n:Int}:unA P .xor (.val (.int k n))=some (.val (.int k (rt .xor k (if k.signed then -1 else k.max) n))):=rfl
def QT (x:ByteArray) (k:Nat):Nat:=(x.data[k]?.getD 0).toNat
def idxA (P:Program) (t:TypeId) (x:AV) (y:AV):Option AV :=
 match toV x,y with
 | some a,.val i=>(zr P (Instr.index t a i)).map ofV
 | _,_=>none
theorem Bs {t:TypeId} {x y:Opd}:zj P (⟨some d,.idxV t,[x,y],none⟩::os) s KS=pQ (idxA P t (ev s x) (ev s y)) P os s d KS:=by
 show zJ P (s.base+d) (.idxV t) [ev s x,ev s y] (lk s.sto) (xm P os s (some d) KS)=_
 cases hy:ev s y<;>cases hx:toV (ev s x)<;>simp only[zJ,idxA,hx,pQ]
 rename_i v a
 cases zr P (Instr.index t a v)<;>rfl
theorem CY {t:TypeId} (ht:P.underlying t=some .string) {xs:ByteArray} {ik:IntKind} {i:Int} (h0:0≤i) (h1:i<xs.size):idxA P t (.val (.string xs)) (.val (.int ik i))=some (.val (.int .u8 (QT xs i.toNat))):=by
 have h2:i.toNat<xs.size:=by omega
 simp only[idxA,toV,Instr.index,asIntOf,zM,yn,ht,zQ,Option.bind_some,if_pos h0]
 rw[getElem?_pos xs i.toNat h2]
 have:QT xs i.toNat=(xs[i.toNat]'h2).toNat:=by
  unfold QT
  rw[Array.getElem?_eq_getElem (show i.toNat<xs.data.size from h2)]
  rfl
 rw[this]
 rfl
def T1 (lo hi mx:Bool) (x:AV) (ys:List AV) (k:AV→Option ze→Prop):Prop :=
 match x with
 | .val (.string s)=>wK s.size lo hi mx ys fun l h _=>mx=false∧k (.val (.string (s.extract l h))) none
 | _=>False
theorem JE {t:TypeId} {lo hi mx:Bool} {x:Opd} {xs:List Opd}:zj P (⟨some d,.sliceV t lo hi mx,x::xs,none⟩::os) s KS=T1 lo hi mx (ev s x) (xs.map (ev s)) (xm P os s (some d) KS):=by
 show zJ P (s.base+d) (.sliceV t lo hi mx) (ev s x::xs.map (ev s)) (lk s.sto) (xm P os s (some d) KS)=_
 simp only[zJ,T1]
 cases ev s x<;>try rfl
 rename_i v
 cases v<;>rfl
theorem Mt {lo hi mx:Bool} {x:ByteArray} {ys:List AV} {k:AV→Option ze→Prop}:T1 lo hi mx (.val (.string x)) ys k=wK x.size lo hi mx ys fun l h _=>mx=false∧k (.val (.string (x.extract l h))) none:=rfl
theorem Ec {xs:List Opd} {x:Opd} {d:Option Nat} {n:String}:zj P (⟨d,.callm n,x::xs,none⟩::os) s KS=(match ev s x with | .iface t r=>(match ZT P t n with | some f=>yZ P f=true∧xX P f (lk s.sto) (r::xs.map (ev s)) (xm P os s d KS) | none=>False) | _=>False):=by
 show zJ P (s.base+d.getD 0) (.callm n) (ev s x::xs.map (ev s)) (lk s.sto) (xm P os s d KS)=_
 simp only[zJ]
 cases ev s x<;>try rfl
theorem Ed {xs:List Opd} {x:Opd} {d:Option Nat}:zj P (⟨d,.callv,x::xs,none⟩::os) s KS=(match ev s x with | .fn (.func f) caps=>yZ P f=true∧xX P f (lk s.sto) (xs.map (ev s)++caps) (xm P os s d KS) | .fn (.via _ _ f _) rs=>yZ P f=true∧xX P f (lk s.sto) (rs++xs.map (ev s)) (xm P os s d KS) | _=>False):=by
 show zJ P (s.base+d.getD 0) .callv (ev s x::xs.map (ev s)) (lk s.sto) (xm P os s d KS)=_
 simp only[zJ]
 cases ev s x<;>try rfl
 rename_i f caps
 cases f<;>rfl
theorem ac3 {n:Nat} {k:Nat→Nat→Bool→Prop}:wK n false false false [] k=k 0 n false:=rfl
theorem ac2 {n:Nat} {ik:IntKind} {l:Int} {k:Nat→Nat→Bool→Prop}:wK n true false false [.val (.int ik l)] k=(0≤l∧l≤n∧k l.toNat n false):=rfl
theorem ac1 {n:Nat} {ik:IntKind} {h:Int} {k:Nat→Nat→Bool→Prop}:wK n false true false [.val (.int ik h)] k=(0≤h∧h≤n∧k 0 h.toNat false):=rfl
theorem aax {n:Nat} {ik jk:IntKind} {l h:Int} {k:Nat→Nat→Bool→Prop}:wK n true true false [.val (.int ik l),.val (.int jk h)] k=(0≤l∧l≤h∧h≤n∧k l.toNat h.toNat false):=rfl
theorem aaw {n:Nat} {ik jk:IntKind} {h m:Int} {k:Nat→Nat→Bool→Prop}:wK n false true true [.val (.int ik h),.val (.int jk m)] k=(0≤h∧h=m∧m≤n∧k 0 h.toNat true):=rfl
theorem Cb {n:Nat} {ik jk kk:IntKind} {l h m:Int} {k:Nat→Nat→Bool→Prop}:wK n true true true [.val (.int ik l),.val (.int jk h),.val (.int kk m)] k=(0≤l∧l≤h∧h=m∧m≤n∧k l.toNat h.toNat true):=rfl
theorem Mu {sz sz':Nat} {lo hi mx:Bool} {m:Mode} {rows:List (List AV)} {xs:List AV} {k:AV→Option ze→Prop} :
  qZ sz lo hi mx (.list sz' m rows::xs) k=((rows=[]∨sz'=sz)∧wK rows.length lo hi mx xs fun l h f=>k (.list sz' (if f=true then .full else .plain) ((rows.take h).drop l)) none):=rfl
theorem Fe {j sz sz' off len:Nat} {lo hi mx:Bool} {xs:List AV} {k:AV→Option ze→Prop} :
  qZ sz lo hi mx (.sl j sz' off len::xs) k=(sz'=sz∧wK len lo hi mx xs fun l h _=>k (.sl j sz (off+l) (h-l)) none):=rfl
theorem Ff {j sz sz' off len:Nat} {lo hi mx:Bool} {xs:List AV} {k:AV→Option ze→Prop} :
  qZ sz lo hi mx (.us j sz' off len::xs) k=(sz'=sz∧wK len lo hi mx xs fun l h _=>k (.us j sz (off+l) (h-l)) none):=rfl
end
theorem Jt {α:Type} {l:List (Nat × α)} {n:Nat} {x:α}:lk (pt l n x) n=some x:=by rw[xO,if_pos rfl]
theorem JF {α:Type} {l:List (Nat × α)} {n:Nat} {x y:α}:pt (pt l n x) n y=pt l n y:=by
 induction l with
 | nil=>simp[pt]
 | cons p l ih =>
  obtain ⟨q,z⟩:=p
  by_cases h:q=n
  ·subst h; simp[pt]
  ·simp[pt,h,ih]
section
variable {k:Nat} {e:ze}
theorem Fz:frz k e .undef=.undef:=rfl
theorem aa1 {v:Value}:frz k e (.val v)=.val v:=rfl
theorem aa0 {c:List AV}:frz k e (.agg c)=.agg c:=rfl
theorem ads {c:List AV}:frz k e (.ro c)=.ro c:=rfl
theorem Fx {t:TypeId} {x:AV}:frz k e (.iface t x)=.iface t x:=rfl
theorem adr {f:Fn} {c:List AV}:frz k e (.fn f c)=.fn f c:=rfl
theorem Fy {c:List AV}:frz k e (.tuple c)=.tuple c:=rfl
theorem Y7 {sz:Nat} {m:Mode} {r:List (List AV)} (h:stm m=m):frz k e (.list sz m r)=.list sz m r:=by
 cases m with
 | plain=>rfl
 | full=>rfl
 | own l=>cases h
theorem tI {sz:Nat} {r:List (List AV)}:frz k e (.list sz .plain r)=.list sz .plain r:=rfl
theorem CV {sz:Nat} {r:List (List AV)}:frz k e (.list sz .full r)=.list sz .full r:=rfl
theorem jj {j off:Nat}:frz k e (.ptr j off)=if j=k then (match e with
   | .var cells=>if (cells.drop off).all rf=true then .ro ((cells.drop off).map strip) else .undef
   | _=>.undef) else .ptr j off:=rfl
theorem CU {j sz i off:Nat}:frz k e (.eptr j sz i off)=if j=k then .undef else .eptr j sz i off:=rfl
theorem adu {j sz i off:Nat}:frz k e (.up j sz i off)=if j=k then .undef else .up j sz i off:=rfl
theorem adt {j sz off len:Nat}:frz k e (.sl j sz off len)=if j=k then (match e with
   | .arr sz' rows=>if sz'=sz∧off+len≤rows.length then .list sz .plain ((rows.drop off).take len) else .undef
   | _=>.undef) else .sl j sz off len:=rfl
theorem lS {j sz off len:Nat}:frz k e (.us j sz off len)=if j=k then (match e with
   | .uarr sz' rows=>if sz'=sz∧off+len≤rows.length∧xk ((rows.drop off).take len)=true then .list sz .plain (zP ((rows.drop off).take len)) else .undef
   | _=>.undef) else .us j sz off len:=rfl
theorem Pt {x:Nat} {ks:List Nat} {s:St} {K:St→Prop}:sL (x::ks) s K=y8 (s.base+x) s (fun s'=>sL ks s' K):=rfl
end
attribute [simp] Jt JF
attribute [simp] Fz aa1 aa0 ads Fx adr Fy tI CV jj CU adu adt lS Pt
attribute [simp high] YJ Ky cS RR
attribute [simp] CE aaV CO Ms Fa Fb G0 acJ acK Bs CY JE Mt Ed Ec ac3 ac2 ac1 aax aaw Cb Mu Fe Ff
section
variable {P:Program} {t:Nat} {ox oy:Operand} {a b:List AV} {K:AV→Option ze→Prop}
theorem jZ {ks:List Kd} {xs ys:List Value} (hk:kds P Op.maxDepth t=some ks) (hg:P.eqGuardType P.depth t=false) (hA:agT P t=true)
  (ha:sm a=some xs) (hb:sm b=some ys) (fx:ui ks xs=true) (fy:ui ks ys=true):z9 P .eql t ox oy [.agg a,.agg b] K=K (bv (eqL xs ys)) none:=by
 have e:=rV Op.maxDepth t _ xs ys hk fx fy
 simp only[valOf,hA,if_true] at e
 have e2:zr P (Op.equal t (.agg xs.toArray) (.agg ys.toArray))=some (eqL xs ys):=e
 have e1:binOp .eql t (.agg xs.toArray) (.agg ys.toArray)=(do pure (.bool (← Op.equal t (.agg xs.toArray) (.agg ys.toArray)))):=rfl
 simp only[z9,toV,ha,hb,Option.map_some,zM,Ux hg,e1,e2,Option.bind_some,zQ,yL,ofV,yW]
end
end Go.Am
