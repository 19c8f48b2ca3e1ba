/- What the proof rests on, part 11: X11 X12 X13 Y0 BD GQ QT BAr BB BC BH BI BK BQ. -/
import Derived.Test.YtfmcplfbnkoglaaGreatP10
set_option maxRecDepth 100000
set_option maxHeartbeats 4000000
namespace Go.Proofs.YtfmcplfbnkoglaaGreat
open Go Go.Am Go.Dig Go.LP
theorem Kf {n m i:Nat} {d:zn} (hi:i<m):∀ k,(∀ a b,a<k→b<k→d.fre a=d.fre b→a=b)→xJ n m d k i=- zg k fun j=>if d.fre j=n+i then d.cst j else 0
 | 0,_=>by simp only[xJ,zg]; grind
 | k+1,hinj=>by
  have ih:=Kf hi (d:=d) (n:=n) k fun a b ha hb=>hinj a b (by omega) (by omega)
  simp only[xJ,zg]
  by_cases e:d.fre k=n+i
  ·rw[if_pos ⟨by omega,by omega⟩,if_pos e,zO fun j hj=>if_neg fun e2=>by have:=hinj j k (by omega) (by omega) (by rw[e,e2]); omega]
   have:d.fre k-n=i:=by omega
   rw[this]
   simp only[upd,if_true]
   grind
  ·rw[if_neg e]
   split
   ·rename_i hc
    have:¬ i=d.fre k-n:=by omega
    simp only[upd,if_neg this]
    rw[ih]; grind
   ·rw[ih]; grind
theorem Ew {n m i N:Nat} {d:zn} (hb:Bij d N) (hi:i<m):xJ n m d d.c i=- cv d (n+i):=Kf hi d.c fun _ _ ha hb'=>mF hb ha hb'
theorem Ke {n j:Nat} {d:zn} (hj:j<n):∀ k,(∀ a b,a<k→b<k→d.bas a=d.bas b→a=b)→pS n d k j=zg k fun i=>if d.bas i=j then d.b i else 0
 | 0,_=>rfl
 | k+1,hinj=>by
  have ih:=Ke hj (d:=d) k fun a b ha hb=>hinj a b (by omega) (by omega)
  simp only[pS,zg]
  by_cases e:d.bas k=j
  ·rw[if_pos (by omega),if_pos e,zO fun i hi=>if_neg fun e2=>by have:=hinj i k (by omega) (by omega) (by rw[e,e2]); omega]
   rw[e]
   simp only[upd,if_true]
   grind
  ·rw[if_neg e]
   split
   ·have:¬ j=d.bas k:=fun h=>e h.symm
    simp only[upd,if_neg this]
    rw[ih]; grind
   ·rw[ih]; grind
theorem adU {n j N:Nat} {d:zn} (hb:Bij d N) (hj:j<n):pS n d d.r j=vl d j:=Ke hj d.r fun _ _ ha hb'=>jf hb ha hb'
theorem Kw {n j q:Nat} {d:zn} (hj:j<n):∀ k,(∀ a b,a<k→b<k→d.bas a=d.bas b→a=b)→(∀ a,a<k→d.bas a≠d.fre q)→tD n d q k j=(zg k fun i=>if d.bas i=j then-d.a i q else 0)+if d.fre q=j then 1 else 0
 | 0,_,_=>by
  simp only[tD,zg]
  by_cases e:d.fre q=j
  ·rw[if_pos (by omega),if_pos e,e]
   simp only[upd,if_true]; grind
  ·rw[if_neg e]
   split
   ·have:¬ j=d.fre q:=fun h=>e h.symm
    simp only[upd,if_neg this]; grind
   ·grind
 | k+1,hinj,hne=>by
  have ih:=Kw hj (d:=d) (q:=q) k (fun a b ha hb=>hinj a b (by omega) (by omega)) fun a ha=>hne a (by omega)
  simp only[tD,zg]
  by_cases e:d.bas k=j
  ·rw[if_pos (by omega),if_pos e,zO fun i hi=>if_neg fun e2=>by have:=hinj i k (by omega) (by omega) (by rw[e,e2]); omega]
   have h2:¬ d.fre q=j:=fun h=>hne k (by omega) (by rw[e,h])
   rw[if_neg h2,e]
   simp only[upd,if_true]
   grind
  ·rw[if_neg e]
   split
   ·have:¬ j=d.bas k:=fun h=>e h.symm
    simp only[upd,if_neg this]
    rw[ih]; grind
   ·rw[ih]; grind
theorem afb {n j q N:Nat} {d:zn} (hb:Bij d N) (hq:q<d.c) (hj:j<n):tD n d q d.r j=eo d q j :=
 Kw hj d.r (fun _ _ ha hb'=>jf hb ha hb') fun _a ha e=>uG hb ha hq e.symm
def yP (bb:Nat→Rat):Nat→Int
 | 0=>-1
 | k+1=>if bb k<0∧(yP bb k<0∨bb k<bb (yP bb k).toNat) then k else yP bb k
theorem Yi (bb:Nat→Rat):∀ k,-1≤yP bb k∧yP bb k<k
 | 0=>by simp[yP]
 | k+1=>by have:=Yi bb k; simp only[yP]; split<;>omega
theorem XV {bb:Nat→Rat}:∀ k,yP bb k<0→∀ i,i<k→0≤bb i
 | 0,_,i,hi=>by omega
 | k+1,h,i,hi=>by
  simp only[yP] at h
  split at h
  ·omega
  ·rename_i hn
   by_cases e:i=k
   ·subst e
    have:¬ bb i<0:=fun h0=>hn ⟨h0,.inl h⟩
    grind
   ·exact XV k h i (by omega)
theorem XW {bb:Nat→Rat}:∀ k,0≤yP bb k→bb (yP bb k).toNat<0∧∀ i,i<k→bb (yP bb k).toNat≤bb i
 | 0,h=>by simp[yP] at h
 | k+1,h=>by
  have b:=Yi bb k
  simp only[yP] at h ⊢
  split
  ·rename_i hc
   refine ⟨by simpa using hc.1,fun i hi=>?_⟩
   simp only[Int.toNat_natCast]
   by_cases e:i=k
   ·subst e; grind
   ·by_cases h1:yP bb k<0
    ·have:=XV k h1 i (by omega); have:=hc.1; grind
    ·have h2:=hc.2.resolve_left h1
     have:=(XW (bb:=bb) k (by omega)).2 i (by omega)
     grind
  ·rename_i hc
   rw[if_neg hc] at h
   obtain ⟨h1,h2⟩:=XW k h
   refine ⟨h1,fun i hi=>?_⟩
   by_cases e:i=k
   ·subst e
    have:¬ bb i<bb (yP bb i).toNat:=fun h3=>hc ⟨by grind,.inr h3⟩
    grind
   ·exact h2 i (by omega)
noncomputable def tN (n m:Nat) (A:Nat→Nat→Rat) (bb:Nat→Rat):List (Nat × ze) :=
 [(1015,.var [iv n,iv m,.us 1961 1 0 m,.us 1972 3 0 m,vC n,f0 0,f1 0,f2 0,.us 1987 1 0 m,.us 2029 1 0 n]),(2029,.uarr 1 (nR id n)),
   (1961,.uarr 1 (oR A om (fun _=>n) m)),(1972,.uarr 3 (fR bb m)),(1987,.uarr 1 (nR (fun i=>n+i) m))]
theorem G2 {n:Nat}:vi (vC n) (fL (fun _=>0) n):=by
 unfold vC
 split
 ·rename_i h; subst h; exact vi.nil
 ·exact vi.list
theorem L5 {g h:Nat→List AV} {n:Nat} (e:∀ i,i<n→∃ x y,g i=[x]∧h i=[y]∧vi x y):∀ (i:Nat) r r',(mR g n)[i]?=some r→(mR h n)[i]?=some r'→r'.length=r.length∧∀ (j:Nat) c c',r[j]?=some c→r'[j]?=some c'→vi c c':=by
 intro i r r' hr hr'
 have hi:i<n:=by have:=(List.getElem?_eq_some_iff.1 hr).1; simpa using this
 rw[q7 hi] at hr hr'
 obtain ⟨x,y,e1,e2,hw⟩:=e i hi
 simp only[Option.some.injEq] at hr hr'
 subst hr hr'
 rw[e1,e2]
 refine ⟨rfl,fun j c c' hj hj'=>?_⟩
 cases j with
 | zero=>simp only[List.getElem?_cons_zero,Option.some.injEq] at hj hj'; subst hj hj'; exact hw
 | succ j=>simp at hj
def dZ (n m:Nat) (A:Nat→Nat→Rat) (bb:Nat→Rat):zn:=dG n m A bb fun _=>0
theorem aG {ρ l l':List (Nat × ze)} (h:lk l=lk l'):lk (ρ++l)=lk (ρ++l'):=by
 funext k
 induction ρ with
 | nil=>exact congrFun h k
 | cons p ρ ih =>
  obtain ⟨q,x⟩:=p
  simp only[List.cons_append,lk]
  split
  ·rfl
  ·exact ih
theorem LO {s t:St} (h1:s.env=t.env) (h2:lk s.sto=lk t.sto) (h3:s.out=t.out):St.impW s t:=by
 intro F a w I β lam hI
 have e:t.look=s.look:=by
  funext ⟨d,k⟩
  cases d<;>simp only[St.look,h1,h3]
 rw[e,← h2]
 exact hI
theorem PE {s:St} {env:List (Nat × AV)} (h:rY s.env env):St.impW s {s with env:=env}:=by
 intro F a w I β lam hI
 refine {hI with env:=fun t x hx=>hI.env t x ?_}
 obtain ⟨d,t⟩:=t
 cases d with
 | zero=>exact Ya h hx
 | succ d=>exact hx
theorem acj {n m:Nat} {A:Nat→Nat→Rat} {bb:Nat→Rat} {ρ:List (Nat × ze)} {env:List (Nat × AV)} {out:List (List (Nat × AV))} {base:Nat} (hρ:rest ρ) :
  St.impW ⟨env,ρ++tN n m A bb,out,base⟩ ⟨env,ρ++tL n m (dZ n m A bb),out,base⟩:=by
 refine St.impW.trans (St.impW_cell_weak (k:=1015) (j:=4) (y:=fL (fun _=>0) n) (by simp[tN,rlk hρ,far]; rfl) rfl G2) ?_
 simp[tN,rpt hρ,far]
 refine St.impW.trans (St.impW_uarr (l:=1961) (sz:=1) (rows':=cR A (fun _=>n) m) (by simp[rlk hρ,far]; rfl) (by simp) (L5 fun i hi=>⟨_,_,rfl,rfl,vi.list⟩)) ?_
 simp[rpt hρ,far]
 refine LO rfl (aG (SS ?_ ?_)) rfl
 ·simp[tL,dZ,dG,tP,rZ]; rfl
 ·simp[tL,dZ,dG,tP,rZ]; rfl
theorem RA:yZ Tryz.prog td=true:=by kernel_rfl
theorem lh:yZ Tryz.prog x6=true:=by kernel_rfl
noncomputable def cP (n m:Nat) (A:Nat→Nat→Rat) (bb:Nat→Rat) (ρ:List (Nat × ze)) (out:List (List (Nat × AV))) (k:Nat):St :=
 {env:=[(0,.ptr 1015 0),(4,iv (yP bb k)),(12,.us 1972 3 0 m),(13,iv m),(14,iv k)],sto:=ρ++tN n m A bb,out:=out,base:=4000}
noncomputable def aR (A:Nat→Nat→Rat) (n k m:Nat):List (List AV):=mR (fun i=>if i<k then [fL (fun j=>if j<n then A i j else -1) (n+1)] else [.list 3 (om i) (fR (A i) n)]) m
noncomputable def Gf (n m p:Nat) (A:Nat→Nat→Rat) (bb:Nat→Rat) (ρ:List (Nat × ze)) (out:List (List (Nat × AV))) (k:Nat):St :=
 {env:=[(0,.ptr 1015 0),(4,iv p),(7,.ptr 4007 0),(47,iv m),(48,iv k)],
  sto:=ρ++[(1015,.var [iv n,iv m,.us 1961 1 0 m,.us 1972 3 0 m,vC n,f0 0,f1 0,f2 0,.us 1987 1 0 m,.us 2029 1 0 n]),(2029,.uarr 1 (nR id n)),
   (1961,.uarr 1 (aR A n k m)),(1972,.uarr 3 (fR bb m)),(1987,.uarr 1 (nR (fun i=>n+i) m)),(4007,.var (fr (-1)))],out:=out,base:=4000}
structure Ready (n m L:Nat) (A:Nat→Nat→Rat) (bb:Nat→Rat) (e:zn):Prop where
 bij:Bij e (n+m)
 sol:∀ x,sol e x↔sol (dZ n m A bb) x
 feas:feas e
 r:e.r=m
 c:e.c=n
 sz:szD L e
theorem NX {n m L:Nat} {A:Nat→Nat→Rat} {bb:Nat→Rat} {ρ:List (Nat × ze)} {env:List (Nat × AV)} {out:List (List (Nat × AV))} {Q:Exit→St→Prop} (hρ:rest ρ) (hE:xd 2000 env) (hO:yp 2000 out) (hm:m<900000) (hL:L≤10000000000) (hb:∀ i,i<m→sz L (bb i))
  (h:Q (.exit 0) ⟨[(0,.ptr 1015 0),(4,iv (yP bb m)),(12,.us 1972 3 0 m),(13,iv m),(14,iv m),(15,bv false)],ρ++tN n m A bb,env::out,4000⟩) :
  awp Tryz.prog (.loop qk) (cP n m A bb ρ (env::out) 0) Q:=by
 refine zl (cP n m A bb ρ (env::out)) (fun _=>True) m (by simp[cP]) trivial (fun k hk _=>?_) (fun _=>?_)
 ·have e:(k:Int)<m:=by omega
  have w:=zm (k:=k) (by omega)
  obtain ⟨b1,b2⟩:=Yi bb k
  have g1:=vf (q:=bb k)
  simp[qk,cP,tN,e,hk,rlk hρ,rpt hρ,far]
  refine za g1 (by simp) (by simp) ?_
  by_cases h0:bb k<0
  ·have h0':yN (bb k)<0:=pV.2 h0
   by_cases h1:yP bb k<0
   ·have ev:yP bb (k+1)=k:=by simp only[yP]; rw[if_pos ⟨h0,.inl h1⟩]
    simp[h0',h1,w,cP,tN,ev,rlk hρ,wz hρ,y4 hρ,eno hE,ono hO,far]
   ·have b3:(yP bb k).toNat<m:=by omega
    have b4:(0:Int)≤yP bb k:=by omega
    have b5:yP bb k<m:=by omega
    have g2:=Ur (by omega) (hb k hk) (hb _ b3)
    simp[h0',h1,b3,b4,b5,rlk hρ,far]
    refine za g2 (by simp) (by simp) ?_
    by_cases h2:bb k<bb (yP bb k).toNat
    ·have ev:yP bb (k+1)=k:=by simp only[yP]; rw[if_pos ⟨h0,.inr h2⟩]
     have h2':wt (bb k) (bb (yP bb k).toNat)<0:=mz.2 h2
     simp[h2',w,cP,tN,ev,rlk hρ,wz hρ,y4 hρ,eno hE,ono hO,far]
    ·have ev:yP bb (k+1)=yP bb k:=by simp only[yP]; rw[if_neg fun h=>h.2.elim h1 h2]
     have h2':¬ wt (bb k) (bb (yP bb k).toNat)<0:=fun h=>h2 (mz.1 h)
     simp[h2',w,cP,tN,ev,rlk hρ,wz hρ,y4 hρ,eno hE,ono hO,far]
  ·have h0':¬ yN (bb k)<0:=fun h=>h0 (pV.1 h)
   have ev:yP bb (k+1)=yP bb k:=by simp only[yP]; rw[if_neg fun h=>h0 h.1]
   simp[h0',w,cP,tN,ev,rlk hρ,wz hρ,y4 hρ,eno hE,ono hO,far]
 ·simp[qk,cP]
  exact h
def sec:zc→zc
 | .seq _ b=>b
 | c=>c
def Next (n m:Nat) (e:zn) (res:AV) (e2:zn):Prop :=
 (e.v<0∧res=.tuple [fL (xJ n m e e.c) m,bv false]∧e2=e) ∨
 (¬ e.v<0∧res=.tuple [xH,bv true]∧∃ d1 j0,((d1=e∧∀ i,i<m→e.bas i≠n+m)∨∃ i q,i<m∧q<e.c∧e.bas i=n+m∧(∀ k,k<i→e.bas k≠n+m)∧e.a i q≠0∧(∀ k,k<q→e.a i k=0)∧d1=pivot e i q) ∧
  j0<d1.c∧d1.fre j0=n+m∧(∀ k,k<j0→¬ d1.fre k=n+m)∧e2=po d1 j0)
noncomputable def tM (X n m:Nat) (A:Nat→Nat→Rat) (bb:Nat→Rat):List (Nat × ze) :=
 [(1015,.var [iv n,iv m,.us 1961 1 0 m,.us 1972 3 0 m,.list 3 (.own X) (fR (dA n m A bb).cst (n+1)),f0 0,f1 0,f2 0,.us 1987 1 0 m,.us 2029 1 0 (n+1)]),(2029,.uarr 1 (nR (dA n m A bb).fre (n+1))),
  (1961,.uarr 1 (cR (dA n m A bb).a (fun _=>n+1) m)),(1972,.uarr 3 (fR bb m)),(1987,.uarr 1 (nR (fun i=>n+i) m))]
theorem aci {X n m:Nat} {A:Nat→Nat→Rat} {bb:Nat→Rat} {ρ:List (Nat × ze)} {env:List (Nat × AV)} {out:List (List (Nat × AV))} {base:Nat} (hρ:rest ρ) :
  St.impW ⟨env,ρ++tM X n m A bb,out,base⟩ ⟨env,ρ++tL n m (dA n m A bb),out,base⟩:=by
 refine St.impW.trans (St.impW_cell_weak (k:=1015) (j:=4) (y:=fL (dA n m A bb).cst (n+1)) (by simp[tM,rlk hρ,far]; rfl) rfl vi.list) ?_
 simp[tM,rpt hρ,far]
 refine LO rfl (aG (SS ?_ ?_)) rfl
 ·simp[tL,dA,tP,rZ]
 ·simp[tL,dA,tP,rZ]
theorem aao {A:Nat→Nat→Rat} {n m:Nat}:aR A n 0 m=oR A om (fun _=>n) m:=uU fun i _=>if_neg (by omega)
theorem aan {A:Nat→Nat→Rat} {bb:Nat→Rat} {n m:Nat}:aR A n m m=cR (dA n m A bb).a (fun _=>n+1) m:=uU fun _i hi=>if_pos hi
theorem Gj {n m p L:Nat} {A:Nat→Nat→Rat} {bb:Nat→Rat} {e e2:zn} {res:AV} (hm:m<900000) (hn:n<900000) (hL:L≤10000000000) (hb:∀ i,i<m→sz L (bb i)) (hw:yP bb m=(p:Nat)) (hp:p<m)
  (szA:szD L (dA n m A bb)) (sze:szD L e) (her:e.r=m) (hec:e.c=n+1) (hfre:∀ j,j<e.c→e.fre j<4000000)
  (hopt:∀ {ρ:List (Nat × ze)} {s:St} {K:AV→St→Prop},s.sto=ρ++tL n m (pivot (dA n m A bb) p n)→rest ρ→xd 2000 s.env→yp 2000 s.out→K (ef e) ⟨s.env,ρ++tL n m e,s.out,s.base⟩→yc Tryz.prog x6 [.ptr 1015 0] s K)
  (hx:Next n m e res e2) {ρ:List (Nat × ze)} {s:St} {K:AV→St→Prop} (hs:s.sto=ρ++tN n m A bb) (hρ:rest ρ) (hE:xd 2000 s.env) (hO:yp 2000 s.out) (h:K res ⟨s.env,ρ++tL n m e2,s.out,s.base⟩) :
  yc Tryz.prog uR [.ptr 1015 0] s K:=by
 obtain ⟨env,σ,out,base⟩:=s
 simp only at hs hE hO h
 subst hs
 have hO2:yp 2000 (env::out):=lV.2 ⟨hE,hO⟩
 have g0:zd Tryz.prog zN [iv (-1)] (fq (-1)):=yE (n:=-1) (by decide) (by decide)
 refine vA 4000 YN (by simp) ?_
 simp[fU,tN,rlk hρ,far]
 refine NX (n:=n) (A:=A) hρ hE hO hm hL hb ?_
 have hp0:¬ (p:Int)<0:=by omega
 simp[mu,hw,hp0,sN]
 refine za g0 (by simp) (by simp) ?_
 simp[tN,rlk hρ,rpt hρ,far]
 refine mr (Gf n m p A bb ρ (env::out)) (fun _=>True) m (St.imp_of (by simp[Gf,aao])) trivial (fun k hk _=>?_) (fun _=>?_)
 ·have e1:(k:Int)<m:=by omega
  have w:=zm (k:=k) (by omega)
  have g:(aR A n k m)[k]?=some [.list 3 (om k) (fR (A k) n)]:=by unfold aR; rw[q7 hk,if_neg (by omega)]
  have gE:∀ h,(aR A n k m)[k]'h=[.list 3 (om k) (fR (A k) n)]:=fun h=>(List.getElem?_eq_some_iff.1 g).2
  have aL:(aR A n k m).length=m:=nT
  have hf:far (1000000+k)=true:=decide_eq_true (by omega)
  have l1:∀ l,lk (ρ++l) (1000000+k)=lk l (1000000+k):=fun l=>rlk hρ hf
  have hd0:=nZ (k:=1000000+k) hρ (by omega)
  have hd1:=edg (k:=1000000+k) hE (by omega)
  have hd2:=odg (k:=1000000+k) hO (by omega)
  have hd3:=ZI (l:=1000000+k) (k:=n) (by omega)
  have n0:∀ j,j<1000000→¬ j=1000000+k:=fun j hj=>by omega
  have hdg:zX (1000000+k) (aR A n k m)=mR (fun i=>if i<k then [fL (fun j=>if j<n then A i j else -1) (n+1)] else [.list 3 (if i=k then .plain else om i) (fR (A i) n)]) m:=by
   unfold aR zX
   refine aJ fun i hi=>?_
   by_cases h1:i<k
   ·rw[if_pos h1,if_pos h1]; simp
   ·rw[if_neg h1,if_neg h1]
    by_cases h2:i=k
    ·subst h2; simp[om,dg]
    ·rw[if_neg h2]
     simp[om,dg,h2]
  have wn:(n+1)*56≤140737488355328:=by omega
  have wn2:n≤9223372036854775806:=by omega
  have hfa:fR (A k) n++[fr (-1)]=fR (fun j=>if j<n then A k j else -1) (n+1):=by
   rw[eU,if_neg (Nat.lt_irrefl n)]
   rw[yd (f:=fun j=>if j<n then A k j else -1) (g:=A k) fun j hj=>if_pos hj]
  simp[mv,Gf,e1,hk,gE,aL,om,rlk hρ,rpt hρ,wz hρ,far,w,l1,hd0,hd1,hd2,hd3,n0,hdg,-dgE,vq,wO,wn,wn2,hfa]
  rw[UR]
  refine St.imp.trans (St.imp_uarr (l:=1961) (sz:=1) (rows':=aR A n (k+1) m) (by simp[rlk hρ,far]; rfl) (by simp[aR]) ?_) ?_
  ·unfold aR
   refine L5 fun i hi=>?_
   by_cases h1:i=k
   ·subst h1
    exact ⟨.list 3 (.own (1000000+i)) (fR (fun j=>if j<n then A i j else -1) (n+1)),fL (fun j=>if j<n then A i j else -1) (n+1),by simp[upd],by rw[if_pos (by omega)],vi.list⟩
   ·by_cases h2:i<k
    ·exact ⟨fL (fun j=>if j<n then A i j else -1) (n+1),_,by simp only[upd,if_neg h1,if_pos h2],by rw[if_pos (by omega)],vi.refl⟩
    ·exact ⟨.list 3 (om i) (fR (A i) n),.list 3 (om i) (fR (A i) n),by simp only[upd,if_neg h1,if_neg h2]; rfl,by rw[if_neg (by omega)],vi.refl⟩
  ·simp[rpt hρ,far]
   exact St.imp.refl
 ·have wn1:(n+1)*8≤140737488355328:=by omega
  have wn:(n+1)*56≤140737488355328:=by omega
  have wn2:n≤9223372036854775806:=by omega
  have wnm:IntKind.i64.wrap ((n:Int)+m)=((n+m:Nat):Int):=by rw[wrap64]<;>omega
  have hdg:=ZI (l:=2029) (k:=n) (by omega)
  have hfe:nR id n++[[iv ((n:Int)+m)]]=nR (dA n m A bb).fre (n+1):=by
   unfold nR
   rw[Se]
   simp only[dA,Nat.lt_irrefl,if_false,Int.natCast_add]
   congr 1
   exact uU fun i hi=>by rw[if_pos hi]; rfl
  simp[mv,Gf,qj,rlk hρ,rpt hρ,far,nZ hρ,edg hE,odg hO,-dgE,vq,wO,hdg,wn1,wn2,wnm,aan (bb:=bb),hfe]
  have hcs:fR (fun _=>0) n++[fr (-1)]=fR (dA n m A bb).cst (n+1):=by
   rw[eU]
   simp only[dA,Nat.lt_irrefl,if_false]
   rw[yd (f:=fun j=>if j<n then (0:Rat) else -1) (g:=fun _=>0) fun j hj=>if_pos hj]
  have hc0:(n=0∧vC n=xH)∨vC n=.list 3 (.own 2039) (fR (fun _=>0) n):=by
   unfold vC
   split
   ·exact .inl ⟨by assumption,rfl⟩
   ·exact .inr rfl
  have wn3:IntKind.i64.wrap (n:Int)=n:=by rw[wrap64]<;>omega
  have hds:(dA n m A bb).c=n+1:=rfl
  have pv:∀ (X:Nat) (env0:List (Nat × AV)),rY env0 [(0,.ptr 1015 0)]→∀ {K:AV→St→Prop},K (.tuple []) ⟨[(0,.ptr 1015 0)],ρ++tL n m (pivot (dA n m A bb) p n),env::out,4000⟩→yc Tryz.prog uQ [.ptr 1015 0,iv p,iv n] ⟨env0,ρ++tM X n m A bb,env::out,4000⟩ K:=fun X env0 h0 K hK =>
   yc.pre (St.impW.trans (aci hρ) (PE h0)) (Nm (s:=⟨[(0,.ptr 1015 0)],ρ++tL n m (dA n m A bb),env::out,4000⟩) (d:=dA n m A bb) (ρ:=ρ) (n:=n) (m:=m) (L:=L) rfl hρ (by simp[yF,xe,xP]) hO2 (by omega) (by simp only[dA]; omega) rfl hp (by simp only[dA]; omega) hL szA KG hK)
  have sg:=vf (q:=e.v)
  have fin:tp Tryz.prog x6 [AV.ptr 1015 0]
    {env:=[(0,AV.ptr 1015 0),(105,AV.ptr 1015 0)],sto:=ρ++tL n m (pivot (dA n m A bb) p n),out:=env::out,base:=4000} (some 106)
    (eg Tryz.prog [] (Pk [105,106] [] (rX Tryz.prog (sec (sec (sec (sec qj)))) (Xy sN base K)))):=by
   refine yb (hopt rfl hρ (by simp[yF,xe,xP]) hO2 ?_)
   simp[sec,qj,tL,rlk hρ,far]
   refine za sg (by simp) (by simp) ?_
   rcases hx with ⟨hv,rfl,rfl⟩ | ⟨hv,rfl,d1,j0,h1,hj0,hf0,hmin,rfl⟩
   ·have hv':yN e2.v<0:=pV.2 hv
    simp[hv',RA]
    refine yb (abG (s:=⟨_,ρ++tL n m e2,env::out,4000⟩) (n:=n) (m:=m) (d:=e2) (ρ:=ρ) (L:=L) rfl hρ ?_ hO2 (by omega) (by omega) (by omega) hfre (by omega) sze.cst ?_)
    ·simp[yF,xe,rR,xP]
    simp[sN]
    exact h
   ·have hv':¬ yN e.v<0:=fun h=>hv (pV.1 h)
    simp[hv',F7]
    refine yb (abQ (s:=⟨_,ρ++tL n m e,env::out,4000⟩) (d:=e) (d1:=d1) (ρ:=ρ) (n:=n) (m:=m) (L:=L) rfl hρ (by simp[yF,xe,rR,xP]) hO2 (by omega) (by omega) (by omega) her hL sze h1 hj0 hf0 hmin ?_)
    simp[sN]
    exact h
  rcases hc0 with ⟨hn0,hc⟩ | hc
  ·have hcs2:[fr (-1)]=fR (dA n m A bb).cst (n+1):=by rw[← hcs,hn0]; rfl
   simp[hc,hcs2,rlk hρ,rpt hρ,wz hρ,far,nZ hρ,edg hE,odg hO,-dgE,vq,wO,wn,wn2,wn3,y4 hρ,eno hE,ono hO,cm]
   refine yb (pv 4093 _ (by simp[tP,rZ]) ?_)
   simp[lh]
   exact fin
  ·simp[hc,hcs,rlk hρ,rpt hρ,wz hρ,far,nZ hρ,edg hE,odg hO,-dgE,vq,wO,wn,wn2,wn3,y4 hρ,eno hE,ono hO,cm]
   refine yb (pv 2039 _ (by simp[tP,rZ]) ?_)
   simp[lh]
   exact fin
theorem aea {n m S t:Nat} {A:Nat→Nat→Rat} {bb:Nat→Rat} (ht:m≤t∨n+1≤t) (hm:m<900000) (hn:n<900000) (hS:grow S t≤10000000000) (ha:∀ i j,i<m→j<n→sz S (A i j)) (hb:∀ i,i<m→sz S (bb i)) :
  (∃ e y,(Inf n m A bb y∧∀ i,sz (grow S t) (y i))∧∀ {ρ:List (Nat × ze)} {s:St} {K:AV→St→Prop},s.sto=ρ++tN n m A bb→rest ρ→xd 2000 s.env→yp 2000 s.out→K (.tuple [fL y m,bv false]) ⟨s.env,ρ++tL n m e,s.out,s.base⟩→yc Tryz.prog uR [.ptr 1015 0] s K) ∨
  (∃ e,Ready n m (grow S t) A bb e∧∀ {ρ:List (Nat × ze)} {s:St} {K:AV→St→Prop},s.sto=ρ++tN n m A bb→rest ρ→xd 2000 s.env→yp 2000 s.out→K (.tuple [xH,bv true]) ⟨s.env,ρ++tL n m e,s.out,s.base⟩→yc Tryz.prog uR [.ptr 1015 0] s K):=by
 have hSm:S≤grow S t:=az (m:=0) (Nat.zero_le t)
 have sm1:sz S (-1):=r5 Tw
 have szA:szD S (dA n m A bb):=⟨fun i j hi hj=>by
   simp only[dA] at hi ⊢
   split
   ·exact ha i j hi (by assumption)
   ·exact sm1,fun i hi=>hb i hi,fun j hj=>by
   simp only[dA]
   split
   ·exact xQ
   ·exact sm1,xQ⟩
 have szZ:szD (grow S t) (dZ n m A bb):=XP ⟨fun i j hi hj=>ha i j hi hj,fun i hi=>hb i hi,fun j hj=>xQ,xQ⟩ hSm
 have bw:=Yi bb m
 by_cases hw:yP bb m<0
 ·refine .inr ⟨dZ n m A bb,⟨G3,fun _=>Iff.rfl,fun i hi=>XV m hw i hi,rfl,rfl,szZ⟩,?_⟩
  intro ρ s K hs hρ hE hO h
  obtain ⟨env,σ,out,base⟩:=s
  simp only at hs hE hO h
  subst hs
  refine yc.post (K:=fun r s'=>r=.tuple [xH,bv true]∧s'=⟨env,ρ++tN n m A bb,out,base⟩) ?_ fun r s' ⟨e1,e2⟩=>.inl ⟨_,by subst e2; exact acj hρ,by subst e1; exact h⟩
  refine vA 4000 YN (by simp) ?_
  simp[fU,tN,rlk hρ,far]
  refine NX (n:=n) (A:=A) hρ hE hO hm hS (fun i hi=>zx (hb i hi) hSm) ?_
  simp[mu,hw,sN]
  rfl
 ·obtain ⟨p,hp⟩:∃ p:Nat,yP bb m=p:=⟨(yP bb m).toNat,by omega⟩
  have hpm:p<m:=by omega
  obtain ⟨w1,w2⟩:=XW m (by omega:0≤yP bb m)
  rw[hp] at w1 w2
  simp only[Int.toNat_natCast] at w1 w2
  have hS1:Same (pivot (dA n m A bb) p n) (dA n m A bb) (n+m+1):=Gi hpm
  have hF1:feas (pivot (dA n m A bb) p n):=Gh w1 w2
  have hsize:∀ e,Same e (pivot (dA n m A bb) p n) (n+m+1)→e.r=(pivot (dA n m A bb) p n).r→e.c=(pivot (dA n m A bb) p n).c→szD (grow S t) e:=fun e he h1 h2 =>
   Same.size_t (d:=dA n m A bb) szA (he.trans hS1).symm h1 h2 ht
  obtain ⟨e,hfin,hopt⟩:=RC hS1.bd hF1
  have hSe:Same e (dA n m A bb) (n+m+1):=hfin.same.trans hS1
  have her:e.r=m:=hfin.r
  have hec:e.c=n+1:=hfin.c
  have sze:szD (grow S t) e:=hsize e hfin.same hfin.r hfin.c
  have hcst:∀ j,j<e.c→e.cst j≤0:=by
   rcases hfin.out with ⟨_,h⟩ | ⟨q,_,hq,hc,hall⟩
   ·exact h
   ·exact absurd (MH hSe hfin.feas hq hc hall) id
  have hfre:∀ j,j<e.c→e.fre j<4000000:=fun j hj=>by have:=lP hSe.bd hj; omega
  have hwalk:=fun {e2:zn} {res:AV} (hx:Next n m e res e2) {ρ:List (Nat × ze)} {s:St} {K:AV→St→Prop}=>Gj (n:=n) (m:=m) (p:=p) (L:=grow S t) (A:=A) (bb:=bb) (e:=e) (ρ:=ρ) (s:=s) (K:=K) hm hn hS (fun i hi=>zx (hb i hi) hSm) hp hpm (XP szA hSm) sze her hec hfre
   (fun {ρ s K} hs hρ hE hO hK=>hopt hs hρ hE hO (by omega) (by simp only[pivot,dA]; omega) rfl hS hsize hK) hx
  by_cases hv:e.v<0
  ·refine .inl ⟨e,_,⟨ady hSe hcst hv,fun i=>r5 (A0 hSe.bd sze (n+i))⟩,?_⟩
   have hy:fL (fun i=>- cv e (n+i)) m=fL (xJ n m e e.c) m:=congrArg _ (yd fun i hi=>(Ew hSe.bd hi).symm)
   rw[hy]
   exact fun {ρ s K} hs hρ hE hO h=>hwalk (.inl ⟨hv,rfl,rfl⟩) hs hρ hE hO h
  ·have hv0:e.v=0:=by have:=aad hSe hfin.feas; grind
   have fin:∀ d1:zn,((d1=e∧∀ i,i<m→e.bas i≠n+m)∨∃ i q,i<m∧q<e.c∧e.bas i=n+m∧(∀ k,k<i→e.bas k≠n+m)∧e.a i q≠0∧(∀ k,k<q→e.a i k=0)∧d1=pivot e i q) →
     Same d1 (dA n m A bb) (n+m+1)→feas d1→d1.r=m→d1.c=n+1→(∃ j,j<d1.c∧d1.fre j=n+m)→szD (grow S t) d1 →
     (∃ e,Ready n m (grow S t) A bb e∧∀ {ρ:List (Nat × ze)} {s:St} {K:AV→St→Prop},s.sto=ρ++tN n m A bb→rest ρ→xd 2000 s.env→yp 2000 s.out→K (.tuple [xH,bv true]) ⟨s.env,ρ++tL n m e,s.out,s.base⟩→yc Tryz.prog uR [.ptr 1015 0] s K):=by
    intro d1 h1 hS hF hr hc hex hz
    obtain ⟨j0,hj0,hf0,hmin⟩:=least hex
    refine ⟨po d1 j0,⟨Cz hS hj0 hf0,fun x=>CA hS hj0 hf0 x,fun i hi=>hF i hi,hr,by simp only[po]; omega,
     ⟨fun i j hi hj=>hz.a i _ hi (Qy hj0 hj),fun i hi=>hz.b i hi,fun j hj=>hz.cst _ (Qy hj0 hj),hz.v⟩⟩,?_⟩
    exact fun {ρ s K} hs hρ hE hO h=>hwalk (.inr ⟨hv,rfl,d1,j0,h1,hj0,hf0,hmin,rfl⟩) hs hρ hE hO h
   refine .inr ?_
   by_cases hb0:∃ i,i<m∧e.bas i=n+m
   ·obtain ⟨i,hi,hbi,hmin⟩:=least hb0
    obtain ⟨q,hq,haq,hqm⟩:=least (abD hSe (by omega) hbi)
    have hS2:Same (pivot e i q) (dA n m A bb) (n+m+1):=(Same.pivot hSe.bd (by omega) hq haq).trans hSe
    refine fin (pivot e i q) (.inr ⟨i,q,hi,hq,hbi,hmin,haq,fun k hk=>Classical.byContradiction fun h=>hqm k hk h,rfl⟩) hS2 (CR hfin.feas (adS hSe (by omega) hbi hv0)) her hec ⟨q,hq,by simp only[pivot,upd,if_true]; exact hbi⟩ ?_
    exact Same.size_t (d:=dA n m A bb) szA hS2.symm her hec ht
   ·refine fin e (.inl ⟨rfl,fun i hi h=>hb0 ⟨i,hi,h⟩⟩) hSe hfin.feas her hec ?_ sze
    rcases bn hSe.bd (show n+m<n+m+1 by omega) with h | ⟨i,hi,h⟩
    ·exact h
    ·exact absurd ⟨i,by omega,h⟩ hb0
@[simp] theorem L4 {g:Nat→List AV} {n:Nat}:(mR g n).take n=mR g n:=List.take_of_length_le (by simp)
@[simp] theorem agM {a:Nat→Nat→Rat} {cl:Nat→Nat} {n:Nat}:(cR a cl n).take n=cR a cl n:=L4
@[simp] theorem ag3 {f:Nat→Nat} {n:Nat}:(nR f n).take n=nR f n:=L4
theorem acU {I I':Nat→Nat→Prop} {w:World} {β β':zS} {lam lam':z4} {v:Value} {x y:Value} (h:R I w β lam (.tuple [.val x,.val y]) v):R I' w β' lam' (.tuple [.val x,.val y]) v:=by
 have key:∀ {l:List AV} {vs:Array Value},l=[.val x,.val y]→vs.size=l.length→(∀ i c,l[i]?=some c→R I w β lam c (vs.getD i undef))→∀ i c,l[i]?=some c→R0 I' w c (vs.getD i undef):=by
  intro l vs hl _ h i c hc
  subst hl
  have h1:=h i c hc
  match i,hc with
  | 0,hc =>
   simp only[List.getElem?_cons_zero,Option.some.injEq] at hc
   subst hc
   cases h1 with
   | base h1=>cases h1; exact .val _
  | 1,hc =>
   simp only[List.getElem?_cons_succ,List.getElem?_cons_zero,Option.some.injEq] at hc
   subst hc
   cases h1 with
   | base h1=>cases h1; exact .val _
 cases h with
 | base h=>cases h with | tuple _ vs hs hc=>exact .base (.tuple _ vs hs (key rfl hs fun i c h=>.base (hc i c h)))
 | tuple _ vs hs _ hc=>exact .base (.tuple _ vs hs (key rfl hs hc))
theorem ae9 {P:Program} {f:FuncId} {xs:List AV} {s:St} {x y:Value} {s1 t:St} {K':AV→St→Prop} (hc:yc P f xs s fun r s'=>r=.tuple [.val x,.val y]∧s'=s1) (h:St.imp s1 t) (hk:K' (.tuple [.val x,.val y]) t):yc P f xs s K' :=
 fun F a w I β lam hI vs hn hv=>Calls.mono (hc F a w I β lam hI vs hn hv) fun e w' ⟨v,e1,r,s',I',β',lam',⟨hr,hs⟩,hI',hR⟩=>by
  subst hr hs
  obtain ⟨I2,β2,lam2,h2⟩:=h _ _ _ ⟨I',β',lam',hI'⟩
  exact ⟨v,e1,_,t,I2,β2,lam2,hk,h2,acU hR⟩
theorem Fs (e:zn):∃ x y,ef e=.tuple [.val x,.val y]:=by
 unfold ef
 split
 ·exact ⟨_,_,rfl⟩
 ·exact ⟨_,_,rfl⟩
noncomputable def qP (A:Nat→Nat→Rat) (bb gg:Nat→Rat) (n m:Nat):List (Nat × ze) :=
 [(1,.var [fL gg n,.list 4 .plain (pR A bb n m)]),(2,.var [iv 0,bv false,xH,xH,xH,xH,xH])]
noncomputable def er:List (Nat × ze):=[(2,.var [iv 0,bv false,xH,xH,xH,xH,xH])]
theorem nz {A:Nat→Nat→Rat} {bb gg:Nat→Rat} {n m:Nat}:rest (qP A bb gg n m):=by
 intro p hp
 simp only[qP,List.mem_cons,List.not_mem_nil,or_false] at hp
 rcases hp with rfl | rfl
 ·exact ⟨.inl (show (_:Nat)<1000 by simp),by simp[aH]; exact ⟨rfl,rfl⟩⟩
 ·exact ⟨.inl (show (_:Nat)<1000 by simp),by simp[aH]; exact ⟨rfl,rfl,rfl⟩⟩
theorem EM:rest er:=by
 intro p hp
 simp only[er,List.mem_cons,List.not_mem_nil,or_false] at hp
 subst hp
 exact ⟨.inl (show (_:Nat)<1000 by simp),by simp[aH]; exact ⟨rfl,rfl,rfl⟩⟩
theorem Jd {n m:Nat} {e:zn} {b:Nat} :
  St.imp ⟨[(2,.ptr 2 0),(5,.ptr 1015 0)],er++tL n m e,[],b⟩ ⟨[(2,.ptr 2 0),(5,tR n m e)],er,[],b⟩:=by
 refine St.imp.trans (St.imp_freeze (k:=1961) (by simp[y8,er,tL,t7,nu,tI,lS,jj]; rfl)) ?_
 refine St.imp.trans (St.imp_freeze (k:=1972) (by simp[y8,t7,nu,tI,lS,jj]; rfl)) ?_
 refine St.imp.trans (St.imp_freeze (k:=1987) (by simp[y8,t7,nu,tI,lS,jj]; rfl)) ?_
 refine St.imp.trans (St.imp_freeze (k:=2029) (by simp[y8,t7,tI,lS,jj]; rfl)) ?_
 refine St.imp.trans (St.imp_freeze (k:=1015) (by simp[y8,t7,jj]; rfl)) ?_
 simp[tR,er]
 exact St.imp.refl
@[simp] theorem agn {q:Rat} {a b:AV}:zH [f0 q,f1 q,f2 q,a,b] 0 (some 3)=some (fq q):=by simp[zH]
@[simp] theorem afs {q:Rat} {a b c d x y z:AV}:splice [a,b,c,d,x,y,z] 1 (fr q)=[a,f0 q,f1 q,f2 q,x,y,z]:=by unfold fr; simp[splice,-mE]
theorem PV {M:Nat}:Am.low M xH=true:=rfl
theorem PW {A:Nat→Nat→Rat} {bb gg:Nat→Rat} {n m M:Nat}:Am.low M (.agg [.list 3 .plain (fR gg n),.list 4 .plain (pR A bb n m)])=true:=rfl
def af9 (n m L:Nat) (A:Nat→Nat→Rat) (bb gg:Nat→Rat) (r:AV):Prop :=
 (∃ x y v,(Opt n m A bb gg x y v∧(∀ j,sz L (x j))∧(∀ i,sz L (y i))∧sz L v)∧r=.agg [iv 1,f0 v,f1 v,f2 v,fL x n,fL y m,xH]) ∨
 (∃ y,(Inf n m A bb y∧∀ i,sz L (y i))∧r=.agg [iv 2,bv false,xH,xH,xH,fL y m,xH]) ∨
 (∃ x ray,(Unb n m A bb gg x ray∧(∀ j,sz L (x j))∧∀ j,sz L (ray j))∧r=.agg [iv 3,bv false,xH,xH,fL x n,xH,fL ray n])
theorem kD:yZ Tryz.prog tg=true:=by kernel_rfl
theorem Xj:yZ Tryz.prog uR=true:=by kernel_rfl
theorem Bp:yZ Tryz.prog qQ=true:=by kernel_rfl
theorem U1:yZ Tryz.prog pg=true:=by kernel_rfl
theorem aca {n m S t:Nat} {A:Nat→Nat→Rat} {bb gg:Nat→Rat} (ht1:m≤t∨n+1≤t) (hm:m<900000) (hn:n<900000) (hS:grow S t+(m+1)*(2*grow S t+1)≤30000000000) (ha:∀ i j,i<m→j<n→sz S (A i j)) (hb:∀ i,i<m→sz S (bb i)) (hg:∀ j,j<n→sz S (gg j))
  (hchk:zd Tryz.prog lq [pA A bb gg n m] (iv 0)) :
  ∃ r,af9 n m (grow S t) A bb gg r∧zd Tryz.prog bK [pA A bb gg n m] (.tuple [r,iv 0]):=by
 have ht:m≤t∨n≤t:=by omega
 have hSm:S≤grow S t:=az (m:=0) (Nat.zero_le t)
 have h0:1*(2*grow S t+1)≤(m+1)*(2*grow S t+1):=Nat.mul_le_mul_right _ (by omega)
 have hSG:grow S t≤10000000000:=by omega
 have szG:szD S (dG n m A bb gg):=⟨fun i j hi hj=>ha i j hi hj,fun i hi=>hb i hi,fun j hj=>hg j hj,xQ⟩
 have nt:∀ {s:St} {K:AV→St→Prop},s.sto=qP A bb gg n m→xd 1000 s.env→yp 1000 s.out→K (.ptr 1015 0) ⟨s.env,qP A bb gg n m++tN n m A bb,s.out,s.base⟩→yc Tryz.prog tg [pA A bb gg n m] s K :=
  fun hs hE hO hK=>MB hs nz hE hO (by omega) (by omega) hK
 rcases aea (S:=S) (A:=A) (bb:=bb) ht1 hm hn hSG ha hb with ⟨e,y,hi,hst⟩ | ⟨e,hr,hst⟩
 ·refine ⟨_,.inr (.inl ⟨y,hi,rfl⟩),?_⟩
  refine zC Zr (by simp) ?_
  simp[gX]
  refine za hchk (by simp) (by simp) ?_
  simp[kD]
  refine yb (nt (by simp[qP]) (by simp[yF,xe,lW,rR,xP,PW]) (by simp[yp]) ?_)
  simp[Xj]
  refine yb (hst rfl nz (by simp[yF,xe,xP]) (by simp[yp]) ?_)
  simp[qP,tL,fA]
 ·have hS2:Same (lg n gg e) (dG n m A bb gg) (n+m):=FB hr.bij hr.sol
  have hF2:feas (lg n gg e):=hr.feas
  have hsize:∀ e',Same e' (lg n gg e) (n+m)→e'.r=(lg n gg e).r→e'.c=(lg n gg e).c→szD (grow S t) e':=fun e' he h1 h2 =>
   Same.size_t (d:=dG n m A bb gg) szG (he.trans hS2).symm (by rw[h1]; exact hr.r) (by rw[h2]; exact hr.c) ht
  obtain ⟨e2,hfin,hopt⟩:=RC hS2.bd hF2
  have hSe:Same e2 (dG n m A bb gg) (n+m):=hfin.same.trans hS2
  have her:e2.r=m:=hfin.r.trans hr.r
  have hec:e2.c=n:=hfin.c.trans hr.c
  have sze:szD (grow S t) e2:=hsize e2 hfin.same hfin.r hfin.c
  have hfre:∀ j,j<e2.c→e2.fre j<4000000:=fun j hj=>by have:=lP hSe.bd hj; omega
  obtain ⟨fx,fy,hfr⟩:=Fs e2
  have so:∀ {K:AV→St→Prop},K (ef e2) ⟨[(2,.ptr 2 0),(5,tR n m e2)],er,[],0⟩→yc Tryz.prog x6 [.ptr 1015 0] ⟨[(2,.ptr 2 0),(5,.ptr 1015 0),(32,.ptr 1015 0)],er++tL n m (lg n gg e),[],0⟩ K:=fun {K} hK=>by
   refine yc.pre (PE (env:=[(2,.ptr 2 0),(5,.ptr 1015 0)]) (by simp[tP,rZ])) ?_
   refine ae9 (hopt rfl EM (by simp[yF,xe,xP]) (by simp[yp]) (by omega) (by rw[show (lg n gg e).c=n from hr.c]; omega) hr.r hSG hsize ⟨hfr,rfl⟩) Jd ?_
   rw[← hfr]
   exact hK
  have pt:=MJ (n:=n) (m:=m) (d:=e2) (by omega) (by omega)
  have pr:=Nn (n:=n) (m:=m) (L:=grow S t) (d:=e2) (by omega) (by omega) (by omega) hfre (by omega) sze.cst
  have hx:fL (pS n e2 m) n=fL (vl e2) n:=congrArg _ (yd fun j hj=>by rw[← her]; exact adU hSe.bd hj)
  have hy:fL (xJ n m e2 e2.c) m=fL (fun i=>- cv e2 (n+i)) m:=congrArg _ (yd fun i hi=>Ew hSe.bd hi)
  rw[hx] at pt
  rw[hy] at pr
  rcases hfin.out with ⟨ho,hcst⟩ | ⟨q,ho,hq,hc0,hall⟩
  ·refine ⟨_,.inl ⟨_,_,_,⟨adN hSe hfin.feas hcst,aam hSe.bd sze,fun i=>r5 (A0 hSe.bd sze (n+i)),sze.v⟩,rfl⟩,?_⟩
   rw[ho] at so
   refine zC Zr (by simp) ?_
   simp[gX]
   refine za hchk (by simp) (by simp) ?_
   simp[kD]
   refine yb (nt (by simp[qP]) (by simp[yF,xe,lW,rR,xP,PW]) (by simp[yp]) ?_)
   simp[Xj]
   refine yb (hst rfl nz (by simp[yF,xe,xP]) (by simp[yp]) ?_)
   simp[U1,qP]
   refine yb (ND (s:=⟨_,qP A bb gg n m++tL n m e,[],0⟩) (L:=grow S t) (d:=e) (g:=gg) (ρ:=qP A bb gg n m) (n:=n) (m:=m) rfl nz ?_ (by simp[yp]) (by omega) (by omega) (by rw[hr.c]; omega) hr.r (by omega) hr.sz (fun j hj=>zx (hg j hj) hSm) ?_)
   ·simp[yF,xe,rR,xP,PU,PV]
   simp[lh,qP,tL]
   refine yb (so ?_)
   simp[tR,er,Bp]
   refine Pf pt (by simp) (by simp[tR]) (by simp) ?_
   simp[RA]
   refine Pf pr (by simp) (by simp[tR]) (by simp) ?_
   simp[fA]
  ·have ra:=EC (n:=n) (m:=m) (L:=grow S t) (d:=e2) (q:=q) (by omega) (by omega) hq (by omega) (fun i hi=>sze.a i q (by omega) hq)
   have hra:fL (tD n e2 q m) n=fL (eo e2 q) n:=congrArg _ (yd fun j hj=>by rw[← her]; exact afb hSe.bd hq hj)
   rw[hra] at ra
   refine ⟨_,.inr (.inr ⟨_,_,⟨aej hSe hfin.feas hq hc0 hall,aam hSe.bd sze,abM hSe.bd sze hq⟩,rfl⟩),?_⟩
   rw[ho] at so
   refine zC Zr (by simp) ?_
   simp[gX]
   refine za hchk (by simp) (by simp) ?_
   simp[kD]
   refine yb (nt (by simp[qP]) (by simp[yF,xe,lW,rR,xP,PW]) (by simp[yp]) ?_)
   simp[Xj]
   refine yb (hst rfl nz (by simp[yF,xe,xP]) (by simp[yp]) ?_)
   simp[U1,qP]
   refine yb (ND (s:=⟨_,qP A bb gg n m++tL n m e,[],0⟩) (L:=grow S t) (d:=e) (g:=gg) (ρ:=qP A bb gg n m) (n:=n) (m:=m) rfl nz ?_ (by simp[yp]) (by omega) (by omega) (by rw[hr.c]; omega) hr.r (by omega) hr.sz (fun j hj=>zx (hg j hj) hSm) ?_)
   ·simp[yF,xe,rR,xP,PU,PV]
   simp[lh,qP,tL]
   refine yb (so ?_)
   simp[tR,er]
   refine za pt (by simp[tR]) (by simp) ?_
   simp
   refine za ra (by simp[tR]) (by simp) ?_
   simp[fA]
noncomputable def qR (A:Nat→Nat→RF) (cl:Nat→Nat) (b:Nat→RF) (m:Nat):List (List AV):=mR (fun i=>[hL (A i) (cl i),h0 (b i),h1 (b i),h2 (b i)]) m
noncomputable abbrev rA (G:Nat→RF) (n:Nat) (A:Nat→Nat→RF) (cl:Nat→Nat) (b:Nat→RF) (m:Nat):AV:=.agg [hL G n,.list 4 .plain (qR A cl b m)]
section
variable {A:Nat→Nat→RF} {cl:Nat→Nat} {b:Nat→RF} {m i:Nat}
@[simp] theorem ah4:(qR A cl b m).length=m:=nT
@[simp] theorem ahe {hi:i<(qR A cl b m).length}:(qR A cl b m)[i]=[hL (A i) (cl i),h0 (b i),h1 (b i),h2 (b i)]:=jl
@[simp] theorem aiR:xk (qR A cl b m)=true:=aI fun _=>by simp
@[simp] theorem aiS:zP (qR A cl b m)=qR A cl b m:=tw fun _=>by simp
end
noncomputable def bP (f:Nat→RF) (n:Nat):Bool:=@decide (∀ j,j<n→(f j).v=true) (Classical.propDecidable _)
theorem mq {f:Nat→RF} {n:Nat}:bP f n=true↔∀ j,j<n→(f j).v=true:=by unfold bP; exact @decide_eq_true_iff _ (Classical.propDecidable _)
noncomputable def NU (f:Nat→RF) (n k:Nat):St:={env:=[(5,hL f n),(6,iv n),(7,iv k)],sto:=[]}
theorem DQ {f:Nat→RF} {n:Nat} (hn:n<1000000) (hf:∀ j,j<n→(f j).fine):zd Tryz.prog gF [hL f n] (bv (bP f n)):=by
 refine zC DJ (by simp) ?_
 simp[Rc]
 refine zl (NU f n) (fun k=>∀ j,j<k→(f j).v=true) n (by simp[NU]) (fun j hj=>by omega) (fun k hk hI=>?_) (fun hI=>?_)
 ·have e:(k:Int)<n:=by omega
  have w:=zm (k:=k) (by omega)
  simp[jU,NU,e,hk]
  refine za (ZN (hf k hk)) (by simp) (by simp) ?_
  cases hv:(f k).v with
  | true =>
   simp[w,NU]
   intro j hj
   by_cases ej:j=k
   ·subst ej; exact hv
   ·exact hI j (by omega)
  | false =>
   have:bP f n=false:=by
    cases h:bP f n with
    | false=>rfl
    | true=>have:=mq.1 h k hk; rw[hv] at this; cases this
   simp[aZ,this]
 ·have:bP f n=true:=mq.2 hI
  simp[jU,ae,aZ,NU,this]
def Jf (G:Nat→RF) (n:Nat) (A:Nat→Nat→RF) (cl:Nat→Nat) (b:Nat→RF) (m:Nat):Prop :=
 (∀ j,j<n→(G j).v=true)∧∀ i,i<m→cl i=n∧(b i).v=true∧∀ j,j<n→(A i j).v=true
noncomputable def TX (G:Nat→RF) (n:Nat) (A:Nat→Nat→RF) (cl:Nat→Nat) (b:Nat→RF) (m:Nat):Int :=
 if 160<n∨40<m then 3 else @ite _ (Jf G n A cl b m) (Classical.propDecidable _) 0 2
section
variable {G:Nat→RF} {n:Nat} {A:Nat→Nat→RF} {cl:Nat→Nat} {b:Nat→RF} {m:Nat}
theorem GP (h:160<n∨40<m):TX G n A cl b m=3:=if_pos h
theorem Rd (h:¬ (160<n∨40<m)) (hg:Jf G n A cl b m):TX G n A cl b m=0:=by unfold TX; rw[if_neg h]; exact @if_pos _ (Classical.propDecidable _) hg _ _ _
theorem dL (h:¬ (160<n∨40<m)) (hg:¬ Jf G n A cl b m):TX G n A cl b m=2:=by unfold TX; rw[if_neg h]; exact @if_neg _ (Classical.propDecidable _) hg _ _ _
noncomputable def SC (G:Nat→RF) (n:Nat) (A:Nat→Nat→RF) (cl:Nat→Nat) (b:Nat→RF) (m k:Nat):St :=
 {env:=[(1,.ptr 1 0),(20,.list 4 .plain (qR A cl b m)),(21,iv m),(22,iv k)],sto:=[(1,.var [hL G n,.list 4 .plain (qR A cl b m)])]}
theorem Cg (hn:n<1000000) (hm:m<1000000) (hc:∀ i,i<m→cl i<1000000) (hG:∀ j,j<n→(G j).fine) (hA:∀ i j,i<m→j<cl i→(A i j).fine) (hb:∀ i,i<m→(b i).fine) :
  zd Tryz.prog lq [rA G n A cl b m] (iv (TX G n A cl b m)):=by
 have kG:=DQ hn hG
 refine zC DI (by simp) ?_
 by_cases hl:160<n∨40<m
 ·rw[GP hl]
  by_cases h1:160<n
  ·have h1':(160:Int)<n:=by omega
   simp[gW,h1',tO]
  ·have h1':¬ (160:Int)<n:=by omega
   have h2':(40:Int)<m:=by omega
   simp[gW,h1',h2',tO]
 ·have h1':¬ (160:Int)<n:=by omega
  have h2':¬ (40:Int)<m:=by omega
  simp[gW,h1',h2']
  refine za kG (by simp) (by simp) ?_
  cases hv:bP G n with
  | false =>
   rw[dL hl fun hg=>by rw[mq.2 hg.1] at hv; cases hv]
   simp[tO]
  | true =>
   simp
   refine zl (SC G n A cl b m) (fun k=>∀ i,i<k→cl i=n∧(b i).v=true∧∀ j,j<n→(A i j).v=true) m (by simp[SC]) (fun j hj=>by omega) (fun k hk hI=>?_) (fun hI=>?_)
   ·have e:(k:Int)<m:=by omega
    have w:=zm (k:=k) (by omega)
    have kA:=DQ (f:=A k) (n:=cl k) (hc k hk) (fun j hj=>hA k j hk hj)
    have kb:=ZN (hb k hk)
    by_cases h3:cl k=n
    ·have kA:=kA
     rw[h3] at kA
     simp[nO,SC,e,hk,h3]
     refine za kA (by simp) (by simp) ?_
     cases hva:bP (A k) n with
     | false =>
      rw[dL hl fun hg=>by have:=hg.2 k hk; rw[mq.2 this.2.2] at hva; cases hva]
      simp[tO]
     | true =>
      simp
      refine za kb (by simp) (by simp) ?_
      cases hvb:(b k).v with
      | false =>
       rw[dL hl fun hg=>by have:=hg.2 k hk; rw[hvb] at this; cases this.2.1]
       simp[tO]
      | true =>
       simp[w,SC]
       intro i hi
       by_cases ei:i=k
       ·subst ei; exact ⟨h3,hvb,mq.1 hva⟩
       ·exact hI i (by omega)
    ·have h3':¬ (cl k:Int)=n:=by omega
     rw[dL hl fun hg=>h3 (hg.2 k hk).1]
     simp[nO,SC,e,hk,h3',tO]
   ·rw[Rd hl ⟨mq.1 hv,hI⟩]
    simp[nO,ab,tO,SC]
end
theorem afa {G:Nat→RF} {n:Nat} {A':Nat→Nat→RF} {cl:Nat→Nat} {b:Nat→RF} {m:Nat} {A:Nat→Nat→Rat} {bb gg:Nat→Rat} (hG:∀ j,j<n→G j=RF.of (gg j)) (hc:∀ i,i<m→cl i=n) (hA:∀ i j,i<m→j<n→A' i j=RF.of (A i j)) (hb:∀ i,i<m→b i=RF.of (bb i)) :
  rA G n A' cl b m=pA A bb gg n m:=by
 unfold rA pA
 rw[hL,ZM hG]
 have:qR A' cl b m=pR A bb n m:=uU fun i hi=>by rw[hc i hi,hL,ZM fun j hj=>hA i j hi hj,hb i hi,A4,A5,A6]
 rw[this]
theorem Cf {n m K:Nat} {A:Nat→Nat→Rat} {bb gg:Nat→Rat} (hn:n≤160) (hm:m≤40) (hK:K≤137438953472) (ha:∀ i j,i<m→j<n→sz K (A i j)) (hb:∀ i,i<m→sz K (bb i)) (hg:∀ j,j<n→sz K (gg j)) :
  zd Tryz.prog lq [pA A bb gg n m] (iv 0):=by
 have h:=Cg (G:=fun j=>RF.of (gg j)) (n:=n) (A:=fun i j=>RF.of (A i j)) (cl:=fun _=>n) (b:=fun i=>RF.of (bb i)) (m:=m) (by omega) (by omega) (fun _ _=>by omega) (fun j hj=>mD hK (hg j hj)) (fun i j hi hj=>mD hK (ha i j hi hj)) (fun i hi=>mD hK (hb i hi))
 rw[afa (A:=A) (bb:=bb) (gg:=gg) (fun _ _=>rfl) (fun _ _=>rfl) (fun _ _ _ _=>rfl) (fun _ _=>rfl),Rd (by omega) ⟨fun _ _=>Xi _,fun _ _=>⟨rfl,Xi _,fun _ _=>Xi _⟩⟩] at h
 exact h
@[simp] theorem afr {q:Rat} {a b c d:AV}:splice [a,b,c,d] 1 (fr q)=a::fr q:=by unfold fr; simp[splice,-mE]
open Go.Pb
def bL:Nat:=grow 20 10
theorem ZE:bL=21321045:=by decide
def b0K (fx:List Int) (i:Nat):Rat:=if fx.getD i 9=1 then 1 else 0
def b1K (fx:List Int) (X:Nat→Rat) (k i:Nat):Rat:=if fx.getD i 9=1 then 1 else if fx.getD i 9=0∧rU fx i<k then X (rU fx i) else 0
abbrev noB:AV:=.agg [bv false,bv false,z8,z8,z8,z8]
noncomputable def NH (X Y:Nat→Rat) (v:Rat) (n m:Nat):List AV:=[iv 1,f0 v,f1 v,f2 v,fL X n,fL Y m,z8]
noncomputable def XH (P:Pb) (fx:List Int) (X Y:Nat→Rat) (v:Rat) (k:Nat):St :=
 {env:=[(1,clA fx),(2,.ptr 2 0),(4,.ptr 4 0),(8,clA (ints (zK fx))),(10,.ptr 10 0),(11,.sl 44 3 0 fx.length),(45,clA fx),(46,iv fx.length),(47,iv k)],
  sto:=[(2,.var (pbC P)),(4,.var [bv false,bv false,z8,z8,z8,z8]),(10,.var (NH X Y v (zK fx).length P.rows)),(44,.arr 3 (fZ (b0K fx) k fx.length))]}
noncomputable def Gc (P:Pb) (fx:List Int) (X Y:Nat→Rat) (v:Rat) (k:Nat):St :=
 {env:=[(1,clA fx),(2,.ptr 2 0),(4,.ptr 4 0),(10,.ptr 10 0),(11,.sl 44 3 0 fx.length),(63,clA (ints (zK fx))),(64,iv (zK fx).length),(65,iv k)],
  sto:=[(2,.var (pbC P)),(4,.var [bv false,bv false,z8,z8,z8,z8]),(10,.var (NH X Y v (zK fx).length P.rows)),(44,.arr 3 (fR (b1K fx X k) fx.length))]}
@[simp] theorem aeU {v:Rat} {a x y z:AV}:zH [a,f0 v,f1 v,f2 v,x,y,z] 1 (some 3)=some (fq v):=by
 show (if 1+3≤7∧[f0 v,f1 v,f2 v].all rf=true then some (AV.agg ([f0 v,f1 v,f2 v].map strip)) else _)=_
 simp
@[simp] theorem aeS {v:Rat} {a x y:AV}:zH [a,f0 v,f1 v,f2 v,x,y] 1 (some 3)=some (fq v):=by
 show (if 1+3≤6∧[f0 v,f1 v,f2 v].all rf=true then some (AV.agg ([f0 v,f1 v,f2 v].map strip)) else _)=_
 simp
@[simp] theorem afq {v:Rat} {a b c d x y:AV}:splice [a,b,c,d,x,y] 1 (fr v)=[a,f0 v,f1 v,f2 v,x,y]:=by unfold fr; simp[splice,-mE]
@[simp] theorem ag7 {P:Pb} {l:Nat} {e:ze}:(pbC P).map (frz l e)=pbC P:=by unfold pbC; rw[xB]; rfl
section
variable {P:Pb} {fx:List Int} {X Y:Nat→Rat} {v:Rat}
theorem aah {l:List Int}:qI l=fR (fun j=>((l.getD j 0:Int):Rat)) l.length:=by
 apply List.ext_getElem?
 intro j
 by_cases h:j<l.length
 ·rw[am h]; simp[qI,h]
 ·rw[List.getElem?_eq_none (by simp; omega),List.getElem?_eq_none (by simp; omega)]
theorem abO:JQ P fx=pA (P.lA fx) (P.lB fx) (P.lG fx) (zK fx).length P.rows:=by
 unfold JQ pA fL
 have h1:qI (P.relG fx)=fR (P.lG fx) (zK fx).length:=by rw[aah,Xx]; rfl
 have h2:((List.range P.rows).map fun r=>(.list 3 .plain (qI (P.relC fx r)):AV)::fr (P.relB fx r:Int))=pR (P.lA fx) (P.lB fx) (zK fx).length P.rows:=by
  refine List.map_congr_left fun r _=>?_
  rw[aah,Xw]
  rfl
 rw[h1,h2]
theorem D8 (hn:P.cl.length≤1000) (hk:P.of.length≤1000000) (h:P.fixE fx≠0):zd Tryz.prog vV [.agg (pbC P),clA fx] (.tuple [noB,iv (P.fixE fx)]):=by
 refine zC gw (by simp) ?_
 simp[nH]
 refine za (fg (fx:=fx) hn hk) (by simp) (by simp) ?_
 simp[h,nY]
theorem RN (h:P.fixE fx=0):P.relE fx=if P.fits (P.inL fx) then 0 else 14:=by
 obtain ⟨h1,h2,h3⟩:=tG h
 unfold Pb.relE
 rw[if_neg fun h=>h h1,if_neg fun h=>h h2,if_neg fun h=>h h3]
theorem aav (hn:P.cl.length≤1000) (hk:P.of.length≤1000000) (h:P.fixE fx=0) (hf:¬ P.fits (P.inL fx)):zd Tryz.prog vV [.agg (pbC P),clA fx] (.tuple [noB,iv 0]):=by
 obtain ⟨h1,h2,h3⟩:=tG h
 have hr:=Kx (fx:=fx) hn hk (by omega)
 have he:P.relE fx=14:=by rw[RN h,if_neg hf]
 rw[he,if_neg (by decide)] at hr
 refine zC gw (by simp) ?_
 simp[nH]
 refine za (fg (fx:=fx) hn hk) (by simp) (by simp) ?_
 simp[h]
 refine za hr (by simp) (by simp) ?_
 simp[nY]
theorem Lg (hn:P.cl.length≤1000) (hk:P.of.length≤9) (h:P.fixE fx=0) (hf:P.fits (P.inL fx)) :
  ∃ X Y v,(P.Bst fx X Y v∧(∀ j,sz bL (X j))∧(∀ i,sz bL (Y i))∧sz bL v) ∧
   zd Tryz.prog vV [.agg (pbC P),clA fx] (.tuple [.agg [bv true,f0 (((P.accV fx fx.length:Int):Rat)+v),f1 (((P.accV fx fx.length:Int):Rat)+v),f2 (((P.accV fx fx.length:Int):Rat)+v),fL Y P.rows,fL (bX fx X) fx.length],iv 0]):=by
 obtain ⟨hc,hl,hok⟩:=tG h
 have hG:=uS hc
 have hrw:P.rows≤20:=by have:=hG.n; unfold Pb.rows; omega
 have hfl:(zK fx).length≤9:=by
  have:=gc (fx:=fx) (v:=0) (k:=fx.length)
  have e:(zK fx).length=(vH fx 0 fx.length).length:=rfl
  omega
 have hbL:=ZE
 have sA:∀ i j,i<P.rows→j<(zK fx).length→sz 20 (P.lA fx i j):=fun i j hi hj=>by
  rw[UF hj]
  exact zx (Q7 hG (by have:=(ZL hj).1; omega) hi) (by decide)
 have sB:∀ i,i<P.rows→sz 20 (P.lB fx i):=fun i hi=>zx (Z2 hG hl hi) (by decide)
 have sG:∀ j,j<(zK fx).length→sz 20 (P.lG fx j):=fun j hj=>by
  rw[Jn hj]
  exact Qz hG (by have:=(ZL hj).1; omega)
 have kc:=Cf (n:=(zK fx).length) (m:=P.rows) (by omega) (by omega) (by decide:20≤137438953472) sA sB sG
 obtain ⟨r,hr,hs⟩:=aca (t:=10) (.inr (by omega)) (by omega) (by omega) (by
  have:(P.rows+1)*(2*grow 20 10+1)≤21*(2*21321045+1):=Nat.mul_le_mul (by omega) (by rw[show grow 20 10=21321045 from ZE]; omega)
  rw[show grow 20 10=21321045 from ZE] at this ⊢
  omega) sA sB sG kc
 rcases hr with ⟨X,Y,v,⟨ho,hx,hy,hv⟩,rfl⟩ | ⟨y,⟨hi,_⟩,_⟩ | ⟨x,ray,⟨hu,_⟩,_⟩
 rotate_left
 ·exact (adF hf hi).elim
 ·exact (adG hG hl hu).elim
 refine ⟨X,Y,v,⟨ho,hx,hy,hv⟩,?_⟩
 have hrel:=Kx (fx:=fx) hn (by omega) (by omega)
 rw[RN h,if_pos hf,if_pos rfl,abO] at hrel
 refine zC gw (by simp) ?_
 simp[nH]
 refine za (fg (fx:=fx) hn (by omega)) (by simp) (by simp) ?_
 simp[h]
 refine za hrel (by simp) (by simp) ?_
 simp
 refine za hs (by simp) (by simp) ?_
 have hbig:(fx.length:Int)*56≤140737488355328:=by omega
 have hbig2:(fx.length:Int)≤9223372036854775807:=by omega
 simp[eMk,hbig,hbig2]
 refine zl (XH P fx X Y v) (fun _=>True) fx.length (by simp[XH,NH,← ns (f:=b0K fx)]) trivial (fun k hk' _=>?_) (fun _=>?_)
 ·have e:(k:Int)<fx.length:=by omega
  have w1:=zm (k:=k) (by omega)
  have hg:=rN hk'
  have hset:∀ q,b0K fx k=q→(fZ (b0K fx) k fx.length).set k (fr q)=fZ (b0K fx) (k+1) fx.length:=fun q hq=>by rw[← hq]; exact lO hk'
  by_cases d:fx[k]=1
  ·have hs1:=hset 1 (by unfold b0K; rw[hg,if_pos d])
   simp[s6,XH,e,hk',d]
   refine za (yE (n:=0) (by decide) (by decide)) (by simp) (by simp) ?_
   simp[e,hk']
   refine za (yE (n:=1) (by decide) (by decide)) (by simp) (by simp) ?_
   simp[e,hk',w1,XH,hs1]
  ·have hs1:=hset 0 (by unfold b0K; rw[hg,if_neg d])
   simp[s6,XH,e,hk']
   refine za (yE (n:=0) (by decide) (by decide)) (by simp) (by simp) ?_
   simp[e,hk',w1,d,XH,hs1]
 have h10:fR (b0K fx) fx.length=fR (b1K fx X 0) fx.length:=yd fun i _=>by
  unfold b0K b1K
  split
  ·rfl
  ·rw[if_neg fun h=>Nat.not_lt_zero _ h.2]
 simp[s6,XH,gN,nr,h10]
 refine zl (Gc P fx X Y v) (fun _=>True) (zK fx).length (by simp[Gc]) trivial (fun k hk' _=>?_) (fun _=>?_)
 ·have e:(k:Int)<(zK fx).length:=by omega
  have w1:=zm (k:=k) (by omega)
  have hp:=BM hk'
  have hm:=mO (List.getElem_mem hk')
  obtain ⟨i,hi⟩:∃ i,(zK fx)[k]=i:=⟨_,rfl⟩
  have hm':i<fx.length∧fx.getD i 9=0:=by rw[← hi]; exact hm
  rw[hi] at hp
  have ei:(i:Int)<fx.length:=by omega
  have hset:(fR (b1K fx X k) fx.length).set i (fr (X k))=fR (b1K fx X (k+1)) fx.length:=by
   rw[uF]
   refine yd fun j hj=>?_
   unfold upd
   by_cases h2:j=i
   ·subst h2
    rw[if_pos rfl]
    unfold b1K
    rw[if_neg (by omega),if_pos ⟨hm'.2,by omega⟩,hp]
   ·rw[if_neg h2]
    unfold b1K
    by_cases h3:fx.getD j 9=1
    ·rw[if_pos h3,if_pos h3]
    ·rw[if_neg h3,if_neg h3]
     by_cases h4:fx.getD j 9=0
     ·have hne:rU fx j≠k:=fun h5=>by
       have q1:=j3 (fx:=fx) h4 hj
       rw[h5,List.getElem?_eq_getElem hk',hi] at q1
       cases q1; exact h2 rfl
      by_cases h5:rU fx j<k
      ·rw[if_pos ⟨h4,h5⟩,if_pos ⟨h4,by omega⟩]
      ·rw[if_neg fun h=>h5 h.2,if_neg fun h=>h5 (by omega)]
     ·rw[if_neg fun h=>h4 h.1,if_neg fun h=>h4 h.1]
  simp[nI,Gc,NH,e,hk',hi,FE,ei,hm'.1,w1,hset]
 have h1X:fR (b1K fx X (zK fx).length) fx.length=fR (bX fx X) fx.length:=yd fun i hi=>by
  unfold b1K bX
  split
  ·rfl
  ·split
   ·rename_i h
    rw[if_pos h.1]
   ·rename_i h1 h
    by_cases h0:fx.getD i 9=0
    ·exact absurd ⟨h0,(List.getElem?_eq_some_iff.1 (j3 h0 hi)).1⟩ h
    ·rw[if_neg h0]
 simp[nI,Gc,gM,h1X]
 simp[y8,NH,t7]
 refine za (X2 (fx:=fx) hG hl) (by simp) (by simp) ?_
 simp
 refine za (X3 (K:=30000000) (by decide) (zx (QG hG hl) (by decide)) (zx hv (by rw[show grow 20 10=21321045 from ZE]; decide))) (by simp) (by simp) ?_
 simp[nY]
end
noncomputable def XO (P:Pb) (ch:List Int) (k:Nat):St:={env:=[(1,clA ch),(2,.ptr 2 0),(6,apc 55 8 (ofR (P.pick (ch.take k)))),(7,iv k)],sto:=[(2,.var (pbC P))]}
section
variable {P:Pb} {ch:List Int}
theorem EQ (hk:P.of.length≤1000000) (ok:okP P.of.length ch):zd Tryz.prog mo [.agg (pbC P),clA ch] (.tuple [ofA (P.pick ch),bv true]):=by
 have hl:=Kc ok
 refine wR SZ (by simp) ?_
 simp[eQ]
 have h0:apc 55 8 (ofR (P.pick (ch.take 0)))=.list 0 .full []:=by rw[List.take_zero]; exact Lc rfl
 refine zl (XO P ch) (fun _=>True) ch.length (by simp[XO,Pb.pick,ofR,apc]) trivial (fun k hk' _=>?_) (fun _=>?_)
 ·have e:(k:Int)<ch.length:=by omega
  have w1:=zm (k:=k) (by omega)
  have hg:=getD_lt hk'
  have d:=ok k hk'
  obtain ⟨b,hb,hbn⟩:=Kb (fun q hq=>ok q (by omega)) d
  rw[hg] at hb
  unfold okI at d
  rw[hg,hb] at d
  have b0:¬ (b:Int)<0:=by omega
  have b2:(b:Int)<P.of.length:=by omega
  have b3:¬ (P.of.length:Int)≤b:=by omega
  have hat:P.of[b]=P.at ch[k]:=by rw[hb,aeu hbn]
  have hro:ofR (P.pick (ch.take k))++[oC P.of[b]]=ofR (P.pick (ch.take (k+1))):=by rw[Et hk',L8,hat]; rfl
  by_cases hz:0<k
  ·obtain ⟨q,hq⟩:∃ q:Nat,k-1=q:=⟨_,rfl⟩
   have hql:q<ch.length:=by omega
   have hgq:=getD_lt hql
   have hpv:prv ch k=ch[q]:=by
    rw[show k=q+1 by omega]
    exact hgq
   rw[hpv] at d
   have w2:IntKind.i64.wrap ((k:Int)-1)=(q:Int):=by rw[wrap64]<;>omega
   have c1:¬ (b:Int)≤ch[q]:=by omega
   have eq':(q:Int)<ch.length:=by omega
   simp[uY,XO,e,hk',hb,b0,b2,b3,hbn,hz,w2,hql,eq',c1]
   refine sK (by decide) rfl ?_ ?_ (by simp) ?_
   ·simp only[jm,gd,List.length_take]; omega
   ·simp only[jm,gd,List.length_take]; omega
   ·rw[hro]
    simp[w1,XO]
  ·simp[uY,XO,e,hk',hb,b0,b2,b3,hbn,hz]
   refine sK (by decide) rfl ?_ ?_ (by simp) ?_
   ·simp only[jm,gd,List.length_take]; omega
   ·simp only[jm,gd,List.length_take]; omega
   ·rw[hro]
    simp[w1,XO]
 ·simp[uY,XO,kM,dc]
  exact AV.imp_tuple2 (qy tJ)
theorem MQ (hn:P.cl.length≤1000) (hk:P.of.length≤1000000) (hc:P.chk=0) (ok:okP P.of.length ch):zd Tryz.prog pH [.agg (pbC P),clA ch] (iv (if P.fits (P.pick ch) then 0 else 14)):=by
 have hl:=Kc ok
 refine zC XS (by simp) ?_
 simp[jQ]
 refine za (Xu hn hk) (by simp) (by simp) ?_
 simp[hc]
 refine za (EQ hk ok) (by simp) (by simp) ?_
 have hG:=uS hc
 have hm:=BJ ok
 have hP:∀ o∈P.pick ch,P.offE o=0:=fun o ho=>hG.off o (hm o ho)
 simp
 refine za (Kz (P:=P) (L:=P.pick ch) hn (by rw[gd]; have:=hG.k; omega) (fun o ho=>(xC (yU (hP o ho)).1).1) (fun o ho=>(xC (yU (hP o ho)).1).2.2)) (by simp) (by simp) ?_
 by_cases c3:P.fits (P.pick ch)
 ·simp[c3,pU]
 ·simp[c3,pU]
end
abbrev tyB:Ty:=.arr 6 (.int .i64)
abbrev Gt:Ty:=.st [.int .i64,tyB,.int .i64]
abbrev AW:Ty:=.st [tyB,tyB,tyB,.slice (.int .i64),.slice Gt]
theorem Ua {cs:List AV} (h:TyC tyB cs):∃ w:Nat→Int,cs=bC w:=by
 obtain ⟨rows,rfl,hl,h⟩:=h
 obtain ⟨L,rfl,_⟩:=cA (fun n:Int=>[iv n]) (fun _=>True) (fun r hr=>by
  obtain ⟨n,rfl,_⟩:=hr
  exact ⟨n,rfl,trivial⟩) h
 refine ⟨fun k=>L.getD k 0,?_⟩
 match L,hl with
 | [a,b,c,d,e,f],_=>rw[vN]; rfl
theorem Bm {cs:List AV} (h:TyC Gt cs):∃ o:Of,cs=oC o:=by
 obtain ⟨a1,b1,rfl,⟨n,rfl,_⟩,a2,b2,rfl,h2,a3,b3,rfl,⟨v,rfl,_⟩,rfl⟩:=h
 obtain ⟨w,rfl⟩:=Ua h2
 exact ⟨⟨n,w,v⟩,by rw[rc,vN]; rfl⟩
theorem LU {cs:List AV} (h:TyC (.slice (.int .i64)) cs):∃ l:List Int,cs=[clA l]∧l.length≤reachBytes:=by
 obtain ⟨rows,rfl,hl,h⟩:=h
 obtain ⟨L,rfl,h2⟩:=cA (fun d:Int=>[iv d]) (fun _=>True) (fun r hr=>by
  obtain ⟨n,rfl,_⟩:=hr
  exact ⟨n,rfl,trivial⟩) h
 exact ⟨L,rfl,by simpa using hl⟩
theorem abt {cs:List AV} (h:TyC (.slice Gt) cs):∃ L:List Of,cs=[ofA L]∧L.length≤reachBytes:=by
 obtain ⟨rows,rfl,hl,h⟩:=h
 obtain ⟨L,rfl,h2⟩:=cA oC (fun _=>True) (fun r hr=>by
  obtain ⟨o,rfl⟩:=Bm hr
  exact ⟨o,rfl,trivial⟩) h
 exact ⟨L,rfl,by simpa using hl⟩
theorem abH {x:AV} (h:QC AW x):∃ P:Pb,x=.agg (pbC P)∧P.cl.length≤reachBytes∧P.of.length≤reachBytes:=by
 obtain ⟨cs,rfl,a1,b1,rfl,h1,a2,b2,rfl,h2,a3,b3,rfl,h3,a4,b4,rfl,h4,a5,b5,rfl,h5,rfl⟩:=h
 obtain ⟨s,rfl⟩:=Ua h1
 obtain ⟨p,rfl⟩:=Ua h2
 obtain ⟨c,rfl⟩:=Ua h3
 obtain ⟨l,rfl,hl⟩:=LU h4
 obtain ⟨L,rfl,hL⟩:=abt h5
 refine ⟨⟨s,p,c,l,L⟩,?_,hl,hL⟩
 congr 1
 unfold pbC pbX
 simp
noncomputable def SE (fx:List Int) (k:Nat):St:={env:=[(1,clA fx),(6,iv k)],sto:=[]}
section
variable {P:Pb} {fx:List Int} {k:Nat}
theorem Xz (hn:P.cl.length≤1000) (hk:P.of.length≤1000000):zd Tryz.prog su [.agg (pbC P),clA fx] (iv (P.fixE fx)):=by
 refine zC Ql (by simp) ?_
 simp[bh]
 refine za (Xu hn hk) (by simp) (by simp) ?_
 unfold Pb.fixE
 by_cases c1:P.chk=0
 ·rw[if_neg fun h=>h c1]
  by_cases c2:fx.length=P.of.length
  ·have c2':(fx.length:Int)=P.of.length:=by omega
   rw[if_neg fun h=>h c2]
   simp[c1,c2']
   refine zl (SE fx) (fun k=>∀ q,q<k→okX fx q) fx.length (by simp[SE]) (fun q hq=>by omega) (fun k hk' hI=>?_) (fun hI=>?_)
   ·have e:(k:Int)<P.of.length:=by omega
    have w1:=zm (k:=k) (by omega)
    have hg:=rN hk'
    by_cases d1:fx[k] < -1
    ·have hf:¬ okF fx:=fun h=>((jn hg).1 (h k hk')).1 d1
     simp[ua,SE,c2',e,hk',d1,hf,uu]
    ·by_cases d2:1<fx[k]
     ·have hf:¬ okF fx:=fun h=>((jn hg).1 (h k hk')).2 d2
      simp[ua,SE,c2',e,hk',d1,d2,hf,uu]
     ·simp[ua,SE,c2',e,hk',d1,d2,w1]
      exact fun q hq=>by
       by_cases eq:q=k
       ·subst eq; exact (jn hg).2 ⟨d1,d2⟩
       ·exact hI q (by omega)
   ·have hf:okF fx:=hI
    simp[ua,SE,c2',hf,jS,uu]
  ·have c2':¬ (fx.length:Int)=P.of.length:=by omega
   rw[if_pos c2]
   simp[c1,c2',uu]
 ·rw[if_pos c1]
  simp[c1,uu]
end
noncomputable def cH (P:Pb) (fx:List Int) (Y:Nat→RF) (m k:Nat):St :=
 {env:=[(1,clA fx),(2,hL Y m),(3,.ptr 3 0),(6,.ptr 6 0),(35,hL Y m),(36,iv m),(37,iv k)],sto:=[(3,.var (pbC P)),(6,.var zz)]}
noncomputable def Tk (P:Pb) (fx:List Int) (y:Nat→Rat) (m k:Nat):St :=
 {env:=[(1,clA fx),(2,fL y m),(3,.ptr 3 0),(6,.ptr 6 0),(11,.ptr 11 0),(12,.sl 55 3 0 fx.length),(57,iv fx.length),(58,iv k)],
  sto:=[(3,.var (pbC P)),(6,.var zz),(11,.var (fr ((P.accV fx fx.length:Int):Rat))),(55,.arr 3 (fZ P.vQ k fx.length))]}
noncomputable def cI (P:Pb) (fx:List Int) (y:Nat→Rat) (m k:Nat):St :=
 {env:=[(1,clA fx),(3,.ptr 3 0),(6,.ptr 6 0),(11,.ptr 11 0),(12,.sl 55 3 0 fx.length),(72,fL y m),(73,iv m),(74,iv k)],
  sto:=[(3,.var (pbC P)),(6,.var zz),(11,.var (fr (P.bdQ fx y k))),(55,.arr 3 (fR (P.exP fx y k) fx.length))]}
noncomputable def fD (P:Pb) (fx:List Int) (y:Nat→Rat) (m r k:Nat):St :=
 {env:=[(1,clA fx),(3,.ptr 3 0),(6,.ptr 6 0),(11,.ptr 11 0),(12,.sl 55 3 0 fx.length),(72,fL y m),(73,iv m),(74,iv r),(15,.ptr 15 0),(17,iv (P.bnd r-((P.inK fx k).map (P.coef r)).sum)),(88,clA (vO P r)),(89,iv fx.length),(90,iv k)],
  sto:=[(3,.var (pbC P)),(6,.var zz),(11,.var (fr (P.bdQ fx y r))),(55,.arr 3 (fR (P.exM fx y r k) fx.length)),(15,.var (fr (y r)))]}
noncomputable def fE (P:Pb) (fx:List Int) (y:Nat→Rat) (k:Nat):St :=
 {env:=[(6,.ptr 6 0),(11,.ptr 11 0),(12,.sl 55 3 0 fx.length),(133,clA fx),(134,iv fx.length),(135,iv k)],
  sto:=[(6,.var zz),(11,.var (fr (P.bdQ fx y P.rows+P.adQ fx y P.rows k))),(55,.arr 3 (fR (P.exP fx y P.rows) fx.length))]}
section
variable {P:Pb} {fx:List Int} {Y:Nat→RF} {m S:Nat}
theorem PJ {r k:Nat}:((P.inK fx (k+1)).map (P.coef r)).sum=if fx.getD k 9=1 then ((P.inK fx k).map (P.coef r)).sum+P.coef r (P.at (k:Int)) else ((P.inK fx k).map (P.coef r)).sum:=by
 unfold Pb.inK
 rw[tK]
 split
 ·simp
 ·rfl
theorem Pw (hn:P.cl.length≤1000) (hk:P.of.length≤1000000) (hS:S≤10000) (hm:m<1000000) (hf:∀ r,r<m→(Y r).fine) (hy:∀ r,r<m→sz S (Y r).q) :
  zd Tryz.prog uw [.agg (pbC P),clA fx,hL Y m] (.tuple [if fpE P fx Y m=0 then fq (P.fpQ fx fun r=>(Y r).q) else zfr,iv (fpE P fx Y m)]):=by
 refine zC Zp (by simp) ?_
 simp[lr]
 refine za (fg (fx:=fx) hn hk) (by simp) (by simp) ?_
 by_cases c1:P.fixE fx=0
 rotate_left
 ·have he:fpE P fx Y m=P.fixE fx:=if_pos c1
  rw[he,if_neg c1]
  simp[c1,wd]
 obtain ⟨hc,hl,hok⟩:=tG c1
 have hG:=uS hc
 have hrows:=KD hn hk
 rw[show y6 P=P.rows by unfold y6; rw[if_pos hc]] at hrows
 simp[c1]
 refine za hrows (by simp) (by simp) ?_
 by_cases c2:m=P.rows
 rotate_left
 ·have c2':¬ (m:Int)=P.rows:=by omega
  have he:fpE P fx Y m=3:=by unfold fpE; rw[if_neg fun h=>h c1,if_pos c2]
  rw[he]
  simp[c2',wd]
 have he:fpE P fx Y m=prE Y m:=by unfold fpE; rw[if_neg fun h=>h c1,if_neg fun h=>h c2]
 rw[he]
 have c2':(m:Int)=P.rows:=by omega
 simp[c2']
 refine zl (cH P fx Y m) (kV Y) m (by simp[cH,c2']) (fun q hq=>by omega) (fun k hk' hI=>?_) (fun hI=>?_)
 ·have e:(k:Int)<P.rows:=by omega
  have w1:=zm (k:=k) (by omega)
  have kv:=ZN (hf k hk')
  cases hv:(Y k).v with
  | false =>
   rw[hv] at kv
   rw[aaf hI hv hk']
   simp[x7,cH,c2',e,hk']
   refine za kv (by simp) (by simp) ?_
   simp[wd]
  | true =>
   rw[hv] at kv
   have hq:=Nc hv
   have hrq:hr (Y k)=fr (Y k).q:=by rw[← UD,← hq]
   have ks:=vf (q:=(Y k).q)
   have hsn:=afm hv
   cases hs:(Y k).s with
   | true =>
    rw[aae hI hv hs hk']
    rw[hs] at hsn
    have hlt:(Y k).q<0:=of_decide_eq_true hsn.symm
    have h1:=pV.2 hlt
    simp[x7,cH,c2',e,hk']
    refine za kv (by simp) (by simp) ?_
    simp[hrq]
    refine za ks (by simp) (by simp) ?_
    simp[h1,wd]
   | false =>
    rw[hs] at hsn
    have hlt:¬ (Y k).q<0:=of_decide_eq_false hsn.symm
    have h1:¬ yN (Y k).q<0:=fun h=>hlt (pV.1 h)
    simp[x7,cH,c2',e,hk']
    refine za kv (by simp) (by simp) ?_
    simp[hrq]
    refine za ks (by simp) (by simp) ?_
    simp[h1,w1,cH,c2']
    exact UB hI hv hs
 rw[pT hI,if_pos rfl]
 obtain ⟨y,hyd⟩:∃ y:Nat→Rat,(fun r=>(Y r).q)=y:=⟨_,rfl⟩
 have hyr:∀ r,(Y r).q=y r:=fun r=>by rw[← hyd]
 rw[hyd]
 have hYL:hR Y m=fR y m:=ZM fun r hr=>by rw[← hyr,← Nc (hI r hr).1]
 have hy':∀ r,r<P.rows→sz S (y r):=fun r hr=>by rw[← hyr]; exact hy r (by omega)
 subst c2
 clear hI hyd hyr hy hf c2'
 have hrw:P.rows≤20:=by have:=hG.n; unfold Pb.rows; omega
 have hkk:=hG.k
 have Rm:∀ R,R≤P.rows→R*(S+11)≤20*10011:=fun R hR=>Nat.mul_le_mul (by omega) (by omega)
 have Rm3:∀ R,R≤P.rows→R*(S+3)≤20*10003:=fun R hR=>Nat.mul_le_mul (by omega) (by omega)
 have szE:∀ R i,R≤P.rows→i<P.of.length→sz 300000 (P.exP fx y R i):=fun R i hR hi=>by
  unfold Pb.exP
  split
  ·exact zx (Uy hG hi hy' R hR) (by have:=Rm3 R hR; omega)
  ·exact zx (Qz hG hi) (by omega)
 have szB:∀ R,R≤P.rows→sz 300000 (P.bdQ fx y R):=fun R hR=>zx (KO hG hl hy' R hR) (by have:=Rm R hR; omega)
 have szA:∀ k,k≤fx.length→sz 60000000 (P.adQ fx y P.rows k):=fun k hk=>zx (KK hG hl hy' k hk) (by
  have h1:=Rm3 P.rows (Nat.le_refl _)
  have h2:k*(21+P.rows*(S+3))≤160*(21+20*10003):=Nat.mul_le_mul (by omega) (by omega)
  omega)
 simp[x7,cH,qV]
 refine za (X2 (fx:=fx) hG hl) (by simp) (by simp) ?_
 have hbig:(fx.length:Int)*56≤140737488355328:=by omega
 have hbig2:(fx.length:Int)≤9223372036854775807:=by omega
 simp[eMk,hbig,hbig2]
 refine zl (Tk P fx y P.rows) (fun _=>True) fx.length (by simp[Tk,hYL,← ns (f:=P.vQ)]) trivial (fun k hk' _=>?_) (fun _=>?_)
 ·have e:(k:Int)<fx.length:=by omega
  have hko:k<P.of.length:=by omega
  have hko':(k:Int)<P.of.length:=by omega
  have w1:=zm (k:=k) (by omega)
  have hv:=(xC (yU (hG.off _ (at_mem hko))).1).2.1
  rw[wI hko] at hv
  have hset:(fZ P.vQ k fx.length).set k (fr ((P.of[k].v:Int):Rat))=fZ P.vQ (k+1) fx.length:=by
   rw[← lO hk']
   congr 2
   unfold Pb.vQ
   rw[wI hko]
  simp[tj,Tk,e,hko,hko']
  refine za (yE (n:=P.of[k].v) (by omega) (by omega)) (by simp) (by simp) ?_
  simp[e,hk',w1,Tk,hset]
 have hx0:fR P.vQ fx.length=fR (P.exP fx y 0) fx.length:=yd fun i hi=>by
  unfold Pb.exP Pb.exc
  have:zg 0 (fun r=>y r*P.cof r i)=0:=rfl
  rw[this]
  split<;>grind
 have hb0:fr ((P.accV fx fx.length:Int):Rat)=fr (P.bdQ fx y 0):=by
  congr 1
  unfold Pb.bdQ
  have:zg 0 (fun r=>y r*((P.relB fx r:Int):Rat))=0:=rfl
  rw[this]; grind
 simp[tj,Tk,ne,nr,hx0,hb0]
 refine zl (cI P fx y P.rows) (fun _=>True) P.rows (by simp[cI]) trivial (fun r hr _=>?_) (fun _=>?_)
 ·have e:(r:Int)<P.rows:=by omega
  have w1:=zm (k:=r) (by omega)
  have hrow:=afl (P:=P) (r:=(r:Int)) hn hk
  have e0:(0:Int)≤r∧(r:Int)<(y6 P:Nat):=by unfold y6; rw[if_pos hc]; omega
  unfold XC at hrow
  rw[if_pos e0,if_pos e0,Int.toNat_natCast] at hrow
  have hbd:P.bdQ fx y (r+1)=P.bdQ fx y r+y r*((P.relB fx r:Int):Rat):=by unfold Pb.bdQ; simp only[zg]; grind
  have hex:∀ i,P.exc y (r+1) i=P.exc y r i-y r*P.cof r i:=fun i=>by unfold Pb.exc; simp only[zg]; grind
  by_cases z:y r=0
  ·have z0:yN (y r)=0:=wH.2 z
   have hb1:P.bdQ fx y (r+1)=P.bdQ fx y r:=by rw[hbd,z]; grind
   have hx1:fR (P.exP fx y r) fx.length=fR (P.exP fx y (r+1)) fx.length:=yd fun i hi=>by
    unfold Pb.exP
    rw[hex,z]
    split<;>grind
   simp[vo,cI,e,hr]
   refine za (vf (q:=y r)) (by simp) (by simp) ?_
   simp[z0,ti,w1,cI,hb1,hx1]
  ·have z0:¬ yN (y r)=0:=fun h=>z (wH.1 h)
   simp[vo,cI,e,hr]
   refine za (vf (q:=y r)) (by simp) (by simp) ?_
   simp[z0]
   refine za hrow (by simp) (by simp) ?_
   simp
   have hM0:fR (P.exM fx y r 0) P.of.length=fR (P.exP fx y r) P.of.length:=yd fun i _=>if_neg (Nat.not_lt_zero i)
   refine zl (fD P fx y P.rows r) (fun _=>True) fx.length (by simp[fD,Pb.inK,fp,hl,hM0]) trivial (fun k hk' _=>?_) (fun _=>?_)
   ·have e2:(k:Int)<fx.length:=by omega
    have hko:k<P.of.length:=by omega
    have hko':(k:Int)<P.of.length:=by omega
    have w2:=zm (k:=k) (by omega)
    have hg:=rN hk'
    have hcl:k<(clR (vO P r)).length:=by simpa using hko
    have hrl:(clR (vO P r))[k]=[iv (P.coef r P.of[k])]:=by simp[clR,vO]
    have hcf:=uq (xC (yU (hG.off _ (at_mem hko))).1).2.2 hr
    have hin:=PJ (P:=P) (fx:=fx) (r:=r) (k:=k)
    have hs1:=jW (fx:=fx) hG hr k (by omega)
    have hbo:=eH hG hr
    rw[hg] at hin
    have hck:P.cof r k=((P.coef r P.of[k]:Int):Rat):=by unfold Pb.cof; rw[wI hko]
    rw[wI hko] at hin hcf
    have keep:(fx[k]=0→P.coef r P.of[k]=0)→fR (P.exM fx y r k) fx.length=fR (P.exM fx y r (k+1)) fx.length:=fun h=>yd fun i hi=>by
     unfold Pb.exM
     by_cases h1:i<k
     ·rw[if_pos h1,if_pos (by omega)]
     ·rw[if_neg h1]
      by_cases h2:i=k
      ·subst h2
       rw[if_pos (by omega)]
       unfold Pb.exP
       rw[hex,hck,hg]
       by_cases h3:fx[i]=0
       ·rw[if_pos h3,if_pos h3,h h3]; grind
       ·rw[if_neg h3,if_neg h3]
      ·rw[if_neg (by omega)]
    obtain ⟨A,hA⟩:∃ A,((P.inK fx k).map (P.coef r)).sum=A:=⟨_,rfl⟩
    obtain ⟨c,hcc⟩:∃ c,P.coef r P.of[k]=c:=⟨_,rfl⟩
    rw[hA] at hin hs1
    rw[hcc] at hin hcf keep hrl hck
    by_cases d0:c=0
    ·subst d0
     have hin':((P.inK fx (k+1)).map (P.coef r)).sum=A:=by rw[hin]; split<;>omega
     have kp:=keep fun _=>rfl
     simp[-y9,xr,fD,e2,xY hcl,hrl,hA,w2,hin',kp]
    ·by_cases d1:fx[k]=1
     ·rw[if_pos d1] at hin
      have kp:=keep fun h=>by rw[d1] at h; cases h
      have w3:IntKind.i64.wrap (P.bnd r-A-c)=P.bnd r-(A+c):=by rw[wrap64]<;>omega
      have hgx:k<(clR fx).length:=by simpa using hk'
      have hgc:(clR fx)[k]=[iv 1]:=by simp[clR,d1]
      simp[-y9,xr,fD,e2,xY hcl,xY hgx,hgc,hrl,hA,d0,w2,w3,hin,kp]
     ·rw[if_neg d1] at hin
      have hgx:k<(clR fx).length:=by simpa using hk'
      have hgc:(clR fx)[k]=[iv fx[k]]:=by simp[clR]
      by_cases d2:fx[k]=0
      ·have hset:(fR (P.exM fx y r k) fx.length).set k (fr (P.exM fx y r k k-y r*((c:Int):Rat)))=fR (P.exM fx y r (k+1)) fx.length:=by
        rw[uF]
        refine yd fun i hi=>?_
        unfold upd
        by_cases h2:i=k
        ·subst h2
         rw[if_pos rfl]
         have hg0:fx.getD i 9=0:=by rw[hg]; exact d2
         have l1:¬ i<i:=by omega
         have l2:i<i+1:=by omega
         unfold Pb.exM Pb.exP
         rw[if_neg l1,if_pos l2,if_pos hg0,if_pos hg0,hex,hck]
        ·rw[if_neg h2]
         unfold Pb.exM
         by_cases h1:i<k
         ·rw[if_pos h1,if_pos (by omega)]
         ·rw[if_neg h1,if_neg (by omega)]
       have s1:sz 300000 (P.exM fx y r k k):=by
        unfold Pb.exM; rw[if_neg (by omega)]; exact szE r k (by omega) hko
       have s2:sz 2 ((c:Int):Rat):=uL (by omega)
       have s3:sz 300000 (y r*((c:Int):Rat)):=zx (yg (hy' r hr) s2) (by omega)
       simp[-y9,xr,fD,e2,xY hcl,xY hgx,hgc,hrl,hA,d0,d2]
       simp[e2,hk']
       refine za (yE (n:=c) (by omega) (by omega)) (by simp) (by simp) ?_
       simp
       refine za (k6 (K:=300000) (by decide) (zx (hy' r hr) (by omega)) (zx s2 (by decide))) (by simp) (by simp) ?_
       simp
       refine za (Tu (K:=300000) (by decide) s1 s3) (by simp) (by simp) ?_
       simp[e2,hk',w2,fD,hset,hin]
      ·have kp:=keep fun h=>absurd h d2
       simp[-y9,xr,fD,e2,xY hcl,xY hgx,hgc,hrl,hA,d0,d1,d2,w2,hin,kp]
   ·have hrb:=Z2 hG hl hr
    have hM1:fR (P.exM fx y r fx.length) fx.length=fR (P.exP fx y (r+1)) fx.length:=yd fun i hi=>if_pos hi
    have h1:=jW (fx:=fx) hG hr fx.length (by omega)
    have h2:=eH hG hr
    have hB:P.bnd r-((P.inK fx fx.length).map (P.coef r)).sum=P.relB fx r:=rfl
    have hB1:-9223372036854775808≤P.relB fx r∧P.relB fx r<9223372036854775808:=by rw[← hB]; omega
    simp[xr,fD,na,hM1,hB]
    refine za (yE (n:=P.relB fx r) hB1.1 hB1.2) (by simp) (by simp) ?_
    simp
    refine za (k6 (K:=300000) (by decide) (zx (hy' r hr) (by omega)) (zx hrb (by decide))) (by simp) (by simp) ?_
    simp
    refine za (X3 (K:=300000) (by decide) (szB r (by omega)) (zx (yg (hy' r hr) hrb) (by omega))) (by simp) (by simp) ?_
    simp[ti,w1,cI,hbd]
 have ha0:P.bdQ fx y P.rows=P.bdQ fx y P.rows+P.adQ fx y P.rows 0:=by
  have:P.adQ fx y P.rows 0=0:=rfl
  rw[this]; grind
 have hfr0:fr (P.bdQ fx y P.rows)=fr (P.bdQ fx y P.rows+P.adQ fx y P.rows 0):=congrArg fr ha0
 simp[vo,cI,nd]
 refine zl (fE P fx y) (fun _=>True) fx.length (by simp[fE,← hfr0]) trivial (fun k hk' _=>?_) (fun _=>?_)
 ·have e:(k:Int)<fx.length:=by omega
  have w1:=zm (k:=k) (by omega)
  have hg:=rN hk'
  have had:P.adQ fx y P.rows (k+1)=P.adQ fx y P.rows k+(if fx.getD k 9=0∧0<P.exc y P.rows k then P.exc y P.rows k else 0):=rfl
  have s1:sz 70000000 (P.bdQ fx y P.rows+P.adQ fx y P.rows k):=zx (r4 (szB _ (Nat.le_refl _)) (szA k (by omega))) (by decide)
  have s2:=szE P.rows k (Nat.le_refl _) (by omega)
  rw[hg] at had
  by_cases d:fx[k]=0
  ·have hx:P.exP fx y P.rows k=P.exc y P.rows k:=if_pos (by rw[hg]; exact d)
   rw[hx] at s2
   by_cases hp:0<P.exc y P.rows k
   ·rw[if_pos ⟨d,hp⟩] at had
    have hsg:=sh.2 hp
    have hsum:P.bdQ fx y P.rows+P.adQ fx y P.rows k+P.exc y P.rows k=P.bdQ fx y P.rows+P.adQ fx y P.rows (k+1):=by rw[had]; grind
    simp[x8,fE,e,hk',d,hx]
    refine za (vf (q:=P.exc y P.rows k)) (by simp) (by simp) ?_
    simp[hsg,e,hk',hx]
    refine za (X3 (K:=70000000) (by decide) s1 (zx s2 (by decide))) (by simp) (by simp) ?_
    simp[w1,fE,hsum]
   ·rw[if_neg fun h=>hp h.2] at had
    have hsg:¬ 0<yN (P.exc y P.rows k):=fun h=>hp (sh.1 h)
    have hsum:P.adQ fx y P.rows (k+1)=P.adQ fx y P.rows k:=by rw[had]; grind
    simp[x8,fE,e,hk',d,hx]
    refine za (vf (q:=P.exc y P.rows k)) (by simp) (by simp) ?_
    simp[hsg,w1,fE,hsum]
  ·rw[if_neg fun h=>d h.1] at had
   have hsum:P.adQ fx y P.rows (k+1)=P.adQ fx y P.rows k:=by rw[had]; grind
   simp[x8,fE,e,hk',d,w1,hsum]
 have hfp:P.bdQ fx y P.rows+P.adQ fx y P.rows fx.length=P.fpQ fx y:=rfl
 simp[x8,fE,nc,hfp,wd]
end
def exN (P:Pb) (y:Nat→Rat) (r k i:Nat):Rat:=if i<k then P.exc y (r+1) i else P.exc y r i
noncomputable def cN (P:Pb) (fx:List Int) (Y:Nat→RF) (m k:Nat):St :=
 {env:=[(1,clA fx),(2,hL Y m),(3,.ptr 3 0),(6,.ptr 6 0),(9,iv m),(10,iv k)],sto:=[(3,.var (pbC P)),(6,.var zz)]}
noncomputable def fF (P:Pb) (fx:List Int) (y:Nat→Rat) (m k:Nat):St :=
 {env:=[(1,clA fx),(2,fL y m),(3,.ptr 3 0),(6,.ptr 6 0),(9,iv m),(11,.ptr 11 0),(12,.us 67 3 0 k),(13,iv k)],
  sto:=[(3,.var (pbC P)),(6,.var zz),(11,.var (fr ((P.accV fx k:Int):Rat))),(67,.uarr 3 (fR P.vQ k))]}
noncomputable def Tl (P:Pb) (fx:List Int) (y:Nat→Rat) (m k:Nat):St :=
 {env:=[(1,clA fx),(2,fL y m),(3,.ptr 3 0),(6,.ptr 6 0),(9,iv m),(11,.ptr 11 0),(12,.us 67 3 0 fx.length),(14,iv k)],
  sto:=[(3,.var (pbC P)),(6,.var zz),(11,.var (fr (P.bdQ fx y k))),(67,.uarr 3 (fR (P.exc y k) fx.length))]}
noncomputable def cO (P:Pb) (fx:List Int) (y:Nat→Rat) (m r k:Nat):St :=
 {env:=[(1,clA fx),(2,fL y m),(3,.ptr 3 0),(6,.ptr 6 0),(9,iv m),(11,.ptr 11 0),(12,.us 67 3 0 fx.length),(14,iv r),(15,clA (vO P r)),(16,iv (P.bnd r-((P.inK fx k).map (P.coef r)).sum)),(17,iv k)],
  sto:=[(3,.var (pbC P)),(6,.var zz),(11,.var (fr (P.bdQ fx y r))),(67,.uarr 3 (fR (exN P y r k) fx.length))]}
noncomputable def fG (P:Pb) (fx:List Int) (y:Nat→Rat) (k:Nat):St :=
 {env:=[(1,clA fx),(6,.ptr 6 0),(11,.ptr 11 0),(12,.us 67 3 0 fx.length),(18,iv k)],
  sto:=[(6,.var zz),(11,.var (fr (P.bdQ fx y P.rows+P.adQ fx y P.rows k))),(67,.uarr 3 (fR (P.exc y P.rows) fx.length))]}
@[simp] theorem aiA {x:RF} {h:0<(hr x).length}:(hr x)[0]=h0 x:=rfl
section
variable {P:Pb} {fx:List Int} {Y:Nat→RF} {m S:Nat}
theorem R8 (hn:P.cl.length≤1000) (hk:P.of.length≤1000000) (hS:S≤22000000) (hm:m<1000000) (hf:∀ r,r<m→(Y r).fine) (hy:∀ r,r<m→sz S (Y r).q) :
  zd Tryz.prog rm [.agg (pbC P),clA fx,hL Y m] (.tuple [if fpE P fx Y m=0 then fq (P.fpQ fx fun r=>(Y r).q) else zfr,iv (fpE P fx Y m)]):=by
 refine zC Zq (by simp) ?_
 simp[lI]
 refine za (Xz (fx:=fx) hn hk) (by simp) (by simp) ?_
 by_cases c1:P.fixE fx=0
 rotate_left
 ·have he:fpE P fx Y m=P.fixE fx:=if_pos c1
  rw[he,if_neg c1]
  simp[c1,we]
 obtain ⟨hc,hl,hok⟩:=tG c1
 have hG:=uS hc
 have hrows:=Sw hn hk
 rw[show y6 P=P.rows by unfold y6; rw[if_pos hc]] at hrows
 simp[c1]
 refine za hrows (by simp) (by simp) ?_
 by_cases c2:m=P.rows
 rotate_left
 ·have c2':¬ (m:Int)=P.rows:=by omega
  have he:fpE P fx Y m=3:=by unfold fpE; rw[if_neg fun h=>h c1,if_pos c2]
  rw[he]
  simp[c2',we]
 have he:fpE P fx Y m=prE Y m:=by unfold fpE; rw[if_neg fun h=>h c1,if_neg fun h=>h c2]
 rw[he]
 have c2':(m:Int)=P.rows:=by omega
 simp[c2']
 refine zl (cN P fx Y m) (kV Y) m (by simp[cN,c2']) (fun q hq=>by omega) (fun k hk' hI=>?_) (fun hI=>?_)
 ·have e:(k:Int)<P.rows:=by omega
  have w1:=zm (k:=k) (by omega)
  have kv:=PD (hf k hk')
  cases hv:(Y k).v with
  | false =>
   rw[hv] at kv
   rw[aaf hI hv hk']
   simp[x9,cN,c2',e,hk']
   refine za kv (by simp) (by simp) ?_
   simp[we]
  | true =>
   rw[hv] at kv
   cases hs:(Y k).s with
   | true =>
    rw[aae hI hv hs hk']
    simp[x9,cN,c2',e,hk']
    refine za kv (by simp) (by simp) ?_
    simp[px,hs,c2',e,hk',we]
   | false =>
    simp[x9,cN,c2',e,hk']
    refine za kv (by simp) (by simp) ?_
    simp[px,hs,c2',e,hk',w1,cN]
    exact UB hI hv hs
 rw[pT hI,if_pos rfl]
 obtain ⟨y,hyd⟩:∃ y:Nat→Rat,(fun r=>(Y r).q)=y:=⟨_,rfl⟩
 have hyr:∀ r,(Y r).q=y r:=fun r=>by rw[← hyd]
 rw[hyd]
 have hYL:hR Y m=fR y m:=ZM fun r hr=>by rw[← hyr,← Nc (hI r hr).1]
 have hy':∀ r,r<P.rows→sz S (y r):=fun r hr=>by rw[← hyr]; exact hy r (by omega)
 subst c2
 clear hI hyd hyr hy hf c2'
 have hrw:P.rows≤20:=by have:=hG.n; unfold Pb.rows; omega
 have hkk:=hG.k
 have Rm:∀ R,R≤P.rows→R*(S+11)≤20*22000011:=fun R hR=>Nat.mul_le_mul (by omega) (by omega)
 have Rm3:∀ R,R≤P.rows→R*(S+3)≤20*22000003:=fun R hR=>Nat.mul_le_mul (by omega) (by omega)
 have szE:∀ R i,R≤P.rows→i<P.of.length→sz 500000000 (P.exc y R i):=fun R i hR hi=>zx (Uy hG hi hy' R hR) (by have:=Rm3 R hR; omega)
 have szB:∀ R,R≤P.rows→sz 500000000 (P.bdQ fx y R):=fun R hR=>zx (KO hG hl hy' R hR) (by have:=Rm R hR; omega)
 have szA:∀ k,k≤fx.length→sz 71000000000 (P.adQ fx y P.rows k):=fun k hk=>zx (KK hG hl hy' k hk) (by
  have h1:=Rm3 P.rows (Nat.le_refl _)
  have h2:k*(21+P.rows*(S+3))≤160*(21+20*22000003):=Nat.mul_le_mul (by omega) (by omega)
  omega)
 simp[x9,cN,qY]
 refine za TJ (by simp) (by simp) ?_
 simp
 refine QM (t:=fF P fx y P.rows 0) ?_ ?_
 ·refine St.imp.trans (St.imp_tok 67 3 (by simp)) ?_
  simp[St.dg]
  refine St.imp.trans (St.imp_env_nil (t:=12) (l:=67) (sz:=3) (by simp; rfl) (by simp)) ?_
  refine St.imp_of ?_
  have hfr0:fr ((P.accV fx 0:Int):Rat)=fr 0:=rfl
  simp[fF,hYL,hfr0,aaY]
 refine zl (fF P fx y P.rows) (fun _=>True) fx.length (by simp[fF]) trivial (fun k hk' _=>?_) (fun _=>?_)
 ·have e:(k:Int)<fx.length:=by omega
  have hko:k<P.of.length:=by omega
  have hko':(k:Int)<P.of.length:=by omega
  have w1:=zm (k:=k) (by omega)
  have hg:=rN hk'
  have hv:=(xC (yU (hG.off _ (at_mem hko))).1).2.1
  rw[wI hko] at hv
  have hvq:P.vQ k=((P.of[k].v:Int):Rat):=by unfold Pb.vQ; rw[wI hko]
  have hap:fR P.vQ k++[fr ((P.of[k].v:Int):Rat)]=fR P.vQ (k+1):=by rw[eU,hvq]
  have hs:=bN (P:=P) (fx:=fx) (k:=k)
  have hac:=eF (fx:=fx) hG k (by omega)
  rw[hg,wI hko] at hs
  simp[tm,fF,e,hko,hko']
  refine za (wF (n:=P.of[k].v) (by omega) (by omega)) (by simp) (by simp) ?_
  have b1:((k:Nat)+1)*56≤140737488355328:=by omega
  have b2:(k:Nat)+1≤9223372036854775807:=by omega
  have hk1:(k:Int)<(k:Int)+1:=by omega
  have hvf:fr ((P.of[k].v:Int):Rat)=fr (P.vQ k):=by rw[hvq]
  by_cases d:fx[k]=1
  ·rw[if_pos d] at hs
   have hsum:((P.accV fx k:Int):Rat)+((P.of[k].v:Int):Rat)=((P.accV fx (k+1):Int):Rat):=by rw[hs,Rat.intCast_add]
   have s1:sz 28 ((P.accV fx k:Int):Rat):=uL (by omega)
   have s2:sz 28 ((P.of[k].v:Int):Rat):=uL (by omega)
   simp[e,hk',d,b1,b2,hap,hk1]
   refine za (dt (K:=28) (by decide) s1 s2) (by simp[hvq]) (by simp) ?_
   simp[w1,fF,hsum]
  ·rw[if_neg d] at hs
   simp[e,hk',d,b1,b2,w1,fF,hs,hap]
 have hx0:fR P.vQ fx.length=fR (P.exc y 0) fx.length:=yd fun i hi=>by
  unfold Pb.exc
  have:zg 0 (fun r=>y r*P.cof r i)=0:=rfl
  rw[this]
  grind
 have hb0:fr ((P.accV fx fx.length:Int):Rat)=fr (P.bdQ fx y 0):=by
  congr 1
  unfold Pb.bdQ
  have:zg 0 (fun r=>y r*((P.relB fx r:Int):Rat))=0:=rfl
  rw[this]; grind
 simp[tm,fF,nj,hx0,hb0]
 refine zl (Tl P fx y P.rows) (fun _=>True) P.rows (by simp[Tl]) trivial (fun r hr _=>?_) (fun _=>?_)
 ·have e:(r:Int)<P.rows:=by omega
  have w1:=zm (k:=r) (by omega)
  have hrow:=ER (P:=P) (r:=(r:Int)) hn hk
  have e0:(0:Int)≤r∧(r:Int)<(y6 P:Nat):=by unfold y6; rw[if_pos hc]; omega
  unfold XC at hrow
  rw[if_pos e0,if_pos e0,Int.toNat_natCast] at hrow
  have hbd:P.bdQ fx y (r+1)=P.bdQ fx y r+y r*((P.relB fx r:Int):Rat):=by unfold Pb.bdQ; simp only[zg]; grind
  have hex:∀ i,P.exc y (r+1) i=P.exc y r i-y r*P.cof r i:=fun i=>by unfold Pb.exc; simp only[zg]; grind
  simp[tn,Tl,e]
  refine za hrow (by simp) (by simp) ?_
  simp
  have hM0:fR (exN P y r 0) fx.length=fR (P.exc y r) fx.length:=yd fun i _=>if_neg (Nat.not_lt_zero i)
  refine zl (cO P fx y P.rows r) (fun _=>True) fx.length (by simp[cO,Pb.inK,fp,hM0]) trivial (fun k hk' _=>?_) (fun _=>?_)
  ·have e2:(k:Int)<fx.length:=by omega
   have hko:k<P.of.length:=by omega
   have w2:=zm (k:=k) (by omega)
   have hg:=rN hk'
   have hcl:k<(clR (vO P r)).length:=by simpa using hko
   have hrl:(clR (vO P r))[k]=[iv (P.coef r P.of[k])]:=by simp[clR,vO]
   have hcf:=uq (xC (yU (hG.off _ (at_mem hko))).1).2.2 hr
   have hin:=PJ (P:=P) (fx:=fx) (r:=r) (k:=k)
   have hs1:=jW (fx:=fx) hG hr k (by omega)
   have hbo:=eH hG hr
   rw[hg] at hin
   have hck:P.cof r k=((P.coef r P.of[k]:Int):Rat):=by unfold Pb.cof; rw[wI hko]
   rw[wI hko] at hin hcf
   obtain ⟨A,hA⟩:∃ A,((P.inK fx k).map (P.coef r)).sum=A:=⟨_,rfl⟩
   obtain ⟨c,hcc⟩:∃ c,P.coef r P.of[k]=c:=⟨_,rfl⟩
   rw[hA] at hin hs1
   rw[hcc] at hin hcf hrl hck
   have hgx:k<(clR fx).length:=by simpa using hk'
   have hgc:(clR fx)[k]=[iv fx[k]]:=by simp[clR]
   have hset:(fR (exN P y r k) fx.length).set k (fr (exN P y r k k-y r*((c:Int):Rat)))=fR (exN P y r (k+1)) fx.length:=by
    rw[uF]
    refine yd fun i hi=>?_
    unfold upd
    by_cases h2:i=k
    ·subst h2
     have l1:¬ i<i:=by omega
     have l2:i<i+1:=by omega
     rw[if_pos rfl]
     unfold exN
     rw[if_neg l1,if_pos l2,hex,hck]
    ·rw[if_neg h2]
     unfold exN
     by_cases h1:i<k
     ·rw[if_pos h1,if_pos (by omega)]
     ·rw[if_neg h1,if_neg (by omega)]
   have s1:sz 500000000 (exN P y r k k):=by
    unfold exN; rw[if_neg (by omega)]; exact szE r k (by omega) hko
   have s2:sz 2 ((c:Int):Rat):=uL (by omega)
   have s3:sz 500000000 (y r*((c:Int):Rat)):=zx (yg (hy' r hr) s2) (by omega)
   have hkoI:(k:Int)<P.of.length:=by omega
   by_cases d1:fx[k]=1
   ·rw[if_pos d1] at hin
    have w3:IntKind.i64.wrap (P.bnd r-A-c)=P.bnd r-(A+c):=by rw[wrap64]<;>omega
    simp[-y9,vp,cO,e2,xY hcl,xY hgx,hgc,hrl,hA,d1,w3]
    simp[e2,hk',hr,e,hko,hkoI,hrl]
    refine za (wF (n:=c) (by omega) (by omega)) (by simp) (by simp) ?_
    simp
    refine za (cj (K:=500000000) (by decide) (zx (hy' r hr) (by omega)) (zx s2 (by decide))) (by simp) (by simp) ?_
    simp
    refine za (aal (K:=500000000) (by decide) s1 s3) (by simp) (by simp) ?_
    simp[e2,hk',w2,cO,hset,hin]
   ·rw[if_neg d1] at hin
    simp[-y9,vp,cO,e2,xY hgx,hgc,hA,d1]
    simp[e2,hk',hr,e,hko,hkoI,hrl]
    refine za (wF (n:=c) (by omega) (by omega)) (by simp) (by simp) ?_
    simp
    refine za (cj (K:=500000000) (by decide) (zx (hy' r hr) (by omega)) (zx s2 (by decide))) (by simp) (by simp) ?_
    simp
    refine za (aal (K:=500000000) (by decide) s1 s3) (by simp) (by simp) ?_
    simp[e2,hk',w2,cO,hset,hin]
  ·have hrb:=Z2 hG hl hr
   have hM1:fR (exN P y r fx.length) fx.length=fR (P.exc y (r+1)) fx.length:=yd fun i hi=>if_pos hi
   have h1:=jW (fx:=fx) hG hr fx.length (by omega)
   have h2:=eH hG hr
   have hB:P.bnd r-((P.inK fx fx.length).map (P.coef r)).sum=P.relB fx r:=rfl
   have hB1:-9223372036854775808≤P.relB fx r∧P.relB fx r<9223372036854775808:=by rw[← hB]; omega
   simp[vp,cO,nf,hM1,hB,e,hr]
   refine za (wF (n:=P.relB fx r) hB1.1 hB1.2) (by simp) (by simp) ?_
   simp
   refine za (cj (K:=500000000) (by decide) (zx (hy' r hr) (by omega)) (zx hrb (by decide))) (by simp) (by simp) ?_
   simp
   refine za (dt (K:=500000000) (by decide) (szB r (by omega)) (zx (yg (hy' r hr) hrb) (by omega))) (by simp) (by simp) ?_
   simp[ng,w1,Tl,hbd]
 have ha0:P.bdQ fx y P.rows=P.bdQ fx y P.rows+P.adQ fx y P.rows 0:=by
  have:P.adQ fx y P.rows 0=0:=rfl
  rw[this]; grind
 have hfr0:fr (P.bdQ fx y P.rows)=fr (P.bdQ fx y P.rows+P.adQ fx y P.rows 0):=congrArg fr ha0
 simp[tn,Tl,ni]
 refine zl (fG P fx y) (fun _=>True) fx.length (by simp[fG,← hfr0]) trivial (fun k hk' _=>?_) (fun _=>?_)
 ·have e:(k:Int)<fx.length:=by omega
  have w1:=zm (k:=k) (by omega)
  have hg:=rN hk'
  have had:P.adQ fx y P.rows (k+1)=P.adQ fx y P.rows k+(if fx.getD k 9=0∧0<P.exc y P.rows k then P.exc y P.rows k else 0):=rfl
  have s1:sz 72000000000 (P.bdQ fx y P.rows+P.adQ fx y P.rows k):=zx (r4 (szB _ (Nat.le_refl _)) (szA k (by omega))) (by decide)
  have s2:=szE P.rows k (Nat.le_refl _) (by omega)
  rw[hg] at had
  by_cases d:fx[k]=0
  ·by_cases hp:0<P.exc y P.rows k
   ·rw[if_pos ⟨d,hp⟩] at had
    have hsg:=sh.2 hp
    have hsum:P.bdQ fx y P.rows+P.adQ fx y P.rows k+P.exc y P.rows k=P.bdQ fx y P.rows+P.adQ fx y P.rows (k+1):=by rw[had]; grind
    simp[wa,fG,e,hk',d]
    refine za (E1 (q:=P.exc y P.rows k)) (by simp) (by simp) ?_
    simp[hsg,e,hk']
    refine za (dt (K:=72000000000) (by decide) s1 (zx s2 (by decide))) (by simp) (by simp) ?_
    simp[w1,fG,hsum]
   ·rw[if_neg fun h=>hp h.2] at had
    have hsg:¬ 0<yN (P.exc y P.rows k):=fun h=>hp (sh.1 h)
    have hsum:P.adQ fx y P.rows (k+1)=P.adQ fx y P.rows k:=by rw[had]; grind
    simp[wa,fG,e,hk',d]
    refine za (E1 (q:=P.exc y P.rows k)) (by simp) (by simp) ?_
    simp[hsg,w1,fG,hsum]
  ·rw[if_neg fun h=>d h.1] at had
   have hsum:P.adQ fx y P.rows (k+1)=P.adQ fx y P.rows k:=by rw[had]; grind
   simp[wa,fG,e,hk',d,w1,hsum]
 have hfp:P.bdQ fx y P.rows+P.adQ fx y P.rows fx.length=P.fpQ fx y:=rfl
 simp[wa,fG,nh,hfp,we]
end
def Js (k c:Nat) (n:Int) (Y:Nat→RF) (m:Nat):Prop:=(k:Int)≤n∧c≤9∧m≤30∧∀ j,j<m→De (Y j) 2
noncomputable def PQ (k c:Nat) (n:Int) (Y:Nat→RF) (m:Nat):Bool:=@decide (Js k c n Y m) (Classical.propDecidable _)
theorem Rq {k c m:Nat} {n:Int} {Y:Nat→RF} (h:Js k c n Y m):PQ k c n Y m=true:=by unfold PQ; exact @decide_eq_true _ (Classical.propDecidable _) h
theorem qu {k c m:Nat} {n:Int} {Y:Nat→RF} (h:¬ Js k c n Y m):PQ k c n Y m=false:=by unfold PQ; exact @decide_eq_false _ (Classical.propDecidable _) h
noncomputable def SG (Y:Nat→RF) (m k:Nat):St:={env:=[(2,hL Y m),(7,iv k)],sto:=[]}
theorem aa8 {P:Pb} {n:Int} {Y:Nat→RF} {m:Nat} (hm:m<4611686018427387904):zd Tryz.prog ke [.agg (pbC P),iv n,hL Y m] (bv (PQ P.of.length P.cl.length n Y m)):=by
 refine zC Qe (by simp) ?_
 by_cases g1:(P.of.length:Int)≤n
 rotate_left
 ·rw[qu fun h=>g1 h.1]
  have g1':n<P.of.length:=by omega
  simp[sx,g1',vI]
 have g1':¬ n<P.of.length:=by omega
 by_cases g2:P.cl.length≤9
 rotate_left
 ·rw[qu fun h=>g2 h.2.1]
  have g2':(9:Int)<P.cl.length:=by omega
  simp[sx,g1',g2',vI]
 have g2':¬ (9:Int)<P.cl.length:=by omega
 by_cases g3:m≤30
 rotate_left
 ·rw[qu fun h=>g3 h.2.2.1]
  have g3':(30:Int)<m:=by omega
  simp[sx,g1',g2',g3',vI]
 have g3':¬ (30:Int)<m:=by omega
 simp[sx,g1',g2',g3']
 refine zl (SG Y m) (fun k=>∀ j,j<k→De (Y j) 2) m (by simp[SG]) (fun j hj=>by omega) (fun k hk hI=>?_) (fun hI=>?_)
 ·have e:(k:Int)<m:=by omega
  have w:=zm (k:=k) (by omega)
  by_cases q1:(Y k).a.length≤2
  rotate_left
  ·have q1':(2:Int)<(Y k).a.length:=by omega
   rw[qu fun h=>q1 (h.2.2.2 k hk).1]
   simp[v7,SG,e,hk,qt,q1',vI]
  have q1':¬ (2:Int)<(Y k).a.length:=by omega
  by_cases q2:(Y k).c.length≤2
  rotate_left
  ·have q2':(2:Int)<(Y k).c.length:=by omega
   rw[qu fun h=>q2 (h.2.2.2 k hk).2]
   simp[v7,SG,e,hk,qt,py,q1',q2',vI]
  have q2':¬ (2:Int)<(Y k).c.length:=by omega
  simp[v7,SG,e,hk,qt,py,q1',q2',w]
  exact fun j hj=>by
   by_cases ej:j=k
   ·subst ej; exact ⟨q1,q2⟩
   ·exact hI j (by omega)
 ·rw[Rq ⟨g1,g2,g3,hI⟩]
  simp[v7,SG,jG,vI]
theorem Yh {n:Int} (h1:-9223372036854775808≤n) (h2:n<9223372036854775808):zd Tryz.prog yY [iv n] (fq n):=by
 refine zC Qg (by simp) ?_
 simp[c8]
 refine za (wF h1 h2) (by simp) (by simp) ?_
 simp[bu]
def RF.opt (x:RF):Option Rat:=if x.v=true then some x.q else none
def inQ (q:Rat):Prop:=0<q∧q<1
instance (q:Rat):Decidable (inQ q):=inferInstanceAs (Decidable (_∧_))
def rq (q:Rat):Rat:=if q<0 then -q else q
def brR (g:Nat→Option Rat):Nat→Option (Nat × Rat)
 | 0=>none
 | k+1=>match g k with
  | none=>brR g k
  | some q=>if inQ q then (match brR g k with
   | none=>some (k,rq (q-1/2))
   | some (i,e)=>if rq (q-1/2)<e then some (k,rq (q-1/2)) else some (i,e)) else brR g k
def brI:Option (Nat × Rat)→Int
 | none=>0
 | some (i,_)=>i
def brT:Option (Nat × Rat)→Bool
 | none=>false
 | some _=>true
noncomputable def brL:Option (Nat × Rat)→List AV
 | none=>zz
 | some (_,d)=>fr d
def wl (Y:Nat→RF) (i:Nat):Option Rat:=(Y i).opt
section
variable {Y:Nat→RF} {m S k:Nat}
theorem QS (h:wl Y k=none):brR (wl Y) (k+1)=brR (wl Y) k:=by rw[brR,h]
theorem TR {q:Rat} (h:wl Y k=some q) (h2:¬ inQ q):brR (wl Y) (k+1)=brR (wl Y) k:=by rw[brR,h]; exact if_neg h2
theorem bS {q:Rat} (h:wl Y k=some q) (h2:inQ q) (h3:brR (wl Y) k=none):brR (wl Y) (k+1)=some (k,rq (q-1/2)):=by rw[brR,h,h3]; exact if_pos h2
theorem YV {q e:Rat} {i:Nat} (h:wl Y k=some q) (h2:inQ q) (h3:brR (wl Y) k=some (i,e)) (h4:rq (q-1/2)<e):brR (wl Y) (k+1)=some (k,rq (q-1/2)):=by
 rw[brR,h,h3]
 show (if inQ q then (if rq (q-1/2)<e then some (k,rq (q-1/2)) else some (i,e)) else some (i,e))=_
 rw[if_pos h2,if_pos h4]
theorem YW {q e:Rat} {i:Nat} (h:wl Y k=some q) (h2:inQ q) (h3:brR (wl Y) k=some (i,e)) (h4:¬ rq (q-1/2)<e):brR (wl Y) (k+1)=some (i,e):=by
 rw[brR,h,h3]
 show (if inQ q then (if rq (q-1/2)<e then some (k,rq (q-1/2)) else some (i,e)) else some (i,e))=_
 rw[if_pos h2,if_neg h4]
theorem acV {K:Nat} {q:Rat} (h:sz K q):sz K (rq q):=by unfold rq; split; exact r5 h; exact h
theorem T7:sz 1 (1/2:Rat):=⟨by decide +kernel,by decide +kernel⟩
theorem KR (hy:∀ r q,r<m→wl Y r=some q→sz S q):∀ k,k≤m→∀ i e,brR (wl Y) k=some (i,e)→sz (S+2) e
 | 0,_,i,e,h=>by cases h
 | k+1,hk,i,e,h=>by
  have ih:=KR hy k (by omega)
  cases ho:wl Y k with
  | none=>rw[QS ho] at h; exact ih i e h
  | some q =>
   have hs:sz (S+2) (rq (q-1/2)):=acV (gu (hy k q (by omega) ho) T7)
   by_cases h2:inQ q
   ·cases h3:brR (wl Y) k with
    | none=>rw[bS ho h2 h3] at h; cases h; exact hs
    | some p =>
     obtain ⟨j,d⟩:=p
     by_cases h4:rq (q-1/2)<d
     ·rw[YV ho h2 h3 h4] at h; cases h; exact hs
     ·rw[YW ho h2 h3 h4] at h; cases h; exact ih _ _ h3
   ·rw[TR ho h2] at h; exact ih i e h
theorem Nj {x:RF} (h:x.v=true):x.opt=some x.q:=if_pos h
theorem Em {x:RF} (h:x.v=false):x.opt=none:=if_neg (by rw[h]; decide)
theorem FD:xj false 1 2=fq (1/2:Rat):=by
 rw[tH (by decide),wP,show mkRat (sg false 1) 2=(1/2:Rat) by decide +kernel]
theorem Bh:zd Tryz.prog TK [iv 1,iv 2] (.tuple [fq (1/2:Rat),iv 0]):=by
 have k1:=kF (n:=1) (by decide) (by decide)
 have k2:=kF (n:=2) (by decide) (by decide)
 have l1:=qn (x:=1) (by decide)
 have l2:=qn (x:=2) (by decide)
 have k:=cc (neg:=false) (N:=1) (D:=2) (by omega) (by omega) (by decide)
 rw[FD] at k
 refine zC acp (by simp) ?_
 simp[Lk,yG wS]
 refine za k1 (by simp) (by simp) ?_
 simp
 refine za k2 (by simp) (by simp) ?_
 simp
 refine za k (by simp) (by simp) ?_
 simp[Kk]
@[simp] theorem agK {r:Option (Nat × Rat)} {k:Nat}:xg k (brL r)=false:=by cases r<;>simp[brL,xg]
noncomputable def mY (Y:Nat→RF) (m k:Nat):St :=
 {env:=[(4,.ptr 4 0),(6,.ptr 6 0),(7,.ptr 7 0),(8,.ptr 8 0),(17,hL Y m),(18,iv m),(19,iv k)],
  sto:=[(4,.var (fr (1/2))),(6,.var (fr 1)),(7,.var [bv (brT (brR (wl Y) k)),iv (brI (brR (wl Y) k))]),(8,.var (brL (brR (wl Y) k)))]}
theorem Cc (hS:S≤1000000) (hm:m<4611686018427387904) (hf:∀ r,r<m→(Y r).fine) (hy:∀ r q,r<m→wl Y r=some q→sz S q) :
  zd Tryz.prog r9 [hL Y m] (.tuple [iv (brI (brR (wl Y) m)),bv (brT (brR (wl Y) m))]):=by
 have hA:agT Tryz.prog wD=true:=by kernel_rfl
 have hE0:∀ {ox oy:Operand} {K:AV→Option ze→Prop},z9 Tryz.prog .eql wD ox oy [.agg [bv false,iv 0],.agg [bv false,iv 0]] K=K (bv true) none:=fun {ox oy K}=>by
  rw[jZ (xs:=[.bool false,.int .i64 0]) (ys:=[.bool false,.int .i64 0]) lU lT hA rfl rfl rfl rfl]
  rfl
 have hE1:∀ {i:Nat} {ox oy:Operand} {K:AV→Option ze→Prop},z9 Tryz.prog .eql wD ox oy [.agg [bv true,iv i],.agg [bv false,iv 0]] K=K (bv false) none:=fun {i ox oy K}=>by
  rw[jZ (xs:=[.bool true,.int .i64 i]) (ys:=[.bool false,.int .i64 0]) lU lT hA rfl rfl rfl rfl]
  rfl
 have hone:zd Tryz.prog zN [iv 1] (fq 1):=yE (n:=1) (by decide) (by decide)
 refine zC SW (by simp) ?_
 simp[eN]
 refine za Bh (by simp) (by simp) ?_
 simp
 refine za hone (by simp) (by simp) ?_
 simp
 refine zl (mY Y m) (fun _=>True) m (by simp[mY,brR,brT,brI,brL]) trivial (fun k hk _=>?_) (fun _=>?_)
 ·have e:(k:Int)<m:=by omega
  have w:=zm (k:=k) (by omega)
  have kv:=ZN (hf k hk)
  simp[qL,mY,e,hk]
  refine za kv (by simp) (by simp) ?_
  cases hv:(Y k).v with
  | false =>
   have hst:=QS (Y:=Y) (k:=k) (Em hv)
   simp[w,mY,hst]
  | true =>
   have ho:wl Y k=some (Y k).q:=Nj hv
   have hs:=hy k _ hk ho
   have hrq:hr (Y k)=fr (Y k).q:=by rw[← UD,← Nc hv]
   obtain ⟨q,hq⟩:∃ q,(Y k).q=q:=⟨_,rfl⟩
   rw[hq] at ho hs hrq
   have h1:=sh (q:=q)
   simp[hrq]
   refine za (vf (q:=q)) (by simp) (by simp) ?_
   by_cases c1:0<q
   rotate_left
   ·have hst:=TR ho fun h=>c1 h.1
    have g1:yN q≤0:=by have:¬ 0<yN q:=fun h=>c1 (h1.1 h); omega
    simp[g1,w,mY,hst]
   have g1:¬ yN q≤0:=by have:=h1.2 c1; omega
   simp[g1]
   refine za (Ur (K:=1000000) (by decide) (zx hs hS) (zx Tw (Nat.zero_le _)) (q:=1)) (by simp) (by simp) ?_
   have h2:=mz (p:=q) (q:=1)
   by_cases c2:q<1
   rotate_left
   ·have hst:=TR ho fun h=>c2 h.2
    have g2:0≤wt q 1:=by have:¬ wt q 1<0:=fun h=>c2 (h2.1 h); omega
    simp[g2,w,mY,hst]
   have g2:¬ 0≤wt q 1:=by have:=h2.2 c2; omega
   have hin:inQ q:=⟨c1,c2⟩
   simp[g2]
   have sd:sz (S+2) (q-1/2):=gu hs T7
   refine za (Tu (K:=1000000) (by decide) (zx hs hS) (zx T7 (by decide))) (by simp) (by simp) ?_
   obtain ⟨d,hd⟩:∃ d,q-1/2=d:=⟨_,rfl⟩
   rw[hd] at sd
   have sd':sz 2000000 d:=zx sd (by omega)
   rw[hd]
   simp
   refine za (vf (q:=d)) (by simp) (by simp) ?_
   have h3:=pV (q:=d)
   by_cases c3:d<0
   ·have g3:=h3.2 c3
    have ha:rq d=-d:=if_pos c3
    have sa:sz 2000000 (-d):=r5 sd'
    simp[g3]
    refine za (UT (K:=2000000) (by decide) sd') (by simp) (by simp) ?_
    cases hb:brR (wl Y) k with
    | none =>
     have hst:=bS ho hin hb
     rw[hd,ha] at hst
     simp[brT,brI,brL,hE0,w,mY,hst]
    | some p =>
     obtain ⟨i,b⟩:=p
     have sb:=KR hy k (by omega) i b hb
     have h5:=mz (p:=-d) (q:=b)
     simp[brT,brI,brL,hE1]
     refine za (Ur (K:=2000000) (by decide) sa (zx sb (by omega))) (by simp) (by simp) ?_
     by_cases c5:-d<b
     ·have hst:=YV ho hin hb (by rw[hd,ha]; exact c5)
      rw[hd,ha] at hst
      simp[h5.2 c5,w,mY,hst,brT,brI,brL]
     ·have hst:=YW ho hin hb (by rw[hd,ha]; exact c5)
      have g5:¬ wt (-d) b<0:=fun h=>c5 (h5.1 h)
      simp[g5,w,mY,hst,brT,brI,brL]
   ·have g3:¬ yN d<0:=fun h=>c3 (h3.1 h)
    have ha:rq d=d:=if_neg c3
    have sa:=sd'
    cases hb:brR (wl Y) k with
    | none =>
     have hst:=bS ho hin hb
     rw[hd,ha] at hst
     simp[g3,brT,brI,brL,hE0,w,mY,hst]
    | some p =>
     obtain ⟨i,b⟩:=p
     have sb:=KR hy k (by omega) i b hb
     have h5:=mz (p:=d) (q:=b)
     simp[g3,brT,brI,brL,hE1]
     refine za (Ur (K:=2000000) (by decide) sa (zx sb (by omega))) (by simp) (by simp) ?_
     by_cases c5:d<b
     ·have hst:=YV ho hin hb (by rw[hd,ha]; exact c5)
      rw[hd,ha] at hst
      simp[h5.2 c5,w,mY,hst,brT,brI,brL]
     ·have hst:=YW ho hin hb (by rw[hd,ha]; exact c5)
      have g5:¬ wt d b<0:=fun h=>c5 (h5.1 h)
      simp[g5,w,mY,hst,brT,brI,brL]
 ·simp[qL,mY,kJ,db]
end
def wL:List Int→Nat→Int:=fun l k=>l.getD k 0
def P3:Pb:=⟨wL [1,1],wL [1,1],wL [],[0,0,0],[⟨0,wL [1,1],10⟩,⟨1,wL [1],6⟩,⟨2,wL [0,1],6⟩]⟩
theorem adj:zd Tryz.prog ux [] (.agg [iv 1,iv 1,iv 0,iv 0,iv 0,iv 0,iv 1,iv 1,iv 0,iv 0,iv 0,iv 0,iv 0,iv 0,iv 0,iv 0,iv 0,iv 0,.list 1 .full [[iv 0],[iv 0],[iv 0]],.list 8 .full [[iv 0,iv 1,iv 1,iv 0,iv 0,iv 0,iv 0,iv 10],[iv 1,iv 1,iv 0,iv 0,iv 0,iv 0,iv 0,iv 6],[iv 2,iv 0,iv 1,iv 0,iv 0,iv 0,iv 0,iv 6]]]):=by
 refine zC Tz (by simp) ?_
 simp[gP,splice,fw]
theorem Fm:zd Tryz.prog ux [] (.agg (pbC P3)):=by
 refine Dm adj ?_
 have e:ofR P3.of=[[iv 0,iv 1,iv 1,iv 0,iv 0,iv 0,iv 0,iv 10],[iv 1,iv 1,iv 0,iv 0,iv 0,iv 0,iv 0,iv 6],[iv 2,iv 0,iv 1,iv 0,iv 0,iv 0,iv 0,iv 6]]:=by
  unfold ofR P3
  simp only[List.map_cons,List.map_nil,rc]
  rfl
 simp only[xB]
 refine LQ ?_
 have h2:AV.imp (.list 8 .full [[iv 0,iv 1,iv 1,iv 0,iv 0,iv 0,iv 0,iv 10],[iv 1,iv 1,iv 0,iv 0,iv 0,iv 0,iv 0,iv 6],[iv 2,iv 0,iv 1,iv 0,iv 0,iv 0,iv 0,iv 6]]) (ofA P3.of):=by
  unfold ofA
  rw[e]
  exact vF
 have h1:AV.imp (.list 1 .full [[iv 0],[iv 0],[iv 0]]) (clA P3.cl):=vF
 repeat' first | exact yQ h1 (yQ h2 mK) | refine yQ AV.imp.refl ?_
theorem acT:P3.cl.length≤1000:=by decide
theorem af8:P3.of.length≤1000000:=by decide
def exY (i:Nat):Rat:=if i=3∨i=4 then 6 else 0
theorem Fj (i:Nat):sz 3 (exY i):=by
 unfold exY
 split
 ·exact uL (n:=6) (by decide)
 ·exact xQ
theorem Fl:zd Tryz.prog uw [.agg (pbC P3),.list 1 .full [[iv 0],[iv 0],[iv 0]],fL exY 15] (.tuple [fq 12,iv 0]):=by
 have h:=Pw (P:=P3) (fx:=[0,0,0]) (Y:=fun i=>RF.of (exY i)) (m:=15) (S:=3) acT af8 (by decide) (by decide) (fun r _=>mD (by decide:3≤137438953472) (Fj r)) (fun r _=>by rw[Sm]; exact Fj r)
 have e1:P3.fixE [0,0,0]=0:=by decide +kernel
 have e2:P3.rows=15:=by decide
 have hg:kV (fun i=>RF.of (exY i)) 15:=fun r hr=>⟨Xi _,by
  show decide ((exY r).num<0)=false
  rw[decide_eq_false]
  unfold exY
  split<;>decide⟩
 have e3:fpE P3 [0,0,0] (fun i=>RF.of (exY i)) 15=0:=by
  unfold fpE
  rw[if_neg fun h=>h e1,if_neg fun h=>h e2.symm,pT hg]
 have e4:(P3.fpQ [0,0,0] fun r=>(RF.of (exY r)).q)=12:=by
  simp only[Sm]
  decide +kernel
 rw[e3,if_pos rfl,e4] at h
 have hL:hL (fun i=>RF.of (exY i)) 15=fL exY 15:=by unfold YtfmcplfbnkoglaaGreat.hL fL; rw[ZM fun _ _=>rfl]
 rw[hL] at h
 exact d9 h (A8 AV.imp.refl vF AV.imp.refl)
theorem aaX:∃ X Y:Nat→Rat,zd Tryz.prog vV [.agg (pbC P3),.list 1 .full [[iv 1],[iv 0],[iv 0]]] (.tuple [.agg [bv true,f0 10,f1 10,f2 10,fL Y P3.rows,fL X 3],iv 0]):=by
 have e1:P3.fixE [1,0,0]=0:=by decide +kernel
 have e2:P3.fits (P3.inL [1,0,0]):=by decide +kernel
 obtain ⟨X,Y,v,⟨ho,_,_,_⟩,h⟩:=Lg (P:=P3) (fx:=[1,0,0]) acT (by decide) e1 e2
 have ha:P3.accV [1,0,0] 3=10:=by decide +kernel
 have hG:=uS (tG e1).1
 have hv:0≤v:=by
  rw[← ho.vy]
  exact xW fun r hr=>Rat.mul_nonneg (ho.y0 r) (Ro e2 hr)
 have hw:=acP (y:=exY) hG rfl (GF ho) (fun r _=>by unfold exY; split<;>decide)
 rw[GG ho] at hw
 have e3:P3.fpQ [1,0,0] exY=10:=by decide +kernel
 rw[e3] at hw
 have hq:(((P3.accV [1,0,0] ([1,0,0]:List Int).length:Int):Rat)+v)=10:=by
  have:((P3.accV [1,0,0] ([1,0,0]:List Int).length:Int):Rat)=10:=by
   show ((P3.accV [1,0,0] 3:Int):Rat)=10
   rw[ha]; rfl
  rw[this] at hw ⊢
  grind
 rw[hq] at h
 exact ⟨bX [1,0,0] X,Y,d9 h (A7 AV.imp.refl vF)⟩
def exB (i:Nat):Rat:=if i=0 then 1/4 else if i=1 then 2/3 else 1/3
def exO (i:Nat):Option Rat:=some (exB i)
theorem Fi (i:Nat):sz 2 (exB i):=by
 unfold exB
 split
 ·exact ⟨by decide +kernel,by decide +kernel⟩
 ·split
  ·exact ⟨by decide +kernel,by decide +kernel⟩
  ·exact ⟨by decide +kernel,by decide +kernel⟩
theorem Pn {a b:Nat} {q:Rat} (h1:q.num=a) (h2:q.den=b) (ha:0<a∧a<10) (hb:0<b∧b<10):mJ [bv false,.list 1 .full [[uv a]],.list 1 .full [[uv b]]] (hr (RF.of q)):=by
 have d1:zf a=[a]:=by rw[rJ (by omega),Nat.mod_eq_of_lt (b:=B) (show a<4294967296 by omega),Nat.div_eq_of_lt (b:=B) (show a<4294967296 by omega),yf]
 have d2:zf b=[b]:=by rw[rJ (by omega),Nat.mod_eq_of_lt (b:=B) (show b<4294967296 by omega),Nat.div_eq_of_lt (b:=B) (show b<4294967296 by omega),yf]
 rw[UD,t6,h1,h2]
 have e:decide ((a:Int)<0)=false:=decide_eq_false (by omega)
 rw[e]
 show mJ _ [bv false,nl .plain (zf a),nl .plain (zf b)]
 rw[d1,d2]
 exact yQ AV.imp.refl (yQ vF (yQ vF mK))
theorem Fk:zd Tryz.prog r9 [.list 3 .full [[bv false,.list 1 .full [[uv 1]],.list 1 .full [[uv 4]]],[bv false,.list 1 .full [[uv 2]],.list 1 .full [[uv 3]]],[bv false,.list 1 .full [[uv 1]],.list 1 .full [[uv 3]]]]] (.tuple [iv 1,bv true]):=by
 have ho:wl (fun i=>RF.of (exB i))=exO:=funext fun i=>by
  unfold wl exO
  rw[Nj (Xi _),Sm]
 have h:=Cc (Y:=fun i=>RF.of (exB i)) (m:=3) (S:=2) (by decide) (by decide) (fun r _=>mD (by decide:2≤137438953472) (Fi r)) (fun r q _ h=>by
  rw[ho] at h
  cases h
  exact Fi r)
 rw[ho] at h
 have e1:brR exO 3=some (1,1/6):=by decide +kernel
 rw[e1] at h
 refine d8 h (PG rfl ⟨rfl,fun i x y hx hy=>?_⟩)
 match i with
 | 0=>cases hx; cases hy; exact Pn (a:=1) (b:=4) (by decide +kernel) (by decide +kernel) (by decide) (by decide)
 | 1=>cases hx; cases hy; exact Pn (a:=2) (b:=3) (by decide +kernel) (by decide +kernel) (by decide) (by decide)
 | 2=>cases hx; cases hy; exact Pn (a:=1) (b:=3) (by decide +kernel) (by decide +kernel) (by decide) (by decide)
 | i+3=>simp at hx
noncomputable def NN (k:Nat):St:={env:=[(1,.sl 9 3 0 15),(11,iv 15),(12,iv k)],sto:=[(9,.arr 3 (fZ (fun _=>0) k 15))]}
theorem eX:zd Tryz.prog ul [] (bv true):=by
 have w0:zd Tryz.prog yY [iv 0] (fq 0):=Yh (n:=0) (by decide) (by decide)
 have w6:zd Tryz.prog yY [iv 6] (fq 6):=Yh (n:=6) (by decide) (by decide)
 have w12:zd Tryz.prog yY [iv 12] (fq 12):=Yh (n:=12) (by decide) (by decide)
 have w10:zd Tryz.prog yY [iv 10] (fq 10):=Yh (n:=10) (by decide) (by decide)
 have s12:sz 4 (12:Rat):=uL (n:=12) (by decide)
 have s10:sz 4 (10:Rat):=uL (n:=10) (by decide)
 have ksame:zd Tryz.prog xZ [fq 12,fq 12] (bv true):=by have:=a8 (q:=12) (by decide:4≤137438953472) s12; simpa using this
 have ksame2:zd Tryz.prog xZ [fq 10,fq 10] (bv true):=by have:=a8 (q:=10) (by decide:4≤137438953472) s10; simpa using this
 obtain ⟨X,Y,kb⟩:=aaX
 refine zC Qf (by simp) ?_
 simp[c7,eMk]
 refine zl NN (fun _=>True) 15 (by simp[NN,← ns (f:=fun _=>(0:Rat))]) trivial (fun k hk _=>?_) (fun _=>?_)
 ·have e:(k:Int)<15:=by omega
  have w:=zm (k:=k) (by omega)
  have hset:(fZ (fun _=>(0:Rat)) k 15).set k (fr 0)=fZ (fun _=>(0:Rat)) (k+1) 15:=lO (f:=fun _=>(0:Rat)) hk
  simp[pK,NN,e]
  refine za w0 (by simp) (by simp) ?_
  simp[e,hk,w,NN,hset]
 have hset2:((fR (fun _=>(0:Rat)) 15).set 3 (fr 6)).set 4 (fr 6)=fR exY 15:=by
  rw[uF,uF]
  refine yd fun i _=>?_
  unfold upd exY
  by_cases h4:i=4
  ·rw[if_pos h4,if_pos (.inr h4)]
  ·rw[if_neg h4]
   by_cases h3:i=3
   ·rw[if_pos h3,if_pos (.inl h3)]
   ·rw[if_neg h3,if_neg (by omega)]
 simp[pK,NN,jH,nr]
 refine za w6 (by simp) (by simp) ?_
 simp
 refine za w6 (by simp) (by simp) ?_
 simp[hset2,y8]
 refine za (xs:=[]) (args:=[]) Fm rfl (.inl rfl) ?_
 simp
 refine za Fl (by simp) (by simp) ?_
 simp
 refine za (xs:=[]) (args:=[]) Fm rfl (.inl rfl) ?_
 simp
 refine za kb (by simp) (by simp) ?_
 simp[splice]
 refine za Fk (by simp) (by simp) ?_
 simp
 refine za w12 (by simp) (by simp) ?_
 simp
 refine za ksame (by simp) (by simp) ?_
 simp
 refine za w10 (by simp) (by simp) ?_
 simp
 refine za ksame2 (by simp) (by simp) ?_
 simp[bt]
@[simp] theorem agH {sz:Nat} {rows:List (List AV)} {σ:Nat→Option ze}:wB σ (plc sz rows)=some (plc sz rows):=by unfold plc; split<;>rfl
section
variable {P:Pb} {fx:List Int}
theorem Xo (hn:P.cl.length≤1000) (hk:P.of.length≤1000000):zd Tryz.prog ki [.agg (pbC P),clA fx] (iv (P.fixE fx)):=by
 refine zC Qk (by simp) ?_
 simp[bg]
 refine za (Xz (fx:=fx) hn hk) (by simp) (by simp) ?_
 simp[bz]
end
theorem N2 {S:Nat} {f:Nat→Rat}:∀ {k:Nat},(∀ i,i<k→sz S (f i))→sz (k*(S+1)) (zg k f)
 | 0,_=>xQ
 | k+1,h=>by
  have ih:=N2 (k:=k) fun i hi=>h i (by omega)
  simp only[zg]
  exact zx (r4 ih (h k (by omega))) (by rw[Nat.add_mul]; omega)
noncomputable def Sz (fx:List Int) (k:Nat):St:={env:=[(0,clA fx),(3,apc 19 1 (clR (ints (vH fx 1 k)))),(4,iv k)],sto:=[]}
noncomputable def k9 (P:Pb) (fx:List Int) (x:Nat→Rat) (k:Nat):St :=
 {env:=[(1,clA fx),(2,fL x fx.length),(3,.ptr 3 0),(6,.ptr 6 0),(8,.ptr 8 0),(9,iv k)],sto:=[(3,.var (pbC P)),(6,.var zz),(8,.var (fr (P.val k x)))]}
noncomputable def Tn (P:Pb) (fx:List Int) (x:Nat→Rat) (k:Nat):St :=
 {env:=[(2,fL x fx.length),(3,.ptr 3 0),(6,.ptr 6 0),(8,.ptr 8 0),(10,iv k)],sto:=[(3,.var (pbC P)),(6,.var zz),(8,.var (fr (P.val fx.length x)))]}
noncomputable def Tm (P:Pb) (fx:List Int) (x:Nat→Rat) (r k:Nat):St :=
 {env:=[(2,fL x fx.length),(3,.ptr 3 0),(6,.ptr 6 0),(8,.ptr 8 0),(10,iv r),(11,clA (vO P r)),(12,iv (P.bnd r)),(13,.ptr 13 0),(14,iv k)],
  sto:=[(3,.var (pbC P)),(6,.var zz),(8,.var (fr (P.val fx.length x))),(13,.var (fr (zg k fun i=>P.cof r i*x i)))]}
@[simp] theorem afN:zH [bv false,bv false,z8,z8,z8,z8] 1 (some 3)=some (.agg [bv false,z8,z8]):=rfl
section
variable {P:Pb} {fx:List Int} {x:Nat→Rat} {S:Nat}
theorem MK (hl:fx.length≤20):zd Tryz.prog pI [clA fx] (plc 1 (clR (ints (vH fx 1 fx.length)))):=by
 refine zC XT (by simp) ?_
 simp[jR]
 refine zl (Sz fx) (fun _=>True) fx.length (by simp[Sz,fp,apc,clR,ints]) trivial (fun k hk' _=>?_) (fun _=>?_)
 ·have e:(k:Int)<fx.length:=by omega
  have w1:=zm (k:=k) (by omega)
  have hg:=rN hk'
  have hs:=tK (fx:=fx) (v:=1) (k:=k)
  have hln:=gc (fx:=fx) (v:=1) (k:=k)
  rw[hg] at hs
  by_cases d:fx[k]=1
  ·rw[if_pos d] at hs
   have hr:clR (ints (vH fx 1 k))++[[iv k]]=clR (ints (vH fx 1 (k+1))):=by rw[hs]; simp[clR,ints]
   simp[uf,Sz,e,hk',d]
   refine sK (by decide) rfl ?_ ?_ (by simp) ?_
   ·simp only[clR,List.length_map,ints]; omega
   ·simp only[clR,List.length_map,ints]; omega
   ·rw[hr]
    simp[w1,Sz]
  ·rw[if_neg d] at hs
   simp[uf,Sz,e,hk',d,w1,hs]
 ·simp[uf,Sz,mj,gn]
theorem EL (hn:P.cl.length≤1000) (hk:P.of.length≤20) (hf:P.fixE fx=0) (hS:S≤30000000) (hx:∀ i,i<fx.length→sz S (x i)) (h:P.Sol fx x) :
  zd Tryz.prog nF [.agg (pbC P),clA fx,fL x fx.length] (.tuple [fq (P.val fx.length x),bv true]):=by
 obtain ⟨hc,hl,hok⟩:=tG hf
 have hG:=uS hc
 have hrows:=Sw (P:=P) hn (by omega)
 rw[show y6 P=P.rows by unfold y6; rw[if_pos hc]] at hrows
 have szV:∀ k,k≤fx.length→sz 1000000000 (P.val k x):=fun k hk2=>by
  have:=N2 (S:=20+S) (f:=fun i=>P.vQ i*x i) (k:=k) fun i hi=>yg (Qz hG (by omega)) (hx i (by omega))
  refine zx this ?_
  have:k*(20+S+1)≤20*30000021:=Nat.mul_le_mul (by omega) (by omega)
  omega
 have szR:∀ r k,r<P.rows→k≤fx.length→sz 1000000000 (zg k fun i=>P.cof r i*x i):=fun r k hr hk2=>by
  have:=N2 (S:=2+S) (f:=fun i=>P.cof r i*x i) (k:=k) fun i hi=>yg (Q7 hG (by omega) hr) (hx i (by omega))
  refine zx this ?_
  have:k*(2+S+1)≤20*30000003:=Nat.mul_le_mul (by omega) (by omega)
  omega
 refine zC TC (by simp) ?_
 simp[gV]
 refine za (Xz (fx:=fx) hn (by omega)) (by simp) (by simp) ?_
 simp[hf]
 refine za TJ (by simp) (by simp) ?_
 simp
 have hv0:fr 0=fr (P.val 0 x):=rfl
 refine zl (k9 P fx x) (fun _=>True) fx.length (by simp[k9,hv0]) trivial (fun k hk' _=>?_) (fun _=>?_)
 ·have e:(k:Int)<fx.length:=by omega
  have hko:k<P.of.length:=by omega
  have hko':(k:Int)<P.of.length:=by omega
  have w1:=zm (k:=k) (by omega)
  have hg:=rN hk'
  have hxk:=hx k hk'
  have x0:=h.x0 k hk'
  have hv:=(xC (yU (hG.off _ (at_mem hko))).1).2.1
  rw[wI hko] at hv
  have hvq:P.vQ k=((P.of[k].v:Int):Rat):=by unfold Pb.vQ; rw[wI hko]
  have hsum:P.val k x+x k*((P.of[k].v:Int):Rat)=P.val (k+1) x:=by
   unfold Pb.val
   simp only[zg]
   rw[hvq]; grind
  have kv:=PD (x:=RF.of (x k)) (mD (by omega:S≤137438953472) hxk)
  rw[Xi] at kv
  have kv':zd Tryz.prog p6 [fq (x k)] (bv true):=by have:=kv; unfold hq at this; rw[UD] at this; exact this
  have hneg:decide ((x k).num<0)=false:=decide_eq_false fun hh=>by
   have:=uV.1 hh
   grind
  have hf0:f0 (x k)=bv false:=by rw[nQ,hneg]
  have q0:IntKind.i64.wrap 0=0:=by decide
  have q2:IntKind.i64.wrap 2=2:=by decide
  have hd:=hok k hk'
  unfold okX at hd
  rw[hg] at hd
  have s1:sz 28 ((P.of[k].v:Int):Rat):=uL (by omega)
  rcases hd with d | d | d
  ·have hxv:x k=0:=h.out k hk' (by rw[hg]; omega) (by rw[hg]; omega)
   have ks:zd Tryz.prog xZ [fq (x k),fq 0] (bv true):=by have:=a8 (q:=0) (by omega:S≤137438953472) hxk; simpa [hxv] using this
   simp[vb,k9,e,hk']
   refine za kv' (by simp) (by simp) ?_
   simp[e,hk',d,hf0,q0,vD]
   refine za TJ (by simp) (by simp) ?_
   simp
   refine za ks (by simp) (by simp) ?_
   simp[e,hk',hko,hko']
   refine za (wF (n:=P.of[k].v) (by omega) (by omega)) (by simp) (by simp) ?_
   simp
   refine za (cj (K:=30000000) (by decide) (zx hxk hS) (zx s1 (by decide))) (by simp) (by simp) ?_
   simp
   refine za (dt (K:=1000000000) (by decide) (szV k (by omega)) (zx (yg hxk s1) (by omega))) (by simp) (by simp) ?_
   simp[w1,k9,hsum]
  ·simp[vb,k9,e,hk']
   refine za kv' (by simp) (by simp) ?_
   simp[e,hk',hko,hko',d,hf0]
   refine za (wF (n:=P.of[k].v) (by omega) (by omega)) (by simp) (by simp) ?_
   simp
   refine za (cj (K:=30000000) (by decide) (zx hxk hS) (zx s1 (by decide))) (by simp) (by simp) ?_
   simp
   refine za (dt (K:=1000000000) (by decide) (szV k (by omega)) (zx (yg hxk s1) (by omega))) (by simp) (by simp) ?_
   simp[w1,k9,hsum]
  ·have hxv:x k=1:=h.one k hk' (by rw[hg]; omega)
   have ks:zd Tryz.prog xZ [fq (x k),fq 1] (bv true):=by have:=a8 (q:=1) (by omega:S≤137438953472) hxk; simpa [hxv] using this
   simp[vb,k9,e,hk']
   refine za kv' (by simp) (by simp) ?_
   simp[e,hk',d,hf0,q2,vD]
   refine za (wF (n:=1) (by decide) (by decide)) (by simp; decide) (by simp) ?_
   simp
   refine za ks (by simp) (by simp) ?_
   simp[e,hk',hko,hko']
   refine za (wF (n:=P.of[k].v) (by omega) (by omega)) (by simp) (by simp) ?_
   simp
   refine za (cj (K:=30000000) (by decide) (zx hxk hS) (zx s1 (by decide))) (by simp) (by simp) ?_
   simp
   refine za (dt (K:=1000000000) (by decide) (szV k (by omega)) (zx (yg hxk s1) (by omega))) (by simp) (by simp) ?_
   simp[w1,k9,hsum]
 simp[vb,k9,lM]
 have hrw:P.rows≤20:=by have:=hG.n; unfold Pb.rows; omega
 refine zl (Tn P fx x) (fun _=>True) P.rows (by simp[Tn]) trivial (fun r hr _=>?_) (fun _=>?_)
 ·have e:(r:Int)<P.rows:=by omega
  have w1:=zm (k:=r) (by omega)
  have hrow:=ER (P:=P) (r:=(r:Int)) hn (by omega)
  have e0:(0:Int)≤r∧(r:Int)<(y6 P:Nat):=by unfold y6; rw[if_pos hc]; omega
  unfold XC at hrow
  rw[if_pos e0,if_pos e0,Int.toNat_natCast] at hrow
  have hbo:=eH hG hr
  simp[rH,Tn]
  refine za hrows (by simp) (by simp) ?_
  simp[e]
  refine za hrow (by simp) (by simp) ?_
  simp
  refine za TJ (by simp) (by simp) ?_
  simp
  have hz:fr 0=fr (zg 0 fun i=>P.cof r i*x i):=rfl
  refine zl (Tm P fx x r) (fun _=>True) fx.length (by simp[Tm,hz]) trivial (fun k hk' _=>?_) (fun _=>?_)
  ·have e2:(k:Int)<fx.length:=by omega
   have hko:k<P.of.length:=by omega
   have hko':(k:Int)<P.of.length:=by omega
   have w2:=zm (k:=k) (by omega)
   have hcl:k<(clR (vO P r)).length:=by simpa using hko
   have hrl:(clR (vO P r))[k]=[iv (P.coef r P.of[k])]:=by simp[clR,vO]
   have hcf:=uq (xC (yU (hG.off _ (at_mem hko))).1).2.2 hr
   have hck:P.cof r k=((P.coef r P.of[k]:Int):Rat):=by unfold Pb.cof; rw[wI hko]
   rw[wI hko] at hcf
   obtain ⟨c,hcc⟩:∃ c,P.coef r P.of[k]=c:=⟨_,rfl⟩
   rw[hcc] at hcf hrl hck
   have s2:sz 2 ((c:Int):Rat):=uL (by omega)
   have hsum:(zg k fun i=>P.cof r i*x i)+x k*((c:Int):Rat)=zg (k+1) fun i=>P.cof r i*x i:=by
    simp only[zg]
    rw[hck]; grind
   simp[rG,Tm,e2,hk',hko,hko',hrl]
   refine za (wF (n:=c) (by omega) (by omega)) (by simp) (by simp) ?_
   simp
   refine za (cj (K:=30000000) (by decide) (zx (hx k hk') hS) (zx s2 (by decide))) (by simp) (by simp) ?_
   simp
   refine za (dt (K:=1000000000) (by decide) (szR r k hr (by omega)) (zx (yg (hx k hk') s2) (by omega))) (by simp) (by simp) ?_
   simp[w2,Tm,hsum]
  ·have o:¬ 0<wt (zg fx.length fun i=>P.cof r i*x i) ((P.bnd r:Int):Rat):=fun hh=>by
    have h1:=LA.1 hh
    have h2:=h.row r hr
    grind
   simp[rG,Tm,lJ]
   refine za (wF (n:=P.bnd r) (by omega) (by omega)) (by simp) (by simp) ?_
   simp
   refine za (aez (K:=1000000000) (by decide) (szR r fx.length hr (Nat.le_refl _)) (zx (uL (K:=3) (n:=P.bnd r) (by omega)) (by decide))) (by simp) (by simp) ?_
   simp[o,lK,w1,Tn]
 simp[rH,Tn]
 refine za hrows (by simp) (by simp) ?_
 simp[lL,fz]
theorem aew {X:Nat→Rat} (hX:∀ j,sz S (X j)) (i:Nat):sz S (bX fx X i):=by
 unfold bX
 split
 ·exact Tw
 ·split
  ·exact hX _
  ·exact xQ
theorem C0:P.pick (ints (vH fx 1 fx.length))=P.inL fx:=by
 unfold Pb.pick ints Pb.inL Pb.inK
 rw[List.map_map]
 rfl
theorem abu (hl:fx.length=P.of.length):okP P.of.length (ints (vH fx 1 fx.length)) :=
 Bo (List.Pairwise.filter _ List.pairwise_lt_range) fun j hj=>by have:=(mO hj).1; omega
theorem D9 (hfx:fx.length<4611686018427387904):zd Tryz.prog qH [.agg (pbC P),clA fx] (bv true):=by
 have kl:=d9 (aa8 (P:=P) (n:=8) (Y:=fun _=>⟨false,[],[]⟩) (m:=0) (by decide)) (A8 (c:=z8) AV.imp.refl AV.imp.refl (AV.imp_nil rfl))
 refine zC Yj (by simp) ?_
 simp[kL]
 refine za kl (by simp) (by simp) ?_
 by_cases c1:Js P.of.length P.cl.length 8 (fun _=>(⟨false,[],[]⟩:RF)) 0
 rotate_left
 ·rw[qu c1]
  simp
  refine za (xs:=[]) (args:=[]) eX rfl (.inl rfl) ?_
  simp[wE]
 rw[Rq c1]
 by_cases c2:fx.length≤20
 rotate_left
 ·have c2':(20:Int)<fx.length:=by omega
  simp[c2']
  refine za (xs:=[]) (args:=[]) eX rfl (.inl rfl) ?_
  simp[wE]
 have c2':¬ (20:Int)<fx.length:=by omega
 obtain ⟨g1,g2,_,_⟩:=c1
 have hn:P.cl.length≤1000:=by omega
 have hk:P.of.length≤9:=by omega
 have hk':P.of.length≤1000000:=by omega
 have w0:IntKind.i64.wrap 0=0:=by decide
 simp[c2']
 by_cases c3:P.fixE fx=0
 rotate_left
 ·have kb:=D8 (fx:=fx) hn hk' c3
  refine za kb (by simp) (by simp) ?_
  simp
  refine za (Xo (fx:=fx) hn hk') (by simp) (by simp) ?_
  simp[c3,w0]
  refine za (xs:=[]) (args:=[]) eX rfl (.inl rfl) ?_
  simp[wE]
 obtain ⟨hc,hl,hok⟩:=tG c3
 have hG:=uS hc
 have ka:=MK (fx:=fx) c2
 have kf:=d9 (MQ (P:=P) hn hk' hc (abu (fx:=fx) hl)) (A7 AV.imp.refl (qy tJ))
 rw[C0] at kf
 by_cases hfit:P.fits (P.inL fx)
 rotate_left
 ·have kb:=aav (fx:=fx) hn hk' c3 hfit
  rw[if_neg hfit] at kf
  refine za kb (by simp) (by simp) ?_
  simp
  refine za (Xo (fx:=fx) hn hk') (by simp) (by simp) ?_
  simp[c3]
  refine za ka (by simp) (by simp) ?_
  simp
  refine za kf (by simp) (by simp) ?_
  simp[w0]
  refine za B9 (by simp) (by simp) ?_
  simp
  refine za (xs:=[]) (args:=[]) eX rfl (.inl rfl) ?_
  simp[wE]
 rw[if_pos hfit] at kf
 obtain ⟨X,Z,v,⟨ho,hx,hz,hv⟩,kb⟩:=Lg (fx:=fx) hn hk c3 hfit
 obtain ⟨B,hB⟩:∃ B,((P.accV fx fx.length:Int):Rat)+v=B:=⟨_,rfl⟩
 have hbv:=GG ho
 have hbf:=aex ho
 have hb0:=ZE
 have hBs:sz 30000000 B:=by
  rw[← hB]
  exact zx (r4 (QG hG hl) hv) (by rw[ZE]; omega)
 rw[hB] at kb hbv hbf
 have kr:=EL (x:=bX fx X) hn (by omega) c3 (S:=bL) (by omega) (fun i _=>aew hx i) (GF ho)
 rw[hbv] at kr
 have ks:zd Tryz.prog xZ [fq B,fq B] (bv true):=by have:=a8 (q:=B) (by decide:30000000≤137438953472) hBs; simpa using this
 refine za kb (by simp) (by simp) ?_
 simp
 refine za (Xo (fx:=fx) hn hk') (by simp) (by simp) ?_
 simp[c3]
 refine za ka (by simp) (by simp) ?_
 simp
 refine za kf (by simp) (by simp) ?_
 simp
 refine za kr (by simp) (by simp) ?_
 simp
 have hgd:kV (fun r=>RF.of (Z r)) P.rows:=fun r hr=>⟨Xi _,by
  show decide ((Z r).num<0)=false
  exact decide_eq_false fun hh=>by
   have h1:=uV.1 hh
   have h2:=ho.y0 r
   grind⟩
 have e3:fpE P fx (fun r=>RF.of (Z r)) P.rows=0:=by
  unfold fpE
  rw[if_neg fun h=>h c3,if_neg fun h=>h rfl,pT hgd]
 have kp:=R8 (P:=P) (fx:=fx) (Y:=fun r=>RF.of (Z r)) (m:=P.rows) (S:=bL) hn hk' (by omega) (by have:=hG.n; unfold Pb.rows; omega) (fun r _=>mD (by omega:bL≤137438953472) (hz r)) (fun r _=>by rw[Sm]; exact hz r)
 have e4:(P.fpQ fx fun r=>(RF.of (Z r)).q)=B:=by
  simp only[Sm]
  exact hbf
 have hL:hL (fun r=>RF.of (Z r)) P.rows=fL Z P.rows:=by unfold YtfmcplfbnkoglaaGreat.hL fL; rw[ZM fun _ _=>rfl]
 rw[e3,if_pos rfl,e4,hL] at kp
 refine za kp (by simp) (by simp) ?_
 simp
 refine za ks (by simp) (by simp) ?_
 simp
 refine za ks (by simp) (by simp) ?_
 simp
 refine za (xs:=[]) (args:=[]) eX rfl (.inl rfl) ?_
 simp[wE]
end
theorem boundBest_contract (xs:List AV) (h:X1 [AW,.slice (.int .i64)] xs):zd Tryz.prog qH xs (bv true):=by
 obtain ⟨x,y,rfl,h1,h2⟩:=Gy h
 obtain ⟨P,rfl,_⟩:=abH h1
 obtain ⟨fx,hcs,hl⟩:=LU h2
 simp only[List.cons.injEq,and_true] at hcs
 subst hcs
 exact D9 (by unfold reachBytes at hl; omega)
end Go.Proofs.YtfmcplfbnkoglaaGreat
