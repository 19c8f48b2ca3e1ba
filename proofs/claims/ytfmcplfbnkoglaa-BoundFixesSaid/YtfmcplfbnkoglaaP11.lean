/- What the proof rests on, part 11: X11 X12 X13 Y0 BD GQ QT BAr BB BC BH BI BK BJ BHi QZ BL QV BM BN BO BP. -/
import Derived.Test.YtfmcplfbnkoglaaP10
set_option maxRecDepth 100000
set_option maxHeartbeats 4000000
namespace Go.Proofs.Ytfmcplfbnkoglaa
open Go Go.Am Go.Dig Go.LP
theorem KN {n m i:Nat} {d:zn} (hi:i<m):∀ k,(∀ a b,a<k→b<k→d.fre a=d.fre b→a=b)→xJ n m d k i=- zh k fun j=>if d.fre j=n+i then d.cst j else 0
 | 0,_=>by simp only[xJ,zh]; grind
 | k+1,hinj=>by
  have ih:=KN hi (d:=d) (n:=n) k fun a b ha hb=>hinj a b (by omega) (by omega)
  simp only[xJ,zh]
  by_cases e:d.fre k=n+i
  ·rw[if_pos ⟨by omega,by omega⟩,if_pos e,zO fun j hj=>if_neg fun e2=>by have:=hinj j k (by omega) (by omega) (by rw[e,e2]); omega]
   have:d.fre k-n=i:=by omega
   rw[this]
   simp only[upd,if_true]
   grind
  ·rw[if_neg e]
   split
   ·rename_i hc
    have:¬ i=d.fre k-n:=by omega
    simp only[upd,if_neg this]
    rw[ih]; grind
   ·rw[ih]; grind
theorem Db {n m i N:Nat} {d:zn} (hb:Bij d N) (hi:i<m):xJ n m d d.c i=- cv d (n+i):=KN hi d.c fun _ _ ha hb'=>mP hb ha hb'
theorem KM {n j:Nat} {d:zn} (hj:j<n):∀ k,(∀ a b,a<k→b<k→d.bas a=d.bas b→a=b)→p7 n d k j=zh k fun i=>if d.bas i=j then d.b i else 0
 | 0,_=>rfl
 | k+1,hinj=>by
  have ih:=KM hj (d:=d) k fun a b ha hb=>hinj a b (by omega) (by omega)
  simp only[p7,zh]
  by_cases e:d.bas k=j
  ·rw[if_pos (by omega),if_pos e,zO fun i hi=>if_neg fun e2=>by have:=hinj i k (by omega) (by omega) (by rw[e,e2]); omega]
   rw[e]
   simp only[upd,if_true]
   grind
  ·rw[if_neg e]
   split
   ·have:¬ j=d.bas k:=fun h=>e h.symm
    simp only[upd,if_neg this]
    rw[ih]; grind
   ·rw[ih]; grind
theorem aeD {n j N:Nat} {d:zn} (hb:Bij d N) (hj:j<n):p7 n d d.r j=vl d j:=KM hj d.r fun _ _ ha hb'=>jp hb ha hb'
theorem K5 {n j q:Nat} {d:zn} (hj:j<n):∀ k,(∀ a b,a<k→b<k→d.bas a=d.bas b→a=b)→(∀ a,a<k→d.bas a≠d.fre q)→tH n d q k j=(zh k fun i=>if d.bas i=j then-d.a i q else 0)+if d.fre q=j then 1 else 0
 | 0,_,_=>by
  simp only[tH,zh]
  by_cases e:d.fre q=j
  ·rw[if_pos (by omega),if_pos e,e]
   simp only[upd,if_true]; grind
  ·rw[if_neg e]
   split
   ·have:¬ j=d.fre q:=fun h=>e h.symm
    simp only[upd,if_neg this]; grind
   ·grind
 | k+1,hinj,hne=>by
  have ih:=K5 hj (d:=d) (q:=q) k (fun a b ha hb=>hinj a b (by omega) (by omega)) fun a ha=>hne a (by omega)
  simp only[tH,zh]
  by_cases e:d.bas k=j
  ·rw[if_pos (by omega),if_pos e,zO fun i hi=>if_neg fun e2=>by have:=hinj i k (by omega) (by omega) (by rw[e,e2]); omega]
   have h2:¬ d.fre q=j:=fun h=>hne k (by omega) (by rw[e,h])
   rw[if_neg h2,e]
   simp only[upd,if_true]
   grind
  ·rw[if_neg e]
   split
   ·have:¬ j=d.bas k:=fun h=>e h.symm
    simp only[upd,if_neg this]
    rw[ih]; grind
   ·rw[ih]; grind
theorem afW {n j q N:Nat} {d:zn} (hb:Bij d N) (hq:q<d.c) (hj:j<n):tH n d q d.r j=eH d q j :=
 K5 hj d.r (fun _ _ ha hb'=>jp hb ha hb') fun _a ha e=>uG hb ha hq e.symm
def yS (bb:Nat→Rat):Nat→Int
 | 0=>-1
 | k+1=>if bb k<0∧(yS bb k<0∨bb k<bb (yS bb k).toNat) then k else yS bb k
theorem YP (bb:Nat→Rat):∀ k,-1≤yS bb k∧yS bb k<k
 | 0=>by simp[yS]
 | k+1=>by have:=YP bb k; simp only[yS]; split<;>omega
theorem Ut {bb:Nat→Rat}:∀ k,yS bb k<0→∀ i,i<k→0≤bb i
 | 0,_,i,hi=>by omega
 | k+1,h,i,hi=>by
  simp only[yS] at h
  split at h
  ·omega
  ·rename_i hn
   by_cases e:i=k
   ·subst e
    have:¬ bb i<0:=fun h0=>hn ⟨h0,.inl h⟩
    grind
   ·exact Ut k h i (by omega)
theorem Uu {bb:Nat→Rat}:∀ k,0≤yS bb k→bb (yS bb k).toNat<0∧∀ i,i<k→bb (yS bb k).toNat≤bb i
 | 0,h=>by simp[yS] at h
 | k+1,h=>by
  have b:=YP bb k
  simp only[yS] at h ⊢
  split
  ·rename_i hc
   refine ⟨by simpa using hc.1,fun i hi=>?_⟩
   simp only[Int.toNat_natCast]
   by_cases e:i=k
   ·subst e; grind
   ·by_cases h1:yS bb k<0
    ·have:=Ut k h1 i (by omega); have:=hc.1; grind
    ·have h2:=hc.2.resolve_left h1
     have:=(Uu (bb:=bb) k (by omega)).2 i (by omega)
     grind
  ·rename_i hc
   rw[if_neg hc] at h
   obtain ⟨h1,h2⟩:=Uu k h
   refine ⟨h1,fun i hi=>?_⟩
   by_cases e:i=k
   ·subst e
    have:¬ bb i<bb (yS bb i).toNat:=fun h3=>hc ⟨by grind,.inr h3⟩
    grind
   ·exact h2 i (by omega)
noncomputable def tN (n m:Nat) (A:Nat→Nat→Rat) (bb:Nat→Rat):List (Nat × ze) :=
 [(1015,.var [iv n,iv m,.us 1961 1 0 m,.us 1972 3 0 m,vH n,f0 0,f1 0,f2 0,.us 1987 1 0 m,.us 2029 1 0 n]),(2029,.uarr 1 (nR id n)),
   (1961,.uarr 1 (oR A om (fun _=>n) m)),(1972,.uarr 3 (fR bb m)),(1987,.uarr 1 (nR (fun i=>n+i) m))]
theorem FI {n:Nat}:vn (vH n) (fL (fun _=>0) n):=by
 unfold vH
 split
 ·rename_i h; subst h; exact vn.nil
 ·exact vn.list
theorem KE {g h:Nat→List AV} {n:Nat} (e:∀ i,i<n→∃ x y,g i=[x]∧h i=[y]∧vn x y):∀ (i:Nat) r r',(mR g n)[i]?=some r→(mR h n)[i]?=some r'→r'.length=r.length∧∀ (j:Nat) c c',r[j]?=some c→r'[j]?=some c'→vn c c':=by
 intro i r r' hr hr'
 have hi:i<n:=by have:=(List.getElem?_eq_some_iff.1 hr).1; simpa using this
 rw[rY hi] at hr hr'
 obtain ⟨x,y,e1,e2,hw⟩:=e i hi
 simp only[Option.some.injEq] at hr hr'
 subst hr hr'
 rw[e1,e2]
 refine ⟨rfl,fun j c c' hj hj'=>?_⟩
 cases j with
 | zero=>simp only[List.getElem?_cons_zero,Option.some.injEq] at hj hj'; subst hj hj'; exact hw
 | succ j=>simp at hj
def dZ (n m:Nat) (A:Nat→Nat→Rat) (bb:Nat→Rat):zn:=dG n m A bb fun _=>0
theorem Zk {ρ l l':List (Nat × ze)} (h:lk l=lk l'):lk (ρ++l)=lk (ρ++l'):=by
 funext k
 induction ρ with
 | nil=>exact congrFun h k
 | cons p ρ ih =>
  obtain ⟨q,x⟩:=p
  simp only[List.cons_append,lk]
  split
  ·rfl
  ·exact ih
theorem Kn {s t:St} (h1:s.env=t.env) (h2:lk s.sto=lk t.sto) (h3:s.out=t.out):St.impW s t:=by
 intro F a w I β lam hI
 have e:t.look=s.look:=by
  funext ⟨d,k⟩
  cases d<;>simp only[St.look,h1,h3]
 rw[e,← h2]
 exact hI
theorem Nc {s:St} {env:List (Nat × AV)} (h:qa s.env env):St.impW s {s with env:=env}:=by
 intro F a w I β lam hI
 refine {hI with env:=fun t x hx=>hI.env t x ?_}
 obtain ⟨d,t⟩:=t
 cases d with
 | zero=>exact YH h hx
 | succ d=>exact hx
theorem acY {n m:Nat} {A:Nat→Nat→Rat} {bb:Nat→Rat} {ρ:List (Nat × ze)} {env:List (Nat × AV)} {out:List (List (Nat × AV))} {base:Nat} (hρ:rest ρ) :
  St.impW ⟨env,ρ++tN n m A bb,out,base⟩ ⟨env,ρ++tL n m (dZ n m A bb),out,base⟩:=by
 refine St.impW.trans (St.impW_cell_weak (k:=1015) (j:=4) (y:=fL (fun _=>0) n) (by simp[tN,rlk hρ,far]; rfl) rfl FI) ?_
 simp[tN,rpt hρ,far]
 refine St.impW.trans (St.impW_uarr (l:=1961) (sz:=1) (rows':=cR A (fun _=>n) m) (by simp[rlk hρ,far]; rfl) (by simp) (KE fun i hi=>⟨_,_,rfl,rfl,vn.list⟩)) ?_
 simp[rpt hρ,far]
 refine Kn rfl (Zk (Rk ?_ ?_)) rfl
 ·simp[tL,dZ,dG,tU,qc]; rfl
 ·simp[tL,dZ,dG,tU,qc]; rfl
theorem R7:y6 Try.prog te=true:=by kernel_rfl
theorem lC:y6 Try.prog x8=true:=by kernel_rfl
noncomputable def bq (n m:Nat) (A:Nat→Nat→Rat) (bb:Nat→Rat) (ρ:List (Nat × ze)) (out:List (List (Nat × AV))) (k:Nat):St :=
 {env:=[(0,.ptr 1015 0),(4,iv (yS bb k)),(12,.us 1972 3 0 m),(13,iv m),(14,iv k)],sto:=ρ++tN n m A bb,out:=out,base:=4000}
noncomputable def aR (A:Nat→Nat→Rat) (n k m:Nat):List (List AV):=mR (fun i=>if i<k then [fL (fun j=>if j<n then A i j else -1) (n+1)] else [.list 3 (om i) (fR (A i) n)]) m
noncomputable def GQ (n m p:Nat) (A:Nat→Nat→Rat) (bb:Nat→Rat) (ρ:List (Nat × ze)) (out:List (List (Nat × AV))) (k:Nat):St :=
 {env:=[(0,.ptr 1015 0),(4,iv p),(7,.ptr 4007 0),(47,iv m),(48,iv k)],
  sto:=ρ++[(1015,.var [iv n,iv m,.us 1961 1 0 m,.us 1972 3 0 m,vH n,f0 0,f1 0,f2 0,.us 1987 1 0 m,.us 2029 1 0 n]),(2029,.uarr 1 (nR id n)),
   (1961,.uarr 1 (aR A n k m)),(1972,.uarr 3 (fR bb m)),(1987,.uarr 1 (nR (fun i=>n+i) m)),(4007,.var (fr (-1)))],out:=out,base:=4000}
structure Ready (n m L:Nat) (A:Nat→Nat→Rat) (bb:Nat→Rat) (e:zn):Prop where
 bij:Bij e (n+m)
 sol:∀ x,sol e x↔sol (dZ n m A bb) x
 feas:feas e
 r:e.r=m
 c:e.c=n
 sz:szD L e
theorem Mx {n m L:Nat} {A:Nat→Nat→Rat} {bb:Nat→Rat} {ρ:List (Nat × ze)} {env:List (Nat × AV)} {out:List (List (Nat × AV))} {Q:Exit→St→Prop} (hρ:rest ρ) (hE:xf 2000 env) (hO:yq 2000 out) (hm:m<900000) (hL:L≤10000000000) (hb:∀ i,i<m→sz L (bb i))
  (h:Q (.exit 0) ⟨[(0,.ptr 1015 0),(4,iv (yS bb m)),(12,.us 1972 3 0 m),(13,iv m),(14,iv m),(15,bv false)],ρ++tN n m A bb,env::out,4000⟩) :
  awp Try.prog (.loop qv) (bq n m A bb ρ (env::out) 0) Q:=by
 refine zl (bq n m A bb ρ (env::out)) (fun _=>True) m (by simp[bq]) trivial (fun k hk _=>?_) (fun _=>?_)
 ·have e:(k:Int)<m:=by omega
  have w:=zq (k:=k) (by omega)
  obtain ⟨b1,b2⟩:=YP bb k
  have g1:=vi (q:=bb k)
  simp[qv,bq,tN,e,hk,rlk hρ,rpt hρ,far]
  refine za g1 (by simp) (by simp) ?_
  by_cases h0:bb k<0
  ·have h0':yA (bb k)<0:=p9.2 h0
   by_cases h1:yS bb k<0
   ·have ev:yS bb (k+1)=k:=by simp only[yS]; rw[if_pos ⟨h0,.inl h1⟩]
    simp[h0',h1,w,bq,tN,ev,rlk hρ,wB hρ,y7 hρ,eno hE,ono hO,far]
   ·have b3:(yS bb k).toNat<m:=by omega
    have b4:(0:Int)≤yS bb k:=by omega
    have b5:yS bb k<m:=by omega
    have g2:=UY (by omega) (hb k hk) (hb _ b3)
    simp[h0',h1,b3,b4,b5,rlk hρ,far]
    refine za g2 (by simp) (by simp) ?_
    by_cases h2:bb k<bb (yS bb k).toNat
    ·have ev:yS bb (k+1)=k:=by simp only[yS]; rw[if_pos ⟨h0,.inr h2⟩]
     have h2':xV (bb k) (bb (yS bb k).toNat)<0:=qy.2 h2
     simp[h2',w,bq,tN,ev,rlk hρ,wB hρ,y7 hρ,eno hE,ono hO,far]
    ·have ev:yS bb (k+1)=yS bb k:=by simp only[yS]; rw[if_neg fun h=>h.2.elim h1 h2]
     have h2':¬ xV (bb k) (bb (yS bb k).toNat)<0:=fun h=>h2 (qy.1 h)
     simp[h2',w,bq,tN,ev,rlk hρ,wB hρ,y7 hρ,eno hE,ono hO,far]
  ·have h0':¬ yA (bb k)<0:=fun h=>h0 (p9.1 h)
   have ev:yS bb (k+1)=yS bb k:=by simp only[yS]; rw[if_neg fun h=>h0 h.1]
   simp[h0',w,bq,tN,ev,rlk hρ,wB hρ,y7 hρ,eno hE,ono hO,far]
 ·simp[qv,bq]
  exact h
def sec:zc→zc
 | .seq _ b=>b
 | c=>c
def Next (n m:Nat) (e:zn) (res:AV) (e2:zn):Prop :=
 (e.v<0∧res=.tuple [fL (xJ n m e e.c) m,bv false]∧e2=e) ∨
 (¬ e.v<0∧res=.tuple [xH,bv true]∧∃ d1 j0,((d1=e∧∀ i,i<m→e.bas i≠n+m)∨∃ i q,i<m∧q<e.c∧e.bas i=n+m∧(∀ k,k<i→e.bas k≠n+m)∧e.a i q≠0∧(∀ k,k<q→e.a i k=0)∧d1=pivot e i q) ∧
  j0<d1.c∧d1.fre j0=n+m∧(∀ k,k<j0→¬ d1.fre k=n+m)∧e2=pF d1 j0)
noncomputable def tM (X n m:Nat) (A:Nat→Nat→Rat) (bb:Nat→Rat):List (Nat × ze) :=
 [(1015,.var [iv n,iv m,.us 1961 1 0 m,.us 1972 3 0 m,.list 3 (.own X) (fR (dA n m A bb).cst (n+1)),f0 0,f1 0,f2 0,.us 1987 1 0 m,.us 2029 1 0 (n+1)]),(2029,.uarr 1 (nR (dA n m A bb).fre (n+1))),
  (1961,.uarr 1 (cR (dA n m A bb).a (fun _=>n+1) m)),(1972,.uarr 3 (fR bb m)),(1987,.uarr 1 (nR (fun i=>n+i) m))]
theorem acX {X n m:Nat} {A:Nat→Nat→Rat} {bb:Nat→Rat} {ρ:List (Nat × ze)} {env:List (Nat × AV)} {out:List (List (Nat × AV))} {base:Nat} (hρ:rest ρ) :
  St.impW ⟨env,ρ++tM X n m A bb,out,base⟩ ⟨env,ρ++tL n m (dA n m A bb),out,base⟩:=by
 refine St.impW.trans (St.impW_cell_weak (k:=1015) (j:=4) (y:=fL (dA n m A bb).cst (n+1)) (by simp[tM,rlk hρ,far]; rfl) rfl vn.list) ?_
 simp[tM,rpt hρ,far]
 refine Kn rfl (Zk (Rk ?_ ?_)) rfl
 ·simp[tL,dA,tU,qc]
 ·simp[tL,dA,tU,qc]
theorem aa0 {A:Nat→Nat→Rat} {n m:Nat}:aR A n 0 m=oR A om (fun _=>n) m:=uU fun i _=>if_neg (by omega)
theorem aaZ {A:Nat→Nat→Rat} {bb:Nat→Rat} {n m:Nat}:aR A n m m=cR (dA n m A bb).a (fun _=>n+1) m:=uU fun _i hi=>if_pos hi
theorem GU {n m p L:Nat} {A:Nat→Nat→Rat} {bb:Nat→Rat} {e e2:zn} {res:AV} (hm:m<900000) (hn:n<900000) (hL:L≤10000000000) (hb:∀ i,i<m→sz L (bb i)) (hw:yS bb m=(p:Nat)) (hp:p<m)
  (szA:szD L (dA n m A bb)) (sze:szD L e) (her:e.r=m) (hec:e.c=n+1) (hfre:∀ j,j<e.c→e.fre j<4000000)
  (hopt:∀ {ρ:List (Nat × ze)} {s:St} {K:AV→St→Prop},s.sto=ρ++tL n m (pivot (dA n m A bb) p n)→rest ρ→xf 2000 s.env→yq 2000 s.out→K (eE e) ⟨s.env,ρ++tL n m e,s.out,s.base⟩→yc Try.prog x8 [.ptr 1015 0] s K)
  (hx:Next n m e res e2) {ρ:List (Nat × ze)} {s:St} {K:AV→St→Prop} (hs:s.sto=ρ++tN n m A bb) (hρ:rest ρ) (hE:xf 2000 s.env) (hO:yq 2000 s.out) (h:K res ⟨s.env,ρ++tL n m e2,s.out,s.base⟩) :
  yc Try.prog uQ [.ptr 1015 0] s K:=by
 obtain ⟨env,σ,out,base⟩:=s
 simp only at hs hE hO h
 subst hs
 have hO2:yq 2000 (env::out):=l7.2 ⟨hE,hO⟩
 have g0:zd Try.prog zP [iv (-1)] (fq (-1)):=yH (n:=-1) (by decide) (by decide)
 refine vF 4000 Xj (by simp) ?_
 simp[f7,tN,rlk hρ,far]
 refine Mx (n:=n) (A:=A) hρ hE hO hm hL hb ?_
 have hp0:¬ (p:Int)<0:=by omega
 simp[mI,hw,hp0,sV]
 refine za g0 (by simp) (by simp) ?_
 simp[tN,rlk hρ,rpt hρ,far]
 refine mG (GQ n m p A bb ρ (env::out)) (fun _=>True) m (St.imp_of (by simp[GQ,aa0])) trivial (fun k hk _=>?_) (fun _=>?_)
 ·have e1:(k:Int)<m:=by omega
  have w:=zq (k:=k) (by omega)
  have g:(aR A n k m)[k]?=some [.list 3 (om k) (fR (A k) n)]:=by unfold aR; rw[rY hk,if_neg (by omega)]
  have gE:∀ h,(aR A n k m)[k]'h=[.list 3 (om k) (fR (A k) n)]:=fun h=>(List.getElem?_eq_some_iff.1 g).2
  have aL:(aR A n k m).length=m:=n9
  have hf:far (1000000+k)=true:=decide_eq_true (by omega)
  have l1:∀ l,lk (ρ++l) (1000000+k)=lk l (1000000+k):=fun l=>rlk hρ hf
  have hd0:=mf (k:=1000000+k) hρ (by omega)
  have hd1:=edg (k:=1000000+k) hE (by omega)
  have hd2:=odg (k:=1000000+k) hO (by omega)
  have hd3:=Yg (l:=1000000+k) (k:=n) (by omega)
  have n0:∀ j,j<1000000→¬ j=1000000+k:=fun j hj=>by omega
  have hdg:zX (1000000+k) (aR A n k m)=mR (fun i=>if i<k then [fL (fun j=>if j<n then A i j else -1) (n+1)] else [.list 3 (if i=k then .plain else om i) (fR (A i) n)]) m:=by
   unfold aR zX
   refine Zn fun i hi=>?_
   by_cases h1:i<k
   ·rw[if_pos h1,if_pos h1]; simp
   ·rw[if_neg h1,if_neg h1]
    by_cases h2:i=k
    ·subst h2; simp[om,dg]
    ·rw[if_neg h2]
     simp[om,dg,h2]
  have wn:(n+1)*56≤140737488355328:=by omega
  have wn2:n≤9223372036854775806:=by omega
  have hfa:fR (A k) n++[fr (-1)]=fR (fun j=>if j<n then A k j else -1) (n+1):=by
   rw[dn,if_neg (Nat.lt_irrefl n)]
   rw[ye (f:=fun j=>if j<n then A k j else -1) (g:=A k) fun j hj=>if_pos hj]
  simp[mJ,GQ,e1,hk,gE,aL,om,rlk hρ,rpt hρ,wB hρ,far,w,l1,hd0,hd1,hd2,hd3,n0,hdg,-dgE,vu,wO,wn,wn2,hfa]
  rw[Tq]
  refine St.imp.trans (St.imp_uarr (l:=1961) (sz:=1) (rows':=aR A n (k+1) m) (by simp[rlk hρ,far]; rfl) (by simp[aR]) ?_) ?_
  ·unfold aR
   refine KE fun i hi=>?_
   by_cases h1:i=k
   ·subst h1
    exact ⟨.list 3 (.own (1000000+i)) (fR (fun j=>if j<n then A i j else -1) (n+1)),fL (fun j=>if j<n then A i j else -1) (n+1),by simp[upd],by rw[if_pos (by omega)],vn.list⟩
   ·by_cases h2:i<k
    ·exact ⟨fL (fun j=>if j<n then A i j else -1) (n+1),_,by simp only[upd,if_neg h1,if_pos h2],by rw[if_pos (by omega)],vn.refl⟩
    ·exact ⟨.list 3 (om i) (fR (A i) n),.list 3 (om i) (fR (A i) n),by simp only[upd,if_neg h1,if_neg h2]; rfl,by rw[if_neg (by omega)],vn.refl⟩
  ·simp[rpt hρ,far]
   exact St.imp.refl
 ·have wn1:(n+1)*8≤140737488355328:=by omega
  have wn:(n+1)*56≤140737488355328:=by omega
  have wn2:n≤9223372036854775806:=by omega
  have wnm:IntKind.i64.wrap ((n:Int)+m)=((n+m:Nat):Int):=by rw[wrap64]<;>omega
  have hdg:=Yg (l:=2029) (k:=n) (by omega)
  have hfe:nR id n++[[iv ((n:Int)+m)]]=nR (dA n m A bb).fre (n+1):=by
   unfold nR
   rw[SJ]
   simp only[dA,Nat.lt_irrefl,if_false,Int.natCast_add]
   congr 1
   exact uU fun i hi=>by rw[if_pos hi]; rfl
  simp[mJ,GQ,qu,rlk hρ,rpt hρ,far,mf hρ,edg hE,odg hO,-dgE,vu,wO,hdg,wn1,wn2,wnm,aaZ (bb:=bb),hfe]
  have hcs:fR (fun _=>0) n++[fr (-1)]=fR (dA n m A bb).cst (n+1):=by
   rw[dn]
   simp only[dA,Nat.lt_irrefl,if_false]
   rw[ye (f:=fun j=>if j<n then (0:Rat) else -1) (g:=fun _=>0) fun j hj=>if_pos hj]
  have hc0:(n=0∧vH n=xH)∨vH n=.list 3 (.own 2039) (fR (fun _=>0) n):=by
   unfold vH
   split
   ·exact .inl ⟨by assumption,rfl⟩
   ·exact .inr rfl
  have wn3:IntKind.i64.wrap (n:Int)=n:=by rw[wrap64]<;>omega
  have hds:(dA n m A bb).c=n+1:=rfl
  have pv:∀ (X:Nat) (env0:List (Nat × AV)),qa env0 [(0,.ptr 1015 0)]→∀ {K:AV→St→Prop},K (.tuple []) ⟨[(0,.ptr 1015 0)],ρ++tL n m (pivot (dA n m A bb) p n),env::out,4000⟩→yc Try.prog uP [.ptr 1015 0,iv p,iv n] ⟨env0,ρ++tM X n m A bb,env::out,4000⟩ K:=fun X env0 h0 K hK =>
   yc.pre (St.impW.trans (acX hρ) (Nc h0)) (NR (s:=⟨[(0,.ptr 1015 0)],ρ++tL n m (dA n m A bb),env::out,4000⟩) (d:=dA n m A bb) (ρ:=ρ) (n:=n) (m:=m) (L:=L) rfl hρ (by simp[yI,xg,xR]) hO2 (by omega) (by simp only[dA]; omega) rfl hp (by simp only[dA]; omega) hL szA Jg hK)
  have sg:=vi (q:=e.v)
  have fin:tv Try.prog x8 [AV.ptr 1015 0]
    {env:=[(0,AV.ptr 1015 0),(105,AV.ptr 1015 0)],sto:=ρ++tL n m (pivot (dA n m A bb) p n),out:=env::out,base:=4000} (some 106)
    (eF Try.prog [] (PS [105,106] [] (r9 Try.prog (sec (sec (sec (sec qu)))) (X8 sV base K)))):=by
   refine yb (hopt rfl hρ (by simp[yI,xg,xR]) hO2 ?_)
   simp[sec,qu,tL,rlk hρ,far]
   refine za sg (by simp) (by simp) ?_
   rcases hx with ⟨hv,rfl,rfl⟩ | ⟨hv,rfl,d1,j0,h1,hj0,hf0,hmin,rfl⟩
   ·have hv':yA e2.v<0:=p9.2 hv
    simp[hv',R7]
    refine yb (acm (s:=⟨_,ρ++tL n m e2,env::out,4000⟩) (n:=n) (m:=m) (d:=e2) (ρ:=ρ) (L:=L) rfl hρ ?_ hO2 (by omega) (by omega) (by omega) hfre (by omega) sze.cst ?_)
    ·simp[yI,xg,rX,xR]
    simp[sV]
    exact h
   ·have hv':¬ yA e.v<0:=fun h=>hv (p9.1 h)
    simp[hv',EN]
    refine yb (acw (s:=⟨_,ρ++tL n m e,env::out,4000⟩) (d:=e) (d1:=d1) (ρ:=ρ) (n:=n) (m:=m) (L:=L) rfl hρ (by simp[yI,xg,rX,xR]) hO2 (by omega) (by omega) (by omega) her hL sze h1 hj0 hf0 hmin ?_)
    simp[sV]
    exact h
  rcases hc0 with ⟨hn0,hc⟩ | hc
  ·have hcs2:[fr (-1)]=fR (dA n m A bb).cst (n+1):=by rw[← hcs,hn0]; rfl
   simp[hc,hcs2,rlk hρ,rpt hρ,wB hρ,far,mf hρ,edg hE,odg hO,-dgE,vu,wO,wn,wn2,wn3,y7 hρ,eno hE,ono hO,cM]
   refine yb (pv 4093 _ (by simp[tU,qc]) ?_)
   simp[lC]
   exact fin
  ·simp[hc,hcs,rlk hρ,rpt hρ,wB hρ,far,mf hρ,edg hE,odg hO,-dgE,vu,wO,wn,wn2,wn3,y7 hρ,eno hE,ono hO,cM]
   refine yb (pv 2039 _ (by simp[tU,qc]) ?_)
   simp[lC]
   exact fin
theorem aeU {n m S t:Nat} {A:Nat→Nat→Rat} {bb:Nat→Rat} (ht:m≤t∨n+1≤t) (hm:m<900000) (hn:n<900000) (hS:grow S t≤10000000000) (ha:∀ i j,i<m→j<n→sz S (A i j)) (hb:∀ i,i<m→sz S (bb i)) :
  (∃ e y,(Inf n m A bb y∧∀ i,sz (grow S t) (y i))∧∀ {ρ:List (Nat × ze)} {s:St} {K:AV→St→Prop},s.sto=ρ++tN n m A bb→rest ρ→xf 2000 s.env→yq 2000 s.out→K (.tuple [fL y m,bv false]) ⟨s.env,ρ++tL n m e,s.out,s.base⟩→yc Try.prog uQ [.ptr 1015 0] s K) ∨
  (∃ e,Ready n m (grow S t) A bb e∧∀ {ρ:List (Nat × ze)} {s:St} {K:AV→St→Prop},s.sto=ρ++tN n m A bb→rest ρ→xf 2000 s.env→yq 2000 s.out→K (.tuple [xH,bv true]) ⟨s.env,ρ++tL n m e,s.out,s.base⟩→yc Try.prog uQ [.ptr 1015 0] s K):=by
 have hSm:S≤grow S t:=Zc (m:=0) (Nat.zero_le t)
 have sm1:sz S (-1):=qe T4
 have szA:szD S (dA n m A bb):=⟨fun i j hi hj=>by
   simp only[dA] at hi ⊢
   split
   ·exact ha i j hi (by assumption)
   ·exact sm1,fun i hi=>hb i hi,fun j hj=>by
   simp only[dA]
   split
   ·exact wl
   ·exact sm1,wl⟩
 have szZ:szD (grow S t) (dZ n m A bb):=Um ⟨fun i j hi hj=>ha i j hi hj,fun i hi=>hb i hi,fun j hj=>wl,wl⟩ hSm
 have bw:=YP bb m
 by_cases hw:yS bb m<0
 ·refine .inr ⟨dZ n m A bb,⟨FJ,fun _=>Iff.rfl,fun i hi=>Ut m hw i hi,rfl,rfl,szZ⟩,?_⟩
  intro ρ s K hs hρ hE hO h
  obtain ⟨env,σ,out,base⟩:=s
  simp only at hs hE hO h
  subst hs
  refine yc.post (K:=fun r s'=>r=.tuple [xH,bv true]∧s'=⟨env,ρ++tN n m A bb,out,base⟩) ?_ fun r s' ⟨e1,e2⟩=>.inl ⟨_,by subst e2; exact acY hρ,by subst e1; exact h⟩
  refine vF 4000 Xj (by simp) ?_
  simp[f7,tN,rlk hρ,far]
  refine Mx (n:=n) (A:=A) hρ hE hO hm hS (fun i hi=>zC (hb i hi) hSm) ?_
  simp[mI,hw,sV]
  rfl
 ·obtain ⟨p,hp⟩:∃ p:Nat,yS bb m=p:=⟨(yS bb m).toNat,by omega⟩
  have hpm:p<m:=by omega
  obtain ⟨w1,w2⟩:=Uu m (by omega:0≤yS bb m)
  rw[hp] at w1 w2
  simp only[Int.toNat_natCast] at w1 w2
  have hS1:Same (pivot (dA n m A bb) p n) (dA n m A bb) (n+m+1):=GT hpm
  have hF1:feas (pivot (dA n m A bb) p n):=GS w1 w2
  have hsize:∀ e,Same e (pivot (dA n m A bb) p n) (n+m+1)→e.r=(pivot (dA n m A bb) p n).r→e.c=(pivot (dA n m A bb) p n).c→szD (grow S t) e:=fun e he h1 h2 =>
   Same.size_t (d:=dA n m A bb) szA (he.trans hS1).symm h1 h2 ht
  obtain ⟨e,hfin,hopt⟩:=Qa hS1.bd hF1
  have hSe:Same e (dA n m A bb) (n+m+1):=hfin.same.trans hS1
  have her:e.r=m:=hfin.r
  have hec:e.c=n+1:=hfin.c
  have sze:szD (grow S t) e:=hsize e hfin.same hfin.r hfin.c
  have hcst:∀ j,j<e.c→e.cst j≤0:=by
   rcases hfin.out with ⟨_,h⟩ | ⟨q,_,hq,hc,hall⟩
   ·exact h
   ·exact absurd (Li hSe hfin.feas hq hc hall) id
  have hfre:∀ j,j<e.c→e.fre j<4000000:=fun j hj=>by have:=lX hSe.bd hj; omega
  have hwalk:=fun {e2:zn} {res:AV} (hx:Next n m e res e2) {ρ:List (Nat × ze)} {s:St} {K:AV→St→Prop}=>GU (n:=n) (m:=m) (p:=p) (L:=grow S t) (A:=A) (bb:=bb) (e:=e) (ρ:=ρ) (s:=s) (K:=K) hm hn hS (fun i hi=>zC (hb i hi) hSm) hp hpm (Um szA hSm) sze her hec hfre
   (fun {ρ s K} hs hρ hE hO hK=>hopt hs hρ hE hO (by omega) (by simp only[pivot,dA]; omega) rfl hS hsize hK) hx
  by_cases hv:e.v<0
  ·refine .inl ⟨e,_,⟨aeh hSe hcst hv,fun i=>qe (aaD hSe.bd sze (n+i))⟩,?_⟩
   have hy:fL (fun i=>- cv e (n+i)) m=fL (xJ n m e e.c) m:=congrArg _ (ye fun i hi=>(Db hSe.bd hi).symm)
   rw[hy]
   exact fun {ρ s K} hs hρ hE hO h=>hwalk (.inl ⟨hv,rfl,rfl⟩) hs hρ hE hO h
  ·have hv0:e.v=0:=by have:=aaQ hSe hfin.feas; grind
   have fin:∀ d1:zn,((d1=e∧∀ i,i<m→e.bas i≠n+m)∨∃ i q,i<m∧q<e.c∧e.bas i=n+m∧(∀ k,k<i→e.bas k≠n+m)∧e.a i q≠0∧(∀ k,k<q→e.a i k=0)∧d1=pivot e i q) →
     Same d1 (dA n m A bb) (n+m+1)→feas d1→d1.r=m→d1.c=n+1→(∃ j,j<d1.c∧d1.fre j=n+m)→szD (grow S t) d1 →
     (∃ e,Ready n m (grow S t) A bb e∧∀ {ρ:List (Nat × ze)} {s:St} {K:AV→St→Prop},s.sto=ρ++tN n m A bb→rest ρ→xf 2000 s.env→yq 2000 s.out→K (.tuple [xH,bv true]) ⟨s.env,ρ++tL n m e,s.out,s.base⟩→yc Try.prog uQ [.ptr 1015 0] s K):=by
    intro d1 h1 hS hF hr hc hex hz
    obtain ⟨j0,hj0,hf0,hmin⟩:=least hex
    refine ⟨pF d1 j0,⟨Bb hS hj0 hf0,fun x=>Bc hS hj0 hf0 x,fun i hi=>hF i hi,hr,by simp only[pF]; omega,
     ⟨fun i j hi hj=>hz.a i _ hi (Q8 hj0 hj),fun i hi=>hz.b i hi,fun j hj=>hz.cst _ (Q8 hj0 hj),hz.v⟩⟩,?_⟩
    exact fun {ρ s K} hs hρ hE hO h=>hwalk (.inr ⟨hv,rfl,d1,j0,h1,hj0,hf0,hmin,rfl⟩) hs hρ hE hO h
   refine .inr ?_
   by_cases hb0:∃ i,i<m∧e.bas i=n+m
   ·obtain ⟨i,hi,hbi,hmin⟩:=least hb0
    obtain ⟨q,hq,haq,hqm⟩:=least (acj hSe (by omega) hbi)
    have hS2:Same (pivot e i q) (dA n m A bb) (n+m+1):=(Same.pivot hSe.bd (by omega) hq haq).trans hSe
    refine fin (pivot e i q) (.inr ⟨i,q,hi,hq,hbi,hmin,haq,fun k hk=>Classical.byContradiction fun h=>hqm k hk h,rfl⟩) hS2 (Bs hfin.feas (aeB hSe (by omega) hbi hv0)) her hec ⟨q,hq,by simp only[pivot,upd,if_true]; exact hbi⟩ ?_
    exact Same.size_t (d:=dA n m A bb) szA hS2.symm her hec ht
   ·refine fin e (.inl ⟨rfl,fun i hi h=>hb0 ⟨i,hi,h⟩⟩) hSe hfin.feas her hec ?_ sze
    rcases bR hSe.bd (show n+m<n+m+1 by omega) with h | ⟨i,hi,h⟩
    ·exact h
    ·exact absurd ⟨i,by omega,h⟩ hb0
@[simp] theorem KD {g:Nat→List AV} {n:Nat}:(mR g n).take n=mR g n:=List.take_of_length_le (by simp)
@[simp] theorem ahI {a:Nat→Nat→Rat} {cl:Nat→Nat} {n:Nat}:(cR a cl n).take n=cR a cl n:=KD
@[simp] theorem ahZ {f:Nat→Nat} {n:Nat}:(nR f n).take n=nR f n:=KD
theorem adB {I I':Nat→Nat→Prop} {w:World} {β β':zS} {lam lam':z4} {v:Value} {x y:Value} (h:R I w β lam (.tuple [.val x,.val y]) v):R I' w β' lam' (.tuple [.val x,.val y]) v:=by
 have key:∀ {l:List AV} {vs:Array Value},l=[.val x,.val y]→vs.size=l.length→(∀ i c,l[i]?=some c→R I w β lam c (vs.getD i undef))→∀ i c,l[i]?=some c→R0 I' w c (vs.getD i undef):=by
  intro l vs hl _ h i c hc
  subst hl
  have h1:=h i c hc
  match i,hc with
  | 0,hc =>
   simp only[List.getElem?_cons_zero,Option.some.injEq] at hc
   subst hc
   cases h1 with
   | base h1=>cases h1; exact .val _
  | 1,hc =>
   simp only[List.getElem?_cons_succ,List.getElem?_cons_zero,Option.some.injEq] at hc
   subst hc
   cases h1 with
   | base h1=>cases h1; exact .val _
 cases h with
 | base h=>cases h with | tuple _ vs hs hc=>exact .base (.tuple _ vs hs (key rfl hs fun i c h=>.base (hc i c h)))
 | tuple _ vs hs _ hc=>exact .base (.tuple _ vs hs (key rfl hs hc))
theorem afU {P:Program} {f:FuncId} {xs:List AV} {s:St} {x y:Value} {s1 t:St} {K':AV→St→Prop} (hc:yc P f xs s fun r s'=>r=.tuple [.val x,.val y]∧s'=s1) (h:St.imp s1 t) (hk:K' (.tuple [.val x,.val y]) t):yc P f xs s K' :=
 fun F a w I β lam hI vs hn hv=>Calls.mono (hc F a w I β lam hI vs hn hv) fun e w' ⟨v,e1,r,s',I',β',lam',⟨hr,hs⟩,hI',hR⟩=>by
  subst hr hs
  obtain ⟨I2,β2,lam2,h2⟩:=h _ _ _ ⟨I',β',lam',hI'⟩
  exact ⟨v,e1,_,t,I2,β2,lam2,hk,h2,adB hR⟩
theorem F8 (e:zn):∃ x y,eE e=.tuple [.val x,.val y]:=by
 unfold eE
 split
 ·exact ⟨_,_,rfl⟩
 ·exact ⟨_,_,rfl⟩
noncomputable def qY (A:Nat→Nat→Rat) (bb gg:Nat→Rat) (n m:Nat):List (Nat × ze) :=
 [(1,.var [fL gg n,.list 4 .plain (pR A bb n m)]),(2,.var [iv 0,bv false,xH,xH,xH,xH,xH])]
noncomputable def eI:List (Nat × ze):=[(2,.var [iv 0,bv false,xH,xH,xH,xH,xH])]
theorem nM {A:Nat→Nat→Rat} {bb gg:Nat→Rat} {n m:Nat}:rest (qY A bb gg n m):=by
 intro p hp
 simp only[qY,List.mem_cons,List.not_mem_nil,or_false] at hp
 rcases hp with rfl | rfl
 ·exact ⟨.inl (show (_:Nat)<1000 by simp),by simp[Zl]; exact ⟨rfl,rfl⟩⟩
 ·exact ⟨.inl (show (_:Nat)<1000 by simp),by simp[Zl]; exact ⟨rfl,rfl,rfl⟩⟩
theorem Dr:rest eI:=by
 intro p hp
 simp only[eI,List.mem_cons,List.not_mem_nil,or_false] at hp
 subst hp
 exact ⟨.inl (show (_:Nat)<1000 by simp),by simp[Zl]; exact ⟨rfl,rfl,rfl⟩⟩
theorem JJ {n m:Nat} {e:zn} {b:Nat} :
  St.imp ⟨[(2,.ptr 2 0),(5,.ptr 1015 0)],eI++tL n m e,[],b⟩ ⟨[(2,.ptr 2 0),(5,tR n m e)],eI,[],b⟩:=by
 refine St.imp.trans (St.imp_freeze (k:=1961) (by simp[xa,eI,tL,sj,nH,tQ,lY,jt]; rfl)) ?_
 refine St.imp.trans (St.imp_freeze (k:=1972) (by simp[xa,sj,nH,tQ,lY,jt]; rfl)) ?_
 refine St.imp.trans (St.imp_freeze (k:=1987) (by simp[xa,sj,nH,tQ,lY,jt]; rfl)) ?_
 refine St.imp.trans (St.imp_freeze (k:=2029) (by simp[xa,sj,tQ,lY,jt]; rfl)) ?_
 refine St.imp.trans (St.imp_freeze (k:=1015) (by simp[xa,sj,jt]; rfl)) ?_
 simp[tR,eI]
 exact St.imp.refl
@[simp] theorem ahc {q:Rat} {a b:AV}:zH [f0 q,f1 q,f2 q,a,b] 0 (some 3)=some (fq q):=by simp[zH]
@[simp] theorem agd {q:Rat} {a b c d x y z:AV}:splice [a,b,c,d,x,y,z] 1 (fr q)=[a,f0 q,f1 q,f2 q,x,y,z]:=by unfold fr; simp[splice,-nG]
theorem Nt {M:Nat}:Am.low M xH=true:=rfl
theorem Nu {A:Nat→Nat→Rat} {bb gg:Nat→Rat} {n m M:Nat}:Am.low M (.agg [.list 3 .plain (fR gg n),.list 4 .plain (pR A bb n m)])=true:=rfl
def agW (n m L:Nat) (A:Nat→Nat→Rat) (bb gg:Nat→Rat) (r:AV):Prop :=
 (∃ x y v,(Opt n m A bb gg x y v∧(∀ j,sz L (x j))∧(∀ i,sz L (y i))∧sz L v)∧r=.agg [iv 1,f0 v,f1 v,f2 v,fL x n,fL y m,xH]) ∨
 (∃ y,(Inf n m A bb y∧∀ i,sz L (y i))∧r=.agg [iv 2,bv false,xH,xH,xH,fL y m,xH]) ∨
 (∃ x ray,(Unb n m A bb gg x ray∧(∀ j,sz L (x j))∧∀ j,sz L (ray j))∧r=.agg [iv 3,bv false,xH,xH,fL x n,xH,fL ray n])
theorem kM:y6 Try.prog tj=true:=by kernel_rfl
theorem XT:y6 Try.prog uQ=true:=by kernel_rfl
theorem B0:y6 Try.prog qZ=true:=by kernel_rfl
theorem TB:y6 Try.prog px=true:=by kernel_rfl
theorem acQ {n m S t:Nat} {A:Nat→Nat→Rat} {bb gg:Nat→Rat} (ht1:m≤t∨n+1≤t) (hm:m<900000) (hn:n<900000) (hS:grow S t+(m+1)*(2*grow S t+1)≤30000000000) (ha:∀ i j,i<m→j<n→sz S (A i j)) (hb:∀ i,i<m→sz S (bb i)) (hg:∀ j,j<n→sz S (gg j))
  (hchk:zd Try.prog lJ [pA A bb gg n m] (iv 0)) :
  ∃ r,agW n m (grow S t) A bb gg r∧zd Try.prog an [pA A bb gg n m] (.tuple [r,iv 0]):=by
 have ht:m≤t∨n≤t:=by omega
 have hSm:S≤grow S t:=Zc (m:=0) (Nat.zero_le t)
 have h0:1*(2*grow S t+1)≤(m+1)*(2*grow S t+1):=Nat.mul_le_mul_right _ (by omega)
 have hSG:grow S t≤10000000000:=by omega
 have szG:szD S (dG n m A bb gg):=⟨fun i j hi hj=>ha i j hi hj,fun i hi=>hb i hi,fun j hj=>hg j hj,wl⟩
 have nt:∀ {s:St} {K:AV→St→Prop},s.sto=qY A bb gg n m→xf 1000 s.env→yq 1000 s.out→K (.ptr 1015 0) ⟨s.env,qY A bb gg n m++tN n m A bb,s.out,s.base⟩→yc Try.prog tj [pA A bb gg n m] s K :=
  fun hs hE hO hK=>Lb hs nM hE hO (by omega) (by omega) hK
 rcases aeU (S:=S) (A:=A) (bb:=bb) ht1 hm hn hSG ha hb with ⟨e,y,hi,hst⟩ | ⟨e,hr,hst⟩
 ·refine ⟨_,.inr (.inl ⟨y,hi,rfl⟩),?_⟩
  refine zD ZZ (by simp) ?_
  simp[fi]
  refine za hchk (by simp) (by simp) ?_
  simp[kM]
  refine yb (nt (by simp[qY]) (by simp[yI,xg,l8,rX,xR,Nu]) (by simp[yq]) ?_)
  simp[XT]
  refine yb (hst rfl nM (by simp[yI,xg,xR]) (by simp[yq]) ?_)
  simp[qY,tL,fH]
 ·have hS2:Same (lw n gg e) (dG n m A bb gg) (n+m):=Eh hr.bij hr.sol
  have hF2:feas (lw n gg e):=hr.feas
  have hsize:∀ e',Same e' (lw n gg e) (n+m)→e'.r=(lw n gg e).r→e'.c=(lw n gg e).c→szD (grow S t) e':=fun e' he h1 h2 =>
   Same.size_t (d:=dG n m A bb gg) szG (he.trans hS2).symm (by rw[h1]; exact hr.r) (by rw[h2]; exact hr.c) ht
  obtain ⟨e2,hfin,hopt⟩:=Qa hS2.bd hF2
  have hSe:Same e2 (dG n m A bb gg) (n+m):=hfin.same.trans hS2
  have her:e2.r=m:=hfin.r.trans hr.r
  have hec:e2.c=n:=hfin.c.trans hr.c
  have sze:szD (grow S t) e2:=hsize e2 hfin.same hfin.r hfin.c
  have hfre:∀ j,j<e2.c→e2.fre j<4000000:=fun j hj=>by have:=lX hSe.bd hj; omega
  obtain ⟨fx,fy,hfr⟩:=F8 e2
  have so:∀ {K:AV→St→Prop},K (eE e2) ⟨[(2,.ptr 2 0),(5,tR n m e2)],eI,[],0⟩→yc Try.prog x8 [.ptr 1015 0] ⟨[(2,.ptr 2 0),(5,.ptr 1015 0),(32,.ptr 1015 0)],eI++tL n m (lw n gg e),[],0⟩ K:=fun {K} hK=>by
   refine yc.pre (Nc (env:=[(2,.ptr 2 0),(5,.ptr 1015 0)]) (by simp[tU,qc])) ?_
   refine afU (hopt rfl Dr (by simp[yI,xg,xR]) (by simp[yq]) (by omega) (by rw[show (lw n gg e).c=n from hr.c]; omega) hr.r hSG hsize ⟨hfr,rfl⟩) JJ ?_
   rw[← hfr]
   exact hK
  have pt:=Lk (n:=n) (m:=m) (d:=e2) (by omega) (by omega)
  have pr:=NS (n:=n) (m:=m) (L:=grow S t) (d:=e2) (by omega) (by omega) (by omega) hfre (by omega) sze.cst
  have hx:fL (p7 n e2 m) n=fL (vl e2) n:=congrArg _ (ye fun j hj=>by rw[← her]; exact aeD hSe.bd hj)
  have hy:fL (xJ n m e2 e2.c) m=fL (fun i=>- cv e2 (n+i)) m:=congrArg _ (ye fun i hi=>Db hSe.bd hi)
  rw[hx] at pt
  rw[hy] at pr
  rcases hfin.out with ⟨ho,hcst⟩ | ⟨q,ho,hq,hc0,hall⟩
  ·refine ⟨_,.inl ⟨_,_,_,⟨aew hSe hfin.feas hcst,aaY hSe.bd sze,fun i=>qe (aaD hSe.bd sze (n+i)),sze.v⟩,rfl⟩,?_⟩
   rw[ho] at so
   refine zD ZZ (by simp) ?_
   simp[fi]
   refine za hchk (by simp) (by simp) ?_
   simp[kM]
   refine yb (nt (by simp[qY]) (by simp[yI,xg,l8,rX,xR,Nu]) (by simp[yq]) ?_)
   simp[XT]
   refine yb (hst rfl nM (by simp[yI,xg,xR]) (by simp[yq]) ?_)
   simp[TB,qY]
   refine yb (Ma (s:=⟨_,qY A bb gg n m++tL n m e,[],0⟩) (L:=grow S t) (d:=e) (g:=gg) (ρ:=qY A bb gg n m) (n:=n) (m:=m) rfl nM ?_ (by simp[yq]) (by omega) (by omega) (by rw[hr.c]; omega) hr.r (by omega) hr.sz (fun j hj=>zC (hg j hj) hSm) ?_)
   ·simp[yI,xg,rX,xR,Ns,Nt]
   simp[lC,qY,tL]
   refine yb (so ?_)
   simp[tR,eI,B0]
   refine PN pt (by simp) (by simp[tR]) (by simp) ?_
   simp[R7]
   refine PN pr (by simp) (by simp[tR]) (by simp) ?_
   simp[fH]
  ·have ra:=Dh (n:=n) (m:=m) (L:=grow S t) (d:=e2) (q:=q) (by omega) (by omega) hq (by omega) (fun i hi=>sze.a i q (by omega) hq)
   have hra:fL (tH n e2 q m) n=fL (eH e2 q) n:=congrArg _ (ye fun j hj=>by rw[← her]; exact afW hSe.bd hq hj)
   rw[hra] at ra
   refine ⟨_,.inr (.inr ⟨_,_,⟨ae3 hSe hfin.feas hq hc0 hall,aaY hSe.bd sze,acs hSe.bd sze hq⟩,rfl⟩),?_⟩
   rw[ho] at so
   refine zD ZZ (by simp) ?_
   simp[fi]
   refine za hchk (by simp) (by simp) ?_
   simp[kM]
   refine yb (nt (by simp[qY]) (by simp[yI,xg,l8,rX,xR,Nu]) (by simp[yq]) ?_)
   simp[XT]
   refine yb (hst rfl nM (by simp[yI,xg,xR]) (by simp[yq]) ?_)
   simp[TB,qY]
   refine yb (Ma (s:=⟨_,qY A bb gg n m++tL n m e,[],0⟩) (L:=grow S t) (d:=e) (g:=gg) (ρ:=qY A bb gg n m) (n:=n) (m:=m) rfl nM ?_ (by simp[yq]) (by omega) (by omega) (by rw[hr.c]; omega) hr.r (by omega) hr.sz (fun j hj=>zC (hg j hj) hSm) ?_)
   ·simp[yI,xg,rX,xR,Ns,Nt]
   simp[lC,qY,tL]
   refine yb (so ?_)
   simp[tR,eI]
   refine za pt (by simp[tR]) (by simp) ?_
   simp
   refine za ra (by simp[tR]) (by simp) ?_
   simp[fH]
noncomputable def qR (A:Nat→Nat→RF) (cl:Nat→Nat) (b:Nat→RF) (m:Nat):List (List AV):=mR (fun i=>[hL (A i) (cl i),h0 (b i),h1 (b i),h2 (b i)]) m
noncomputable abbrev rA (G:Nat→RF) (n:Nat) (A:Nat→Nat→RF) (cl:Nat→Nat) (b:Nat→RF) (m:Nat):AV:=.agg [hL G n,.list 4 .plain (qR A cl b m)]
section
variable {A:Nat→Nat→RF} {cl:Nat→Nat} {b:Nat→RF} {m i:Nat}
@[simp] theorem ai1:(qR A cl b m).length=m:=n9
@[simp] theorem aia {hi:i<(qR A cl b m).length}:(qR A cl b m)[i]=[hL (A i) (cl i),h0 (b i),h1 (b i),h2 (b i)]:=ju
@[simp] theorem ajP:yV (qR A cl b m)=true:=Zm fun _=>by simp
@[simp] theorem ajQ:zQ (qR A cl b m)=qR A cl b m:=tD fun _=>by simp
end
noncomputable def az (f:Nat→RF) (n:Nat):Bool:=@decide (∀ j,j<n→(f j).v=true) (Classical.propDecidable _)
theorem mF {f:Nat→RF} {n:Nat}:az f n=true↔∀ j,j<n→(f j).v=true:=by unfold az; exact @decide_eq_true_iff _ (Classical.propDecidable _)
noncomputable def Mu (f:Nat→RF) (n k:Nat):St:={env:=[(5,hL f n),(6,iv n),(7,iv k)],sto:=[]}
theorem Cu {f:Nat→RF} {n:Nat} (hn:n<1000000) (hf:∀ j,j<n→(f j).fine):zd Try.prog gQ [hL f n] (bv (az f n)):=by
 refine zD Co (by simp) ?_
 simp[RJ]
 refine zl (Mu f n) (fun k=>∀ j,j<k→(f j).v=true) n (by simp[Mu]) (fun j hj=>by omega) (fun k hk hI=>?_) (fun hI=>?_)
 ·have e:(k:Int)<n:=by omega
  have w:=zq (k:=k) (by omega)
  simp[j5,Mu,e,hk]
  refine za (du (hf k hk)) (by simp) (by simp) ?_
  cases hv:(f k).v with
  | true =>
   simp[w,Mu]
   intro j hj
   by_cases ej:j=k
   ·subst ej; exact hv
   ·exact hI j (by omega)
  | false =>
   have:az f n=false:=by
    cases h:az f n with
    | false=>rfl
    | true=>have:=mF.1 h k hk; rw[hv] at this; cases this
   simp[ZE,this]
 ·have:az f n=true:=mF.2 hI
  simp[j5,aQ,ZE,Mu,this]
def JL (G:Nat→RF) (n:Nat) (A:Nat→Nat→RF) (cl:Nat→Nat) (b:Nat→RF) (m:Nat):Prop :=
 (∀ j,j<n→(G j).v=true)∧∀ i,i<m→cl i=n∧(b i).v=true∧∀ j,j<n→(A i j).v=true
noncomputable def Sr (G:Nat→RF) (n:Nat) (A:Nat→Nat→RF) (cl:Nat→Nat) (b:Nat→RF) (m:Nat):Int :=
 if 160<n∨40<m then 3 else @ite _ (JL G n A cl b m) (Classical.propDecidable _) 0 2
section
variable {G:Nat→RF} {n:Nat} {A:Nat→Nat→RF} {cl:Nat→Nat} {b:Nat→RF} {m:Nat}
theorem Fu (h:160<n∨40<m):Sr G n A cl b m=3:=if_pos h
theorem RK (h:¬ (160<n∨40<m)) (hg:JL G n A cl b m):Sr G n A cl b m=0:=by unfold Sr; rw[if_neg h]; exact @if_pos _ (Classical.propDecidable _) hg _ _ _
theorem cf (h:¬ (160<n∨40<m)) (hg:¬ JL G n A cl b m):Sr G n A cl b m=2:=by unfold Sr; rw[if_neg h]; exact @if_neg _ (Classical.propDecidable _) hg _ _ _
noncomputable def S4 (G:Nat→RF) (n:Nat) (A:Nat→Nat→RF) (cl:Nat→Nat) (b:Nat→RF) (m k:Nat):St :=
 {env:=[(1,.ptr 1 0),(20,.list 4 .plain (qR A cl b m)),(21,iv m),(22,iv k)],sto:=[(1,.var [hL G n,.list 4 .plain (qR A cl b m)])]}
theorem CS (hn:n<1000000) (hm:m<1000000) (hc:∀ i,i<m→cl i<1000000) (hG:∀ j,j<n→(G j).fine) (hA:∀ i j,i<m→j<cl i→(A i j).fine) (hb:∀ i,i<m→(b i).fine) :
  zd Try.prog lJ [rA G n A cl b m] (iv (Sr G n A cl b m)):=by
 have kG:=Cu hn hG
 refine zD Cn (by simp) ?_
 by_cases hl:160<n∨40<m
 ·rw[Fu hl]
  by_cases h1:160<n
  ·have h1':(160:Int)<n:=by omega
   simp[fh,h1',tT]
  ·have h1':¬ (160:Int)<n:=by omega
   have h2':(40:Int)<m:=by omega
   simp[fh,h1',h2',tT]
 ·have h1':¬ (160:Int)<n:=by omega
  have h2':¬ (40:Int)<m:=by omega
  simp[fh,h1',h2']
  refine za kG (by simp) (by simp) ?_
  cases hv:az G n with
  | false =>
   rw[cf hl fun hg=>by rw[mF.2 hg.1] at hv; cases hv]
   simp[tT]
  | true =>
   simp
   refine zl (S4 G n A cl b m) (fun k=>∀ i,i<k→cl i=n∧(b i).v=true∧∀ j,j<n→(A i j).v=true) m (by simp[S4]) (fun j hj=>by omega) (fun k hk hI=>?_) (fun hI=>?_)
   ·have e:(k:Int)<m:=by omega
    have w:=zq (k:=k) (by omega)
    have kA:=Cu (f:=A k) (n:=cl k) (hc k hk) (fun j hj=>hA k j hk hj)
    have kb:=du (hb k hk)
    by_cases h3:cl k=n
    ·have kA:=kA
     rw[h3] at kA
     simp[n5,S4,e,hk,h3]
     refine za kA (by simp) (by simp) ?_
     cases hva:az (A k) n with
     | false =>
      rw[cf hl fun hg=>by have:=hg.2 k hk; rw[mF.2 this.2.2] at hva; cases hva]
      simp[tT]
     | true =>
      simp
      refine za kb (by simp) (by simp) ?_
      cases hvb:(b k).v with
      | false =>
       rw[cf hl fun hg=>by have:=hg.2 k hk; rw[hvb] at this; cases this.2.1]
       simp[tT]
      | true =>
       simp[w,S4]
       intro i hi
       by_cases ei:i=k
       ·subst ei; exact ⟨h3,hvb,mF.1 hva⟩
       ·exact hI i (by omega)
    ·have h3':¬ (cl k:Int)=n:=by omega
     rw[cf hl fun hg=>h3 (hg.2 k hk).1]
     simp[n5,S4,e,hk,h3',tT]
   ·rw[RK hl ⟨mF.1 hv,hI⟩]
    simp[n5,aP,tT,S4]
end
theorem afV {G:Nat→RF} {n:Nat} {A':Nat→Nat→RF} {cl:Nat→Nat} {b:Nat→RF} {m:Nat} {A:Nat→Nat→Rat} {bb gg:Nat→Rat} (hG:∀ j,j<n→G j=RF.of (gg j)) (hc:∀ i,i<m→cl i=n) (hA:∀ i j,i<m→j<n→A' i j=RF.of (A i j)) (hb:∀ i,i<m→b i=RF.of (bb i)) :
  rA G n A' cl b m=pA A bb gg n m:=by
 unfold rA pA
 rw[hL,Ta hG]
 have:qR A' cl b m=pR A bb n m:=uU fun i hi=>by rw[hc i hi,hL,Ta fun j hj=>hA i j hi hj,hb i hi,aaI,aaJ,aaK]
 rw[this]
theorem CR {n m K:Nat} {A:Nat→Nat→Rat} {bb gg:Nat→Rat} (hn:n≤160) (hm:m≤40) (hK:K≤137438953472) (ha:∀ i j,i<m→j<n→sz K (A i j)) (hb:∀ i,i<m→sz K (bb i)) (hg:∀ j,j<n→sz K (gg j)) :
  zd Try.prog lJ [pA A bb gg n m] (iv 0):=by
 have h:=CS (G:=fun j=>RF.of (gg j)) (n:=n) (A:=fun i j=>RF.of (A i j)) (cl:=fun _=>n) (b:=fun i=>RF.of (bb i)) (m:=m) (by omega) (by omega) (fun _ _=>by omega) (fun j hj=>dq hK (hg j hj)) (fun i j hi hj=>dq hK (ha i j hi hj)) (fun i hi=>dq hK (hb i hi))
 rw[afV (A:=A) (bb:=bb) (gg:=gg) (fun _ _=>rfl) (fun _ _=>rfl) (fun _ _ _ _=>rfl) (fun _ _=>rfl),RK (by omega) ⟨fun _ _=>NJ _,fun _ _=>⟨rfl,NJ _,fun _ _=>NJ _⟩⟩] at h
 exact h
@[simp] theorem agc {q:Rat} {a b c d:AV}:splice [a,b,c,d] 1 (fr q)=a::fr q:=by unfold fr; simp[splice,-nG]
open Go.Pb
def bL:Nat:=grow 20 10
theorem QZ:bL=21321045:=by decide
def b0K (fx:List Int) (i:Nat):Rat:=if fx.getD i 9=1 then 1 else 0
def b1K (fx:List Int) (X:Nat→Rat) (k i:Nat):Rat:=if fx.getD i 9=1 then 1 else if fx.getD i 9=0∧r6 fx i<k then X (r6 fx i) else 0
abbrev noB:AV:=.agg [bv false,bv false,z8,z8,z8,z8]
noncomputable def Mf (X Y:Nat→Rat) (v:Rat) (n m:Nat):List AV:=[iv 1,f0 v,f1 v,f2 v,fL X n,fL Y m,z8]
noncomputable def Ue (P:Pb) (fx:List Int) (X Y:Nat→Rat) (v:Rat) (k:Nat):St :=
 {env:=[(1,clA fx),(2,.ptr 2 0),(4,.ptr 4 0),(8,clA (ints (zK fx))),(10,.ptr 10 0),(11,.sl 44 3 0 fx.length),(45,clA fx),(46,iv fx.length),(47,iv k)],
  sto:=[(2,.var (pbC P)),(4,.var [bv false,bv false,z8,z8,z8,z8]),(10,.var (Mf X Y v (zK fx).length P.rows)),(44,.arr 3 (fZ (b0K fx) k fx.length))]}
noncomputable def GN (P:Pb) (fx:List Int) (X Y:Nat→Rat) (v:Rat) (k:Nat):St :=
 {env:=[(1,clA fx),(2,.ptr 2 0),(4,.ptr 4 0),(10,.ptr 10 0),(11,.sl 44 3 0 fx.length),(63,clA (ints (zK fx))),(64,iv (zK fx).length),(65,iv k)],
  sto:=[(2,.var (pbC P)),(4,.var [bv false,bv false,z8,z8,z8,z8]),(10,.var (Mf X Y v (zK fx).length P.rows)),(44,.arr 3 (fR (b1K fx X k) fx.length))]}
@[simp] theorem afE {v:Rat} {a x y z:AV}:zH [a,f0 v,f1 v,f2 v,x,y,z] 1 (some 3)=some (fq v):=by
 show (if 1+3≤7∧[f0 v,f1 v,f2 v].all rf=true then some (AV.agg ([f0 v,f1 v,f2 v].map strip)) else _)=_
 simp
@[simp] theorem afC {v:Rat} {a x y:AV}:zH [a,f0 v,f1 v,f2 v,x,y] 1 (some 3)=some (fq v):=by
 show (if 1+3≤6∧[f0 v,f1 v,f2 v].all rf=true then some (AV.agg ([f0 v,f1 v,f2 v].map strip)) else _)=_
 simp
@[simp] theorem agb {v:Rat} {a b c d x y:AV}:splice [a,b,c,d,x,y] 1 (fr v)=[a,f0 v,f1 v,f2 v,x,y]:=by unfold fr; simp[splice,-nG]
@[simp] theorem ah3 {P:Pb} {l:Nat} {e:ze}:(pbC P).map (frz l e)=pbC P:=by unfold pbC; rw[yU]; rfl
section
variable {P:Pb} {fx:List Int} {X Y:Nat→Rat} {v:Rat}
theorem aaU {l:List Int}:qI l=fR (fun j=>((l.getD j 0:Int):Rat)) l.length:=by
 apply List.ext_getElem?
 intro j
 by_cases h:j<l.length
 ·rw[aY h]; simp[qI,h]
 ·rw[List.getElem?_eq_none (by simp; omega),List.getElem?_eq_none (by simp; omega)]
theorem acu:Gr P fx=pA (P.lA fx) (P.lB fx) (P.lG fx) (zK fx).length P.rows:=by
 unfold Gr pA fL
 have h1:qI (P.relG fx)=fR (P.lG fx) (zK fx).length:=by rw[aaU,X7]; rfl
 have h2:((List.range P.rows).map fun r=>(.list 3 .plain (qI (P.relC fx r)):AV)::fr (P.relB fx r:Int))=pR (P.lA fx) (P.lB fx) (zK fx).length P.rows:=by
  refine List.map_congr_left fun r _=>?_
  rw[aaU,X6]
  rfl
 rw[h1,h2]
theorem Qj (h:P.fixE fx=0):P.relE fx=if P.fits (P.inL fx) then 0 else 14:=by
 obtain ⟨h1,h2,h3⟩:=rP h
 unfold Pb.relE
 rw[if_neg fun h=>h h1,if_neg fun h=>h h2,if_neg fun h=>h h3]
theorem ahE (hn:P.cl.length≤1000) (hk:P.of.length≤1000000) (h:P.fixE fx=0) (hf:¬ P.fits (P.inL fx)):zd Try.prog w9 [.agg (pbC P),clA fx] (.tuple [noB,iv 0]):=by
 obtain ⟨h1,h2,h3⟩:=rP h
 have hr:=K6 (fx:=fx) hn hk (by omega)
 have he:P.relE fx=14:=by rw[Qj h,if_neg hf]
 rw[he,if_neg (by decide)] at hr
 refine zD ZW (by simp) ?_
 simp[jN]
 refine za (a8 (fx:=fx) hn hk) (by simp) (by simp) ?_
 simp[h]
 refine za hr (by simp) (by simp) ?_
 simp[gx]
theorem aa7 (hn:P.cl.length≤1000) (hk:P.of.length≤9) (h:P.fixE fx=0) (hf:P.fits (P.inL fx)) :
  ∃ X Y v,(P.Bst fx X Y v∧(∀ j,sz bL (X j))∧(∀ i,sz bL (Y i))∧sz bL v) ∧
   zd Try.prog w9 [.agg (pbC P),clA fx] (.tuple [.agg [bv true,f0 (((P.accV fx fx.length:Int):Rat)+v),f1 (((P.accV fx fx.length:Int):Rat)+v),f2 (((P.accV fx fx.length:Int):Rat)+v),fL Y P.rows,fL (bX fx X) fx.length],iv 0]):=by
 obtain ⟨hc,hl,hok⟩:=rP h
 have hG:=t9 hc
 have hrw:P.rows≤20:=by have:=hG.n; unfold Pb.rows; omega
 have hfl:(zK fx).length≤9:=by
  have:=cL (fx:=fx) (v:=0) (k:=fx.length)
  have e:(zK fx).length=(su fx 0 fx.length).length:=rfl
  omega
 have hbL:=QZ
 have sA:∀ i j,i<P.rows→j<(zK fx).length→sz 20 (P.lA fx i j):=fun i j hi hj=>by
  rw[Te hj]
  exact zC (FF hG (by have:=(Yj hj).1; omega) hi) (by decide)
 have sB:∀ i,i<P.rows→sz 20 (P.lB fx i):=fun i hi=>zC (Yz hG hl hi) (by decide)
 have sG:∀ j,j<(zK fx).length→sz 20 (P.lG fx j):=fun j hj=>by
  rw[JV hj]
  exact G6 hG (by have:=(Yj hj).1; omega)
 have kc:=CR (n:=(zK fx).length) (m:=P.rows) (by omega) (by omega) (by decide:20≤137438953472) sA sB sG
 obtain ⟨r,hr,hs⟩:=acQ (t:=10) (.inr (by omega)) (by omega) (by omega) (by
  have:(P.rows+1)*(2*grow 20 10+1)≤21*(2*21321045+1):=Nat.mul_le_mul (by omega) (by rw[show grow 20 10=21321045 from QZ]; omega)
  rw[show grow 20 10=21321045 from QZ] at this ⊢
  omega) sA sB sG kc
 rcases hr with ⟨X,Y,v,⟨ho,hx,hy,hv⟩,rfl⟩ | ⟨y,⟨hi,_⟩,_⟩ | ⟨x,ray,⟨hu,_⟩,_⟩
 rotate_left
 ·exact (aeo hf hi).elim
 ·exact (aep hG hl hu).elim
 refine ⟨X,Y,v,⟨ho,hx,hy,hv⟩,?_⟩
 have hrel:=K6 (fx:=fx) hn (by omega) (by omega)
 rw[Qj h,if_pos hf,if_pos rfl,acu] at hrel
 refine zD ZW (by simp) ?_
 simp[jN]
 refine za (a8 (fx:=fx) hn (by omega)) (by simp) (by simp) ?_
 simp[h]
 refine za hrel (by simp) (by simp) ?_
 simp
 refine za hs (by simp) (by simp) ?_
 have hbig:(fx.length:Int)*56≤140737488355328:=by omega
 have hbig2:(fx.length:Int)≤9223372036854775807:=by omega
 simp[eMk,hbig,hbig2]
 refine zl (Ue P fx X Y v) (fun _=>True) fx.length (by simp[Ue,Mf,← nF (f:=b0K fx)]) trivial (fun k hk' _=>?_) (fun _=>?_)
 ·have e:(k:Int)<fx.length:=by omega
  have w1:=zq (k:=k) (by omega)
  have hg:=n8 hk'
  have hset:∀ q,b0K fx k=q→(fZ (b0K fx) k fx.length).set k (fr q)=fZ (b0K fx) (k+1) fx.length:=fun q hq=>by rw[← hq]; exact lW hk'
  by_cases d:fx[k]=1
  ·have hs1:=hset 1 (by unfold b0K; rw[hg,if_pos d])
   simp[rj,Ue,e,hk',d]
   refine za (yH (n:=0) (by decide) (by decide)) (by simp) (by simp) ?_
   simp[e,hk']
   refine za (yH (n:=1) (by decide) (by decide)) (by simp) (by simp) ?_
   simp[e,hk',w1,Ue,hs1]
  ·have hs1:=hset 0 (by unfold b0K; rw[hg,if_neg d])
   simp[rj,Ue,e,hk']
   refine za (yH (n:=0) (by decide) (by decide)) (by simp) (by simp) ?_
   simp[e,hk',w1,d,Ue,hs1]
 have h10:fR (b0K fx) fx.length=fR (b1K fx X 0) fx.length:=ye fun i _=>by
  unfold b0K b1K
  split
  ·rfl
  ·rw[if_neg fun h=>Nat.not_lt_zero _ h.2]
 simp[rj,Ue,gZ,nE,h10]
 refine zl (GN P fx X Y v) (fun _=>True) (zK fx).length (by simp[GN]) trivial (fun k hk' _=>?_) (fun _=>?_)
 ·have e:(k:Int)<(zK fx).length:=by omega
  have w1:=zq (k:=k) (by omega)
  have hp:=Ao hk'
  have hm:=gp (List.getElem_mem hk')
  obtain ⟨i,hi⟩:∃ i,(zK fx)[k]=i:=⟨_,rfl⟩
  have hm':i<fx.length∧fx.getD i 9=0:=by rw[← hi]; exact hm
  rw[hi] at hp
  have ei:(i:Int)<fx.length:=by omega
  have hset:(fR (b1K fx X k) fx.length).set i (fr (X k))=fR (b1K fx X (k+1)) fx.length:=by
   rw[uE]
   refine ye fun j hj=>?_
   unfold upd
   by_cases h2:j=i
   ·subst h2
    rw[if_pos rfl]
    unfold b1K
    rw[if_neg (by omega),if_pos ⟨hm'.2,by omega⟩,hp]
   ·rw[if_neg h2]
    unfold b1K
    by_cases h3:fx.getD j 9=1
    ·rw[if_pos h3,if_pos h3]
    ·rw[if_neg h3,if_neg h3]
     by_cases h4:fx.getD j 9=0
     ·have hne:r6 fx j≠k:=fun h5=>by
       have q1:=ge (fx:=fx) h4 hj
       rw[h5,List.getElem?_eq_getElem hk',hi] at q1
       cases q1; exact h2 rfl
      by_cases h5:r6 fx j<k
      ·rw[if_pos ⟨h4,h5⟩,if_pos ⟨h4,by omega⟩]
      ·rw[if_neg fun h=>h5 h.2,if_neg fun h=>h5 (by omega)]
     ·rw[if_neg fun h=>h4 h.1,if_neg fun h=>h4 h.1]
  simp[nU,GN,Mf,e,hk',hi,Ek,ei,hm'.1,w1,hset]
 have h1X:fR (b1K fx X (zK fx).length) fx.length=fR (bX fx X) fx.length:=ye fun i hi=>by
  unfold b1K bX
  split
  ·rfl
  ·split
   ·rename_i h
    rw[if_pos h.1]
   ·rename_i h1 h
    by_cases h0:fx.getD i 9=0
    ·exact absurd ⟨h0,(List.getElem?_eq_some_iff.1 (ge h0 hi)).1⟩ h
    ·rw[if_neg h0]
 simp[nU,GN,gY,h1X]
 simp[xa,Mf,sj]
 refine za (Uz (fx:=fx) hG hl) (by simp) (by simp) ?_
 simp
 refine za (UA (K:=30000000) (by decide) (zC (Fe hG hl) (by decide)) (zC hv (by rw[show grow 20 10=21321045 from QZ]; decide))) (by simp) (by simp) ?_
 simp[gx]
end
noncomputable def Ul (P:Pb) (ch:List Int) (k:Nat):St:={env:=[(1,clA ch),(2,.ptr 2 0),(6,apc 55 8 (ofR (P.pick (ch.take k)))),(7,iv k)],sto:=[(2,.var (pbC P))]}
section
variable {P:Pb} {ch:List Int}
theorem Dv (hk:P.of.length≤1000000) (ok:okP P.of.length ch):zd Try.prog qp [.agg (pbC P),clA ch] (.tuple [ofA (P.pick ch),bv true]):=by
 have hl:=KL ok
 refine wT Rt (by simp) ?_
 simp[di]
 have h0:apc 55 8 (ofR (P.pick (ch.take 0)))=.list 0 .full []:=by rw[List.take_zero]; exact LM rfl
 refine zl (Ul P ch) (fun _=>True) ch.length (by simp[Ul,Pb.pick,ofR,apc]) trivial (fun k hk' _=>?_) (fun _=>?_)
 ·have e:(k:Int)<ch.length:=by omega
  have w1:=zq (k:=k) (by omega)
  have hg:=getD_lt hk'
  have d:=ok k hk'
  obtain ⟨b,hb,hbn⟩:=KK (fun q hq=>ok q (by omega)) d
  rw[hg] at hb
  unfold okI at d
  rw[hg,hb] at d
  have b0:¬ (b:Int)<0:=by omega
  have b2:(b:Int)<P.of.length:=by omega
  have b3:¬ (P.of.length:Int)≤b:=by omega
  have hat:P.of[b]=P.at ch[k]:=by rw[hb,afh hbn]
  have hro:ofR (P.pick (ch.take k))++[oC P.of[b]]=ofR (P.pick (ch.take (k+1))):=by rw[E8 hk',KH,hat]; rfl
  by_cases hz:0<k
  ·obtain ⟨q,hq⟩:∃ q:Nat,k-1=q:=⟨_,rfl⟩
   have hql:q<ch.length:=by omega
   have hgq:=getD_lt hql
   have hpv:prv ch k=ch[q]:=by
    rw[show k=q+1 by omega]
    exact hgq
   rw[hpv] at d
   have w2:IntKind.i64.wrap ((k:Int)-1)=(q:Int):=by rw[wrap64]<;>omega
   have c1:¬ (b:Int)≤ch[q]:=by omega
   have eq':(q:Int)<ch.length:=by omega
   simp[uY,Ul,e,hk',hb,b0,b2,b3,hbn,hz,w2,hql,eq',c1]
   refine sP (by decide) rfl ?_ ?_ (by simp) ?_
   ·simp only[jv,gq,List.length_take]; omega
   ·simp only[jv,gq,List.length_take]; omega
   ·rw[hro]
    simp[w1,Ul]
  ·simp[uY,Ul,e,hk',hb,b0,b2,b3,hbn,hz]
   refine sP (by decide) rfl ?_ ?_ (by simp) ?_
   ·simp only[jv,gq,List.length_take]; omega
   ·simp only[jv,gq,List.length_take]; omega
   ·rw[hro]
    simp[w1,Ul]
 ·simp[uY,Ul,kT,dB]
  exact AV.imp_tuple2 (nK rU)
theorem afe (hn:P.cl.length≤1000) (hk:P.of.length≤1000000) (hc:P.chk=0) (ok:okP P.of.length ch):zd Try.prog tZ [.agg (pbC P),clA ch] (iv (if P.fits (P.pick ch) then 0 else 14)):=by
 have hl:=KL ok
 refine zD Uq (by simp) ?_
 simp[j1]
 refine za (X4 hn hk) (by simp) (by simp) ?_
 simp[hc]
 refine za (Dv hk ok) (by simp) (by simp) ?_
 have hG:=t9 hc
 have hm:=Ak ok
 have hP:∀ o∈P.pick ch,P.offE o=0:=fun o ho=>hG.off o (hm o ho)
 simp
 refine za (K8 (P:=P) (L:=P.pick ch) hn (by rw[gq]; have:=hG.k; omega) (fun o ho=>(xY (xv (hP o ho)).1).1) (fun o ho=>(xY (xv (hP o ho)).1).2.2)) (by simp) (by simp) ?_
 by_cases c3:P.fits (P.pick ch)
 ·simp[c3,p8]
 ·simp[c3,p8]
end
abbrev tyB:Ty:=.arr 6 (.int .i64)
abbrev G5:Ty:=.st [.int .i64,tyB,.int .i64]
abbrev aay:Ty:=.st [tyB,tyB,tyB,.slice (.int .i64),.slice G5]
theorem UH {cs:List AV} (h:TyC tyB cs):∃ w:Nat→Int,cs=bC w:=by
 obtain ⟨rows,rfl,hl,h⟩:=h
 obtain ⟨L,rfl,_⟩:=lc (fun n:Int=>[iv n]) (fun _=>True) (fun r hr=>by
  obtain ⟨n,rfl,_⟩:=hr
  exact ⟨n,rfl,trivial⟩) h
 refine ⟨fun k=>L.getD k 0,?_⟩
 match L,hl with
 | [a,b,c,d,e,f],_=>rw[vP]; rfl
theorem BY {cs:List AV} (h:TyC G5 cs):∃ o:Of,cs=oC o:=by
 obtain ⟨a1,b1,rfl,⟨n,rfl,_⟩,a2,b2,rfl,h2,a3,b3,rfl,⟨v,rfl,_⟩,rfl⟩:=h
 obtain ⟨w,rfl⟩:=UH h2
 exact ⟨⟨n,w,v⟩,by rw[rq,vP]; rfl⟩
theorem Ks {cs:List AV} (h:TyC (.slice (.int .i64)) cs):∃ l:List Int,cs=[clA l]∧l.length≤reachBytes:=by
 obtain ⟨rows,rfl,hl,h⟩:=h
 obtain ⟨L,rfl,h2⟩:=lc (fun d:Int=>[iv d]) (fun _=>True) (fun r hr=>by
  obtain ⟨n,rfl,_⟩:=hr
  exact ⟨n,rfl,trivial⟩) h
 exact ⟨L,rfl,by simpa using hl⟩
theorem ab7 {cs:List AV} (h:TyC (.slice G5) cs):∃ L:List Of,cs=[ofA L]∧L.length≤reachBytes:=by
 obtain ⟨rows,rfl,hl,h⟩:=h
 obtain ⟨L,rfl,h2⟩:=lc oC (fun _=>True) (fun r hr=>by
  obtain ⟨o,rfl⟩:=BY hr
  exact ⟨o,rfl,trivial⟩) h
 exact ⟨L,rfl,by simpa using hl⟩
theorem acn {x:AV} (h:aj2 aay x):∃ P:Pb,x=.agg (pbC P)∧P.cl.length≤reachBytes∧P.of.length≤reachBytes:=by
 obtain ⟨cs,rfl,a1,b1,rfl,h1,a2,b2,rfl,h2,a3,b3,rfl,h3,a4,b4,rfl,h4,a5,b5,rfl,h5,rfl⟩:=h
 obtain ⟨s,rfl⟩:=UH h1
 obtain ⟨p,rfl⟩:=UH h2
 obtain ⟨c,rfl⟩:=UH h3
 obtain ⟨l,rfl,hl⟩:=Ks h4
 obtain ⟨L,rfl,hL⟩:=ab7 h5
 refine ⟨⟨s,p,c,l,L⟩,?_,hl,hL⟩
 congr 1
 unfold pbC pbX
 simp
theorem aiM {x:AV} {k:IntKind} (h:aj2 (.int k) x):∃ n:Int,x=.val (.int k n)∧(Lit.int k n).wf=true:=by
 obtain ⟨n,h1,h2⟩:=h
 simp only[List.cons.injEq,and_true] at h1
 exact ⟨n,h1,h2⟩
noncomputable def S6 (fx:List Int) (k:Nat):St:={env:=[(1,clA fx),(6,iv k)],sto:=[]}
section
variable {P:Pb} {fx:List Int} {k:Nat}
theorem N1 (hn:P.cl.length≤1000) (hk:P.of.length≤1000000):zd Try.prog pB [.agg (pbC P),clA fx] (iv (P.fixE fx)):=by
 refine zD QR (by simp) ?_
 simp[bP]
 refine za (X4 hn hk) (by simp) (by simp) ?_
 unfold Pb.fixE
 by_cases c1:P.chk=0
 ·rw[if_neg fun h=>h c1]
  by_cases c2:fx.length=P.of.length
  ·have c2':(fx.length:Int)=P.of.length:=by omega
   rw[if_neg fun h=>h c2]
   simp[c1,c2']
   refine zl (S6 fx) (fun k=>∀ q,q<k→okX fx q) fx.length (by simp[S6]) (fun q hq=>by omega) (fun k hk' hI=>?_) (fun hI=>?_)
   ·have e:(k:Int)<P.of.length:=by omega
    have w1:=zq (k:=k) (by omega)
    have hg:=n8 hk'
    by_cases d1:fx[k] < -1
    ·have hf:¬ okF fx:=fun h=>((jw hg).1 (h k hk')).1 d1
     simp[ub,S6,c2',e,hk',d1,hf,uu]
    ·by_cases d2:1<fx[k]
     ·have hf:¬ okF fx:=fun h=>((jw hg).1 (h k hk')).2 d2
      simp[ub,S6,c2',e,hk',d1,d2,hf,uu]
     ·simp[ub,S6,c2',e,hk',d1,d2,w1]
      exact fun q hq=>by
       by_cases eq:q=k
       ·subst eq; exact (jw hg).2 ⟨d1,d2⟩
       ·exact hI q (by omega)
   ·have hf:okF fx:=hI
    simp[ub,S6,c2',hf,j3,uu]
  ·have c2':¬ (fx.length:Int)=P.of.length:=by omega
   rw[if_pos c2]
   simp[c1,c2',uu]
 ·rw[if_pos c1]
  simp[c1,uu]
end
noncomputable def ba (P:Pb) (fx:List Int) (Y:Nat→RF) (m k:Nat):St :=
 {env:=[(1,clA fx),(2,hL Y m),(3,.ptr 3 0),(6,.ptr 6 0),(35,hL Y m),(36,iv m),(37,iv k)],sto:=[(3,.var (pbC P)),(6,.var zz)]}
noncomputable def TU (P:Pb) (fx:List Int) (y:Nat→Rat) (m k:Nat):St :=
 {env:=[(1,clA fx),(2,fL y m),(3,.ptr 3 0),(6,.ptr 6 0),(11,.ptr 11 0),(12,.sl 55 3 0 fx.length),(57,iv fx.length),(58,iv k)],
  sto:=[(3,.var (pbC P)),(6,.var zz),(11,.var (fr ((P.accV fx fx.length:Int):Rat))),(55,.arr 3 (fZ P.vQ k fx.length))]}
noncomputable def bf (P:Pb) (fx:List Int) (y:Nat→Rat) (m k:Nat):St :=
 {env:=[(1,clA fx),(3,.ptr 3 0),(6,.ptr 6 0),(11,.ptr 11 0),(12,.sl 55 3 0 fx.length),(72,fL y m),(73,iv m),(74,iv k)],
  sto:=[(3,.var (pbC P)),(6,.var zz),(11,.var (fr (P.bdQ fx y k))),(55,.arr 3 (fR (P.exP fx y k) fx.length))]}
noncomputable def fK (P:Pb) (fx:List Int) (y:Nat→Rat) (m r k:Nat):St :=
 {env:=[(1,clA fx),(3,.ptr 3 0),(6,.ptr 6 0),(11,.ptr 11 0),(12,.sl 55 3 0 fx.length),(72,fL y m),(73,iv m),(74,iv r),(15,.ptr 15 0),(17,iv (P.bnd r-((P.inK fx k).map (P.coef r)).sum)),(88,clA (tI P r)),(89,iv fx.length),(90,iv k)],
  sto:=[(3,.var (pbC P)),(6,.var zz),(11,.var (fr (P.bdQ fx y r))),(55,.arr 3 (fR (P.exM fx y r k) fx.length)),(15,.var (fr (y r)))]}
noncomputable def fM (P:Pb) (fx:List Int) (y:Nat→Rat) (k:Nat):St :=
 {env:=[(6,.ptr 6 0),(11,.ptr 11 0),(12,.sl 55 3 0 fx.length),(133,clA fx),(134,iv fx.length),(135,iv k)],
  sto:=[(6,.var zz),(11,.var (fr (P.bdQ fx y P.rows+P.adQ fx y P.rows k))),(55,.arr 3 (fR (P.exP fx y P.rows) fx.length))]}
section
variable {P:Pb} {fx:List Int} {Y:Nat→RF} {m S:Nat}
theorem Ng {r k:Nat}:((P.inK fx (k+1)).map (P.coef r)).sum=if fx.getD k 9=1 then ((P.inK fx k).map (P.coef r)).sum+P.coef r (P.at (k:Int)) else ((P.inK fx k).map (P.coef r)).sum:=by
 unfold Pb.inK
 rw[r5]
 split
 ·simp
 ·rfl
theorem Za (hn:P.cl.length≤1000) (hk:P.of.length≤1000000) (hS:S≤10000) (hm:m<1000000) (hf:∀ r,r<m→(Y r).fine) (hy:∀ r,r<m→sz S (Y r).q) :
  zd Try.prog x9 [.agg (pbC P),clA fx,hL Y m] (.tuple [if fpE P fx Y m=0 then fq (P.fpQ fx fun r=>(Y r).q) else zfr,iv (fpE P fx Y m)]):=by
 refine zD ZX (by simp) ?_
 simp[lK]
 refine za (a8 (fx:=fx) hn hk) (by simp) (by simp) ?_
 by_cases c1:P.fixE fx=0
 rotate_left
 ·have he:fpE P fx Y m=P.fixE fx:=if_pos c1
  rw[he,if_neg c1]
  simp[c1,wg]
 obtain ⟨hc,hl,hok⟩:=rP c1
 have hG:=t9 hc
 have hrows:=Jc hn hk
 rw[show xP P=P.rows by unfold xP; rw[if_pos hc]] at hrows
 simp[c1]
 refine za hrows (by simp) (by simp) ?_
 by_cases c2:m=P.rows
 rotate_left
 ·have c2':¬ (m:Int)=P.rows:=by omega
  have he:fpE P fx Y m=3:=by unfold fpE; rw[if_neg fun h=>h c1,if_pos c2]
  rw[he]
  simp[c2',wg]
 have he:fpE P fx Y m=prE Y m:=by unfold fpE; rw[if_neg fun h=>h c1,if_neg fun h=>h c2]
 rw[he]
 have c2':(m:Int)=P.rows:=by omega
 simp[c2']
 refine zl (ba P fx Y m) (k9 Y) m (by simp[ba,c2']) (fun q hq=>by omega) (fun k hk' hI=>?_) (fun hI=>?_)
 ·have e:(k:Int)<P.rows:=by omega
  have w1:=zq (k:=k) (by omega)
  have kv:=du (hf k hk')
  cases hv:(Y k).v with
  | false =>
   rw[hv] at kv
   rw[aaS hI hv hk']
   simp[aky,ba,c2',e,hk']
   refine za kv (by simp) (by simp) ?_
   simp[wg]
  | true =>
   rw[hv] at kv
   have hq:=XS hv
   have hrq:hr (Y k)=fr (Y k).q:=by rw[← Tb,← hq]
   have ks:=vi (q:=(Y k).q)
   have hsn:=af7 hv
   cases hs:(Y k).s with
   | true =>
    rw[aaR hI hv hs hk']
    rw[hs] at hsn
    have hlt:(Y k).q<0:=of_decide_eq_true hsn.symm
    have h1:=p9.2 hlt
    simp[aky,ba,c2',e,hk']
    refine za kv (by simp) (by simp) ?_
    simp[hrq]
    refine za ks (by simp) (by simp) ?_
    simp[h1,wg]
   | false =>
    rw[hs] at hsn
    have hlt:¬ (Y k).q<0:=of_decide_eq_false hsn.symm
    have h1:¬ yA (Y k).q<0:=fun h=>hlt (p9.1 h)
    simp[aky,ba,c2',e,hk']
    refine za kv (by simp) (by simp) ?_
    simp[hrq]
    refine za ks (by simp) (by simp) ?_
    simp[h1,w1,ba,c2']
    exact U8 hI hv hs
 rw[m5 hI,if_pos rfl]
 obtain ⟨y,hyd⟩:∃ y:Nat→Rat,(fun r=>(Y r).q)=y:=⟨_,rfl⟩
 have hyr:∀ r,(Y r).q=y r:=fun r=>by rw[← hyd]
 rw[hyd]
 have hYL:hR Y m=fR y m:=Ta fun r hr=>by rw[← hyr,← XS (hI r hr).1]
 have hy':∀ r,r<P.rows→sz S (y r):=fun r hr=>by rw[← hyr]; exact hy r (by omega)
 subst c2
 clear hI hyd hyr hy hf c2'
 have hrw:P.rows≤20:=by have:=hG.n; unfold Pb.rows; omega
 have hkk:=hG.k
 have Rm:∀ R,R≤P.rows→R*(S+11)≤20*10011:=fun R hR=>Nat.mul_le_mul (by omega) (by omega)
 have Rm3:∀ R,R≤P.rows→R*(S+3)≤20*10003:=fun R hR=>Nat.mul_le_mul (by omega) (by omega)
 have szE:∀ R i,R≤P.rows→i<P.of.length→sz 300000 (P.exP fx y R i):=fun R i hR hi=>by
  unfold Pb.exP
  split
  ·exact zC (U5 hG hi hy' R hR) (by have:=Rm3 R hR; omega)
  ·exact zC (G6 hG hi) (by omega)
 have szB:∀ R,R≤P.rows→sz 300000 (P.bdQ fx y R):=fun R hR=>zC (Q0 hG hl hy' R hR) (by have:=Rm R hR; omega)
 have szA:∀ k,k≤fx.length→sz 60000000 (P.adQ fx y P.rows k):=fun k hk=>zC (QW hG hl hy' k hk) (by
  have h1:=Rm3 P.rows (Nat.le_refl _)
  have h2:k*(21+P.rows*(S+3))≤160*(21+20*10003):=Nat.mul_le_mul (by omega) (by omega)
  omega)
 simp[aky,ba,pe]
 refine za (Uz (fx:=fx) hG hl) (by simp) (by simp) ?_
 have hbig:(fx.length:Int)*56≤140737488355328:=by omega
 have hbig2:(fx.length:Int)≤9223372036854775807:=by omega
 simp[eMk,hbig,hbig2]
 refine zl (TU P fx y P.rows) (fun _=>True) fx.length (by simp[TU,hYL,← nF (f:=P.vQ)]) trivial (fun k hk' _=>?_) (fun _=>?_)
 ·have e:(k:Int)<fx.length:=by omega
  have hko:k<P.of.length:=by omega
  have hko':(k:Int)<P.of.length:=by omega
  have w1:=zq (k:=k) (by omega)
  have hv:=(xY (xv (hG.off _ (at_mem hko))).1).2.1
  rw[uz hko] at hv
  have hset:(fZ P.vQ k fx.length).set k (fr ((P.of[k].v:Int):Rat))=fZ P.vQ (k+1) fx.length:=by
   rw[← lW hk']
   congr 2
   unfold Pb.vQ
   rw[uz hko]
  simp[tm,TU,e,hko,hko']
  refine za (yH (n:=P.of[k].v) (by omega) (by omega)) (by simp) (by simp) ?_
  simp[e,hk',w1,TU,hset]
 have hx0:fR P.vQ fx.length=fR (P.exP fx y 0) fx.length:=ye fun i hi=>by
  unfold Pb.exP Pb.exc
  have:zh 0 (fun r=>y r*P.cof r i)=0:=rfl
  rw[this]
  split<;>grind
 have hb0:fr ((P.accV fx fx.length:Int):Rat)=fr (P.bdQ fx y 0):=by
  congr 1
  unfold Pb.bdQ
  have:zh 0 (fun r=>y r*((P.relB fx r:Int):Rat))=0:=rfl
  rw[this]; grind
 simp[tm,TU,nr,nE,hx0,hb0]
 refine zl (bf P fx y P.rows) (fun _=>True) P.rows (by simp[bf]) trivial (fun r hr _=>?_) (fun _=>?_)
 ·have e:(r:Int)<P.rows:=by omega
  have w1:=zq (k:=r) (by omega)
  have hrow:=af6 (P:=P) (r:=(r:Int)) hn hk
  have e0:(0:Int)≤r∧(r:Int)<(xP P:Nat):=by unfold xP; rw[if_pos hc]; omega
  unfold SZ at hrow
  rw[if_pos e0,if_pos e0,Int.toNat_natCast] at hrow
  have hbd:P.bdQ fx y (r+1)=P.bdQ fx y r+y r*((P.relB fx r:Int):Rat):=by unfold Pb.bdQ; simp only[zh]; grind
  have hex:∀ i,P.exc y (r+1) i=P.exc y r i-y r*P.cof r i:=fun i=>by unfold Pb.exc; simp only[zh]; grind
  by_cases z:y r=0
  ·have z0:yA (y r)=0:=wH.2 z
   have hb1:P.bdQ fx y (r+1)=P.bdQ fx y r:=by rw[hbd,z]; grind
   have hx1:fR (P.exP fx y r) fx.length=fR (P.exP fx y (r+1)) fx.length:=ye fun i hi=>by
    unfold Pb.exP
    rw[hex,z]
    split<;>grind
   simp[vr,bf,e,hr]
   refine za (vi (q:=y r)) (by simp) (by simp) ?_
   simp[z0,tl,w1,bf,hb1,hx1]
  ·have z0:¬ yA (y r)=0:=fun h=>z (wH.1 h)
   simp[vr,bf,e,hr]
   refine za (vi (q:=y r)) (by simp) (by simp) ?_
   simp[z0]
   refine za hrow (by simp) (by simp) ?_
   simp
   have hM0:fR (P.exM fx y r 0) P.of.length=fR (P.exP fx y r) P.of.length:=ye fun i _=>if_neg (Nat.not_lt_zero i)
   refine zl (fK P fx y P.rows r) (fun _=>True) fx.length (by simp[fK,Pb.inK,Zr,hl,hM0]) trivial (fun k hk' _=>?_) (fun _=>?_)
   ·have e2:(k:Int)<fx.length:=by omega
    have hko:k<P.of.length:=by omega
    have hko':(k:Int)<P.of.length:=by omega
    have w2:=zq (k:=k) (by omega)
    have hg:=n8 hk'
    have hcl:k<(clR (tI P r)).length:=by simpa using hko
    have hrl:(clR (tI P r))[k]=[iv (P.coef r P.of[k])]:=by simp[clR,tI]
    have hcf:=tu (xY (xv (hG.off _ (at_mem hko))).1).2.2 hr
    have hin:=Ng (P:=P) (fx:=fx) (r:=r) (k:=k)
    have hs1:=j7 (fx:=fx) hG hr k (by omega)
    have hbo:=aC hG hr
    rw[hg] at hin
    have hck:P.cof r k=((P.coef r P.of[k]:Int):Rat):=by unfold Pb.cof; rw[uz hko]
    rw[uz hko] at hin hcf
    have keep:(fx[k]=0→P.coef r P.of[k]=0)→fR (P.exM fx y r k) fx.length=fR (P.exM fx y r (k+1)) fx.length:=fun h=>ye fun i hi=>by
     unfold Pb.exM
     by_cases h1:i<k
     ·rw[if_pos h1,if_pos (by omega)]
     ·rw[if_neg h1]
      by_cases h2:i=k
      ·subst h2
       rw[if_pos (by omega)]
       unfold Pb.exP
       rw[hex,hck,hg]
       by_cases h3:fx[i]=0
       ·rw[if_pos h3,if_pos h3,h h3]; grind
       ·rw[if_neg h3,if_neg h3]
      ·rw[if_neg (by omega)]
    obtain ⟨A,hA⟩:∃ A,((P.inK fx k).map (P.coef r)).sum=A:=⟨_,rfl⟩
    obtain ⟨c,hcc⟩:∃ c,P.coef r P.of[k]=c:=⟨_,rfl⟩
    rw[hA] at hin hs1
    rw[hcc] at hin hcf keep hrl hck
    by_cases d0:c=0
    ·subst d0
     have hin':((P.inK fx (k+1)).map (P.coef r)).sum=A:=by rw[hin]; split<;>omega
     have kp:=keep fun _=>rfl
     simp[-xb,xt,fK,e2,x5 hcl,hrl,hA,w2,hin',kp]
    ·by_cases d1:fx[k]=1
     ·rw[if_pos d1] at hin
      have kp:=keep fun h=>by rw[d1] at h; cases h
      have w3:IntKind.i64.wrap (P.bnd r-A-c)=P.bnd r-(A+c):=by rw[wrap64]<;>omega
      have hgx:k<(clR fx).length:=by simpa using hk'
      have hgc:(clR fx)[k]=[iv 1]:=by simp[clR,d1]
      simp[-xb,xt,fK,e2,x5 hcl,x5 hgx,hgc,hrl,hA,d0,w2,w3,hin,kp]
     ·rw[if_neg d1] at hin
      have hgx:k<(clR fx).length:=by simpa using hk'
      have hgc:(clR fx)[k]=[iv fx[k]]:=by simp[clR]
      by_cases d2:fx[k]=0
      ·have hset:(fR (P.exM fx y r k) fx.length).set k (fr (P.exM fx y r k k-y r*((c:Int):Rat)))=fR (P.exM fx y r (k+1)) fx.length:=by
        rw[uE]
        refine ye fun i hi=>?_
        unfold upd
        by_cases h2:i=k
        ·subst h2
         rw[if_pos rfl]
         have hg0:fx.getD i 9=0:=by rw[hg]; exact d2
         have l1:¬ i<i:=by omega
         have l2:i<i+1:=by omega
         unfold Pb.exM Pb.exP
         rw[if_neg l1,if_pos l2,if_pos hg0,if_pos hg0,hex,hck]
        ·rw[if_neg h2]
         unfold Pb.exM
         by_cases h1:i<k
         ·rw[if_pos h1,if_pos (by omega)]
         ·rw[if_neg h1,if_neg (by omega)]
       have s1:sz 300000 (P.exM fx y r k k):=by
        unfold Pb.exM; rw[if_neg (by omega)]; exact szE r k (by omega) hko
       have s2:sz 2 ((c:Int):Rat):=qd (by omega)
       have s3:sz 300000 (y r*((c:Int):Rat)):=zC (yB (hy' r hr) s2) (by omega)
       simp[-xb,xt,fK,e2,x5 hcl,x5 hgx,hgc,hrl,hA,d0,d2]
       simp[e2,hk']
       refine za (yH (n:=c) (by omega) (by omega)) (by simp) (by simp) ?_
       simp
       refine za (jf (K:=300000) (by decide) (zC (hy' r hr) (by omega)) (zC s2 (by decide))) (by simp) (by simp) ?_
       simp
       refine za (T2 (K:=300000) (by decide) s1 s3) (by simp) (by simp) ?_
       simp[e2,hk',w2,fK,hset,hin]
      ·have kp:=keep fun h=>absurd h d2
       simp[-xb,xt,fK,e2,x5 hcl,x5 hgx,hgc,hrl,hA,d0,d1,d2,w2,hin,kp]
   ·have hrb:=Yz hG hl hr
    have hM1:fR (P.exM fx y r fx.length) fx.length=fR (P.exP fx y (r+1)) fx.length:=ye fun i hi=>if_pos hi
    have h1:=j7 (fx:=fx) hG hr fx.length (by omega)
    have h2:=aC hG hr
    have hB:P.bnd r-((P.inK fx fx.length).map (P.coef r)).sum=P.relB fx r:=rfl
    have hB1:-9223372036854775808≤P.relB fx r∧P.relB fx r<9223372036854775808:=by rw[← hB]; omega
    simp[xt,fK,nk,hM1,hB]
    refine za (yH (n:=P.relB fx r) hB1.1 hB1.2) (by simp) (by simp) ?_
    simp
    refine za (jf (K:=300000) (by decide) (zC (hy' r hr) (by omega)) (zC hrb (by decide))) (by simp) (by simp) ?_
    simp
    refine za (UA (K:=300000) (by decide) (szB r (by omega)) (zC (yB (hy' r hr) hrb) (by omega))) (by simp) (by simp) ?_
    simp[tl,w1,bf,hbd]
 have ha0:P.bdQ fx y P.rows=P.bdQ fx y P.rows+P.adQ fx y P.rows 0:=by
  have:P.adQ fx y P.rows 0=0:=rfl
  rw[this]; grind
 have hfr0:fr (P.bdQ fx y P.rows)=fr (P.bdQ fx y P.rows+P.adQ fx y P.rows 0):=congrArg fr ha0
 simp[vr,bf,no]
 refine zl (fM P fx y) (fun _=>True) fx.length (by simp[fM,← hfr0]) trivial (fun k hk' _=>?_) (fun _=>?_)
 ·have e:(k:Int)<fx.length:=by omega
  have w1:=zq (k:=k) (by omega)
  have hg:=n8 hk'
  have had:P.adQ fx y P.rows (k+1)=P.adQ fx y P.rows k+(if fx.getD k 9=0∧0<P.exc y P.rows k then P.exc y P.rows k else 0):=rfl
  have s1:sz 70000000 (P.bdQ fx y P.rows+P.adQ fx y P.rows k):=zC (pn (szB _ (Nat.le_refl _)) (szA k (by omega))) (by decide)
  have s2:=szE P.rows k (Nat.le_refl _) (by omega)
  rw[hg] at had
  by_cases d:fx[k]=0
  ·have hx:P.exP fx y P.rows k=P.exc y P.rows k:=if_pos (by rw[hg]; exact d)
   rw[hx] at s2
   by_cases hp:0<P.exc y P.rows k
   ·rw[if_pos ⟨d,hp⟩] at had
    have hsg:=uV.2 hp
    have hsum:P.bdQ fx y P.rows+P.adQ fx y P.rows k+P.exc y P.rows k=P.bdQ fx y P.rows+P.adQ fx y P.rows (k+1):=by rw[had]; grind
    simp[wb,fM,e,hk',d,hx]
    refine za (vi (q:=P.exc y P.rows k)) (by simp) (by simp) ?_
    simp[hsg,e,hk',hx]
    refine za (UA (K:=70000000) (by decide) s1 (zC s2 (by decide))) (by simp) (by simp) ?_
    simp[w1,fM,hsum]
   ·rw[if_neg fun h=>hp h.2] at had
    have hsg:¬ 0<yA (P.exc y P.rows k):=fun h=>hp (uV.1 h)
    have hsum:P.adQ fx y P.rows (k+1)=P.adQ fx y P.rows k:=by rw[had]; grind
    simp[wb,fM,e,hk',d,hx]
    refine za (vi (q:=P.exc y P.rows k)) (by simp) (by simp) ?_
    simp[hsg,w1,fM,hsum]
  ·rw[if_neg fun h=>d h.1] at had
   have hsum:P.adQ fx y P.rows (k+1)=P.adQ fx y P.rows k:=by rw[had]; grind
   simp[wb,fM,e,hk',d,w1,hsum]
 have hfp:P.bdQ fx y P.rows+P.adQ fx y P.rows fx.length=P.fpQ fx y:=rfl
 simp[wb,fM,nn,hfp,wg]
end
def exN (P:Pb) (y:Nat→Rat) (r k i:Nat):Rat:=if i<k then P.exc y (r+1) i else P.exc y r i
noncomputable def bn (P:Pb) (fx:List Int) (Y:Nat→RF) (m k:Nat):St :=
 {env:=[(1,clA fx),(2,hL Y m),(3,.ptr 3 0),(6,.ptr 6 0),(9,iv m),(10,iv k)],sto:=[(3,.var (pbC P)),(6,.var zz)]}
noncomputable def fN (P:Pb) (fx:List Int) (y:Nat→Rat) (m k:Nat):St :=
 {env:=[(1,clA fx),(2,fL y m),(3,.ptr 3 0),(6,.ptr 6 0),(9,iv m),(11,.ptr 11 0),(12,.us 67 3 0 k),(13,iv k)],
  sto:=[(3,.var (pbC P)),(6,.var zz),(11,.var (fr ((P.accV fx k:Int):Rat))),(67,.uarr 3 (fR P.vQ k))]}
noncomputable def TV (P:Pb) (fx:List Int) (y:Nat→Rat) (m k:Nat):St :=
 {env:=[(1,clA fx),(2,fL y m),(3,.ptr 3 0),(6,.ptr 6 0),(9,iv m),(11,.ptr 11 0),(12,.us 67 3 0 fx.length),(14,iv k)],
  sto:=[(3,.var (pbC P)),(6,.var zz),(11,.var (fr (P.bdQ fx y k))),(67,.uarr 3 (fR (P.exc y k) fx.length))]}
noncomputable def bp (P:Pb) (fx:List Int) (y:Nat→Rat) (m r k:Nat):St :=
 {env:=[(1,clA fx),(2,fL y m),(3,.ptr 3 0),(6,.ptr 6 0),(9,iv m),(11,.ptr 11 0),(12,.us 67 3 0 fx.length),(14,iv r),(15,clA (tI P r)),(16,iv (P.bnd r-((P.inK fx k).map (P.coef r)).sum)),(17,iv k)],
  sto:=[(3,.var (pbC P)),(6,.var zz),(11,.var (fr (P.bdQ fx y r))),(67,.uarr 3 (fR (exN P y r k) fx.length))]}
noncomputable def fO (P:Pb) (fx:List Int) (y:Nat→Rat) (k:Nat):St :=
 {env:=[(1,clA fx),(6,.ptr 6 0),(11,.ptr 11 0),(12,.us 67 3 0 fx.length),(18,iv k)],
  sto:=[(6,.var zz),(11,.var (fr (P.bdQ fx y P.rows+P.adQ fx y P.rows k))),(67,.uarr 3 (fR (P.exc y P.rows) fx.length))]}
@[simp] theorem ajy {x:RF} {h:0<(hr x).length}:(hr x)[0]=h0 x:=rfl
section
variable {P:Pb} {fx:List Int} {Y:Nat→RF} {m S:Nat}
theorem QE (hn:P.cl.length≤1000) (hk:P.of.length≤1000000) (hS:S≤22000000) (hm:m<1000000) (hf:∀ r,r<m→(Y r).fine) (hy:∀ r,r<m→sz S (Y r).q) :
  zd Try.prog rz [.agg (pbC P),clA fx,hL Y m] (.tuple [if fpE P fx Y m=0 then fq (P.fpQ fx fun r=>(Y r).q) else zfr,iv (fpE P fx Y m)]):=by
 refine zD ZY (by simp) ?_
 simp[lU]
 refine za (N1 (fx:=fx) hn hk) (by simp) (by simp) ?_
 by_cases c1:P.fixE fx=0
 rotate_left
 ·have he:fpE P fx Y m=P.fixE fx:=if_pos c1
  rw[he,if_neg c1]
  simp[c1,wh]
 obtain ⟨hc,hl,hok⟩:=rP c1
 have hG:=t9 hc
 have hrows:=Jd hn hk
 rw[show xP P=P.rows by unfold xP; rw[if_pos hc]] at hrows
 simp[c1]
 refine za hrows (by simp) (by simp) ?_
 by_cases c2:m=P.rows
 rotate_left
 ·have c2':¬ (m:Int)=P.rows:=by omega
  have he:fpE P fx Y m=3:=by unfold fpE; rw[if_neg fun h=>h c1,if_pos c2]
  rw[he]
  simp[c2',wh]
 have he:fpE P fx Y m=prE Y m:=by unfold fpE; rw[if_neg fun h=>h c1,if_neg fun h=>h c2]
 rw[he]
 have c2':(m:Int)=P.rows:=by omega
 simp[c2']
 refine zl (bn P fx Y m) (k9 Y) m (by simp[bn,c2']) (fun q hq=>by omega) (fun k hk' hI=>?_) (fun hI=>?_)
 ·have e:(k:Int)<P.rows:=by omega
  have w1:=zq (k:=k) (by omega)
  have kv:=XI (hf k hk')
  cases hv:(Y k).v with
  | false =>
   rw[hv] at kv
   rw[aaS hI hv hk']
   simp[wc,bn,c2',e,hk']
   refine za kv (by simp) (by simp) ?_
   simp[wh]
  | true =>
   rw[hv] at kv
   cases hs:(Y k).s with
   | true =>
    rw[aaR hI hv hs hk']
    simp[wc,bn,c2',e,hk']
    refine za kv (by simp) (by simp) ?_
    simp[pJ,hs,c2',e,hk',wh]
   | false =>
    simp[wc,bn,c2',e,hk']
    refine za kv (by simp) (by simp) ?_
    simp[pJ,hs,c2',e,hk',w1,bn]
    exact U8 hI hv hs
 rw[m5 hI,if_pos rfl]
 obtain ⟨y,hyd⟩:∃ y:Nat→Rat,(fun r=>(Y r).q)=y:=⟨_,rfl⟩
 have hyr:∀ r,(Y r).q=y r:=fun r=>by rw[← hyd]
 rw[hyd]
 have hYL:hR Y m=fR y m:=Ta fun r hr=>by rw[← hyr,← XS (hI r hr).1]
 have hy':∀ r,r<P.rows→sz S (y r):=fun r hr=>by rw[← hyr]; exact hy r (by omega)
 subst c2
 clear hI hyd hyr hy hf c2'
 have hrw:P.rows≤20:=by have:=hG.n; unfold Pb.rows; omega
 have hkk:=hG.k
 have Rm:∀ R,R≤P.rows→R*(S+11)≤20*22000011:=fun R hR=>Nat.mul_le_mul (by omega) (by omega)
 have Rm3:∀ R,R≤P.rows→R*(S+3)≤20*22000003:=fun R hR=>Nat.mul_le_mul (by omega) (by omega)
 have szE:∀ R i,R≤P.rows→i<P.of.length→sz 500000000 (P.exc y R i):=fun R i hR hi=>zC (U5 hG hi hy' R hR) (by have:=Rm3 R hR; omega)
 have szB:∀ R,R≤P.rows→sz 500000000 (P.bdQ fx y R):=fun R hR=>zC (Q0 hG hl hy' R hR) (by have:=Rm R hR; omega)
 have szA:∀ k,k≤fx.length→sz 71000000000 (P.adQ fx y P.rows k):=fun k hk=>zC (QW hG hl hy' k hk) (by
  have h1:=Rm3 P.rows (Nat.le_refl _)
  have h2:k*(21+P.rows*(S+3))≤160*(21+20*22000003):=Nat.mul_le_mul (by omega) (by omega)
  omega)
 simp[wc,bn,pj]
 refine za ae6 (by simp) (by simp) ?_
 simp
 refine Pk (t:=fN P fx y P.rows 0) ?_ ?_
 ·refine St.imp.trans (St.imp_tok 67 3 (by simp)) ?_
  simp[St.dg]
  refine St.imp.trans (St.imp_env_nil (t:=12) (l:=67) (sz:=3) (by simp; rfl) (by simp)) ?_
  refine St.imp_of ?_
  have hfr0:fr ((P.accV fx 0:Int):Rat)=fr 0:=rfl
  simp[fN,hYL,hfr0,abB]
 refine zl (fN P fx y P.rows) (fun _=>True) fx.length (by simp[fN]) trivial (fun k hk' _=>?_) (fun _=>?_)
 ·have e:(k:Int)<fx.length:=by omega
  have hko:k<P.of.length:=by omega
  have hko':(k:Int)<P.of.length:=by omega
  have w1:=zq (k:=k) (by omega)
  have hg:=n8 hk'
  have hv:=(xY (xv (hG.off _ (at_mem hko))).1).2.1
  rw[uz hko] at hv
  have hvq:P.vQ k=((P.of[k].v:Int):Rat):=by unfold Pb.vQ; rw[uz hko]
  have hap:fR P.vQ k++[fr ((P.of[k].v:Int):Rat)]=fR P.vQ (k+1):=by rw[dn,hvq]
  have hs:=au (P:=P) (fx:=fx) (k:=k)
  have hac:=eR (fx:=fx) hG k (by omega)
  rw[hg,uz hko] at hs
  simp[tq,fN,e,hko,hko']
  refine za (rR (n:=P.of[k].v) (by omega) (by omega)) (by simp) (by simp) ?_
  have b1:((k:Nat)+1)*56≤140737488355328:=by omega
  have b2:(k:Nat)+1≤9223372036854775807:=by omega
  have hk1:(k:Int)<(k:Int)+1:=by omega
  have hvf:fr ((P.of[k].v:Int):Rat)=fr (P.vQ k):=by rw[hvq]
  by_cases d:fx[k]=1
  ·rw[if_pos d] at hs
   have hsum:((P.accV fx k:Int):Rat)+((P.of[k].v:Int):Rat)=((P.accV fx (k+1):Int):Rat):=by rw[hs,Rat.intCast_add]
   have s1:sz 28 ((P.accV fx k:Int):Rat):=qd (by omega)
   have s2:sz 28 ((P.of[k].v:Int):Rat):=qd (by omega)
   simp[e,hk',d,b1,b2,hap,hk1]
   refine za (Jk (K:=28) (by decide) s1 s2) (by simp[hvq]) (by simp) ?_
   simp[w1,fN,hsum]
  ·rw[if_neg d] at hs
   simp[e,hk',d,b1,b2,w1,fN,hs,hap]
 have hx0:fR P.vQ fx.length=fR (P.exc y 0) fx.length:=ye fun i hi=>by
  unfold Pb.exc
  have:zh 0 (fun r=>y r*P.cof r i)=0:=rfl
  rw[this]
  grind
 have hb0:fr ((P.accV fx fx.length:Int):Rat)=fr (P.bdQ fx y 0):=by
  congr 1
  unfold Pb.bdQ
  have:zh 0 (fun r=>y r*((P.relB fx r:Int):Rat))=0:=rfl
  rw[this]; grind
 simp[tq,fN,nz,hx0,hb0]
 refine zl (TV P fx y P.rows) (fun _=>True) P.rows (by simp[TV]) trivial (fun r hr _=>?_) (fun _=>?_)
 ·have e:(r:Int)<P.rows:=by omega
  have w1:=zq (k:=r) (by omega)
  have hrow:=aeL (P:=P) (r:=(r:Int)) hn hk
  have e0:(0:Int)≤r∧(r:Int)<(xP P:Nat):=by unfold xP; rw[if_pos hc]; omega
  unfold SZ at hrow
  rw[if_pos e0,if_pos e0,Int.toNat_natCast] at hrow
  have hbd:P.bdQ fx y (r+1)=P.bdQ fx y r+y r*((P.relB fx r:Int):Rat):=by unfold Pb.bdQ; simp only[zh]; grind
  have hex:∀ i,P.exc y (r+1) i=P.exc y r i-y r*P.cof r i:=fun i=>by unfold Pb.exc; simp only[zh]; grind
  simp[tt,TV,e]
  refine za hrow (by simp) (by simp) ?_
  simp
  have hM0:fR (exN P y r 0) fx.length=fR (P.exc y r) fx.length:=ye fun i _=>if_neg (Nat.not_lt_zero i)
  refine zl (bp P fx y P.rows r) (fun _=>True) fx.length (by simp[bp,Pb.inK,Zr,hM0]) trivial (fun k hk' _=>?_) (fun _=>?_)
  ·have e2:(k:Int)<fx.length:=by omega
   have hko:k<P.of.length:=by omega
   have w2:=zq (k:=k) (by omega)
   have hg:=n8 hk'
   have hcl:k<(clR (tI P r)).length:=by simpa using hko
   have hrl:(clR (tI P r))[k]=[iv (P.coef r P.of[k])]:=by simp[clR,tI]
   have hcf:=tu (xY (xv (hG.off _ (at_mem hko))).1).2.2 hr
   have hin:=Ng (P:=P) (fx:=fx) (r:=r) (k:=k)
   have hs1:=j7 (fx:=fx) hG hr k (by omega)
   have hbo:=aC hG hr
   rw[hg] at hin
   have hck:P.cof r k=((P.coef r P.of[k]:Int):Rat):=by unfold Pb.cof; rw[uz hko]
   rw[uz hko] at hin hcf
   obtain ⟨A,hA⟩:∃ A,((P.inK fx k).map (P.coef r)).sum=A:=⟨_,rfl⟩
   obtain ⟨c,hcc⟩:∃ c,P.coef r P.of[k]=c:=⟨_,rfl⟩
   rw[hA] at hin hs1
   rw[hcc] at hin hcf hrl hck
   have hgx:k<(clR fx).length:=by simpa using hk'
   have hgc:(clR fx)[k]=[iv fx[k]]:=by simp[clR]
   have hset:(fR (exN P y r k) fx.length).set k (fr (exN P y r k k-y r*((c:Int):Rat)))=fR (exN P y r (k+1)) fx.length:=by
    rw[uE]
    refine ye fun i hi=>?_
    unfold upd
    by_cases h2:i=k
    ·subst h2
     have l1:¬ i<i:=by omega
     have l2:i<i+1:=by omega
     rw[if_pos rfl]
     unfold exN
     rw[if_neg l1,if_pos l2,hex,hck]
    ·rw[if_neg h2]
     unfold exN
     by_cases h1:i<k
     ·rw[if_pos h1,if_pos (by omega)]
     ·rw[if_neg h1,if_neg (by omega)]
   have s1:sz 500000000 (exN P y r k k):=by
    unfold exN; rw[if_neg (by omega)]; exact szE r k (by omega) hko
   have s2:sz 2 ((c:Int):Rat):=qd (by omega)
   have s3:sz 500000000 (y r*((c:Int):Rat)):=zC (yB (hy' r hr) s2) (by omega)
   have hkoI:(k:Int)<P.of.length:=by omega
   by_cases d1:fx[k]=1
   ·rw[if_pos d1] at hin
    have w3:IntKind.i64.wrap (P.bnd r-A-c)=P.bnd r-(A+c):=by rw[wrap64]<;>omega
    simp[-xb,vt,bp,e2,x5 hcl,x5 hgx,hgc,hrl,hA,d1,w3]
    simp[e2,hk',hr,e,hko,hkoI,hrl]
    refine za (rR (n:=c) (by omega) (by omega)) (by simp) (by simp) ?_
    simp
    refine za (J2 (K:=500000000) (by decide) (zC (hy' r hr) (by omega)) (zC s2 (by decide))) (by simp) (by simp) ?_
    simp
    refine za (G0 (K:=500000000) (by decide) s1 s3) (by simp) (by simp) ?_
    simp[e2,hk',w2,bp,hset,hin]
   ·rw[if_neg d1] at hin
    simp[-xb,vt,bp,e2,x5 hgx,hgc,hA,d1]
    simp[e2,hk',hr,e,hko,hkoI,hrl]
    refine za (rR (n:=c) (by omega) (by omega)) (by simp) (by simp) ?_
    simp
    refine za (J2 (K:=500000000) (by decide) (zC (hy' r hr) (by omega)) (zC s2 (by decide))) (by simp) (by simp) ?_
    simp
    refine za (G0 (K:=500000000) (by decide) s1 s3) (by simp) (by simp) ?_
    simp[e2,hk',w2,bp,hset,hin]
  ·have hrb:=Yz hG hl hr
   have hM1:fR (exN P y r fx.length) fx.length=fR (P.exc y (r+1)) fx.length:=ye fun i hi=>if_pos hi
   have h1:=j7 (fx:=fx) hG hr fx.length (by omega)
   have h2:=aC hG hr
   have hB:P.bnd r-((P.inK fx fx.length).map (P.coef r)).sum=P.relB fx r:=rfl
   have hB1:-9223372036854775808≤P.relB fx r∧P.relB fx r<9223372036854775808:=by rw[← hB]; omega
   simp[vt,bp,nu,hM1,hB,e,hr]
   refine za (rR (n:=P.relB fx r) hB1.1 hB1.2) (by simp) (by simp) ?_
   simp
   refine za (J2 (K:=500000000) (by decide) (zC (hy' r hr) (by omega)) (zC hrb (by decide))) (by simp) (by simp) ?_
   simp
   refine za (Jk (K:=500000000) (by decide) (szB r (by omega)) (zC (yB (hy' r hr) hrb) (by omega))) (by simp) (by simp) ?_
   simp[nv,w1,TV,hbd]
 have ha0:P.bdQ fx y P.rows=P.bdQ fx y P.rows+P.adQ fx y P.rows 0:=by
  have:P.adQ fx y P.rows 0=0:=rfl
  rw[this]; grind
 have hfr0:fr (P.bdQ fx y P.rows)=fr (P.bdQ fx y P.rows+P.adQ fx y P.rows 0):=congrArg fr ha0
 simp[tt,TV,ny]
 refine zl (fO P fx y) (fun _=>True) fx.length (by simp[fO,← hfr0]) trivial (fun k hk' _=>?_) (fun _=>?_)
 ·have e:(k:Int)<fx.length:=by omega
  have w1:=zq (k:=k) (by omega)
  have hg:=n8 hk'
  have had:P.adQ fx y P.rows (k+1)=P.adQ fx y P.rows k+(if fx.getD k 9=0∧0<P.exc y P.rows k then P.exc y P.rows k else 0):=rfl
  have s1:sz 72000000000 (P.bdQ fx y P.rows+P.adQ fx y P.rows k):=zC (pn (szB _ (Nat.le_refl _)) (szA k (by omega))) (by decide)
  have s2:=szE P.rows k (Nat.le_refl _) (by omega)
  rw[hg] at had
  by_cases d:fx[k]=0
  ·by_cases hp:0<P.exc y P.rows k
   ·rw[if_pos ⟨d,hp⟩] at had
    have hsg:=uV.2 hp
    have hsum:P.bdQ fx y P.rows+P.adQ fx y P.rows k+P.exc y P.rows k=P.bdQ fx y P.rows+P.adQ fx y P.rows (k+1):=by rw[had]; grind
    simp[wd,fO,e,hk',d]
    refine za (Md (q:=P.exc y P.rows k)) (by simp) (by simp) ?_
    simp[hsg,e,hk']
    refine za (Jk (K:=72000000000) (by decide) s1 (zC s2 (by decide))) (by simp) (by simp) ?_
    simp[w1,fO,hsum]
   ·rw[if_neg fun h=>hp h.2] at had
    have hsg:¬ 0<yA (P.exc y P.rows k):=fun h=>hp (uV.1 h)
    have hsum:P.adQ fx y P.rows (k+1)=P.adQ fx y P.rows k:=by rw[had]; grind
    simp[wd,fO,e,hk',d]
    refine za (Md (q:=P.exc y P.rows k)) (by simp) (by simp) ?_
    simp[hsg,w1,fO,hsum]
  ·rw[if_neg fun h=>d h.1] at had
   have hsum:P.adQ fx y P.rows (k+1)=P.adQ fx y P.rows k:=by rw[had]; grind
   simp[wd,fO,e,hk',d,w1,hsum]
 have hfp:P.bdQ fx y P.rows+P.adQ fx y P.rows fx.length=P.fpQ fx y:=rfl
 simp[wd,fO,nw,hfp,wh]
end
def No (k c:Nat) (n:Int) (Y:Nat→RF) (m:Nat):Prop:=(k:Int)≤n∧c≤9∧m≤30∧∀ j,j<m→gD (Y j) 2
noncomputable def Nn (k c:Nat) (n:Int) (Y:Nat→RF) (m:Nat):Bool:=@decide (No k c n Y m) (Classical.propDecidable _)
theorem Zj {k c m:Nat} {n:Int} {Y:Nat→RF} (h:No k c n Y m):Nn k c n Y m=true:=by unfold Nn; exact @decide_eq_true _ (Classical.propDecidable _) h
theorem ss {k c m:Nat} {n:Int} {Y:Nat→RF} (h:¬ No k c n Y m):Nn k c n Y m=false:=by unfold Nn; exact @decide_eq_false _ (Classical.propDecidable _) h
noncomputable def S8 (Y:Nat→RF) (m k:Nat):St:={env:=[(2,hL Y m),(7,iv k)],sto:=[]}
theorem Kx {P:Pb} {n:Int} {Y:Nat→RF} {m:Nat} (hm:m<4611686018427387904):zd Try.prog ul [.agg (pbC P),iv n,hL Y m] (bv (Nn P.of.length P.cl.length n Y m)):=by
 refine zD QK (by simp) ?_
 by_cases g1:(P.of.length:Int)≤n
 rotate_left
 ·rw[ss fun h=>g1 h.1]
  have g1':n<P.of.length:=by omega
  simp[sF,g1',vK]
 have g1':¬ n<P.of.length:=by omega
 by_cases g2:P.cl.length≤9
 rotate_left
 ·rw[ss fun h=>g2 h.2.1]
  have g2':(9:Int)<P.cl.length:=by omega
  simp[sF,g1',g2',vK]
 have g2':¬ (9:Int)<P.cl.length:=by omega
 by_cases g3:m≤30
 rotate_left
 ·rw[ss fun h=>g3 h.2.2.1]
  have g3':(30:Int)<m:=by omega
  simp[sF,g1',g2',g3',vK]
 have g3':¬ (30:Int)<m:=by omega
 simp[sF,g1',g2',g3']
 refine zl (S8 Y m) (fun k=>∀ j,j<k→gD (Y j) 2) m (by simp[S8]) (fun j hj=>by omega) (fun k hk hI=>?_) (fun hI=>?_)
 ·have e:(k:Int)<m:=by omega
  have w:=zq (k:=k) (by omega)
  by_cases q1:(Y k).a.length≤2
  rotate_left
  ·have q1':(2:Int)<(Y k).a.length:=by omega
   rw[ss fun h=>q1 (h.2.2.2 k hk).1]
   simp[v8,S8,e,hk,qE,q1',vK]
  have q1':¬ (2:Int)<(Y k).a.length:=by omega
  by_cases q2:(Y k).c.length≤2
  rotate_left
  ·have q2':(2:Int)<(Y k).c.length:=by omega
   rw[ss fun h=>q2 (h.2.2.2 k hk).2]
   simp[v8,S8,e,hk,qE,vv,q1',q2',vK]
  have q2':¬ (2:Int)<(Y k).c.length:=by omega
  simp[v8,S8,e,hk,qE,vv,q1',q2',w]
  exact fun j hj=>by
   by_cases ej:j=k
   ·subst ej; exact ⟨q1,q2⟩
   ·exact hI j (by omega)
 ·rw[Zj ⟨g1,g2,g3,hI⟩]
  simp[v8,S8,jQ,vK]
theorem YO {n:Int} (h1:-9223372036854775808≤n) (h2:n<9223372036854775808):zd Try.prog yu [iv n] (fq n):=by
 refine zD QM (by simp) ?_
 simp[bJ]
 refine za (rR h1 h2) (by simp) (by simp) ?_
 simp[bW]
def RF.opt (x:RF):Option Rat:=if x.v=true then some x.q else none
def inQ (q:Rat):Prop:=0<q∧q<1
instance (q:Rat):Decidable (inQ q):=inferInstanceAs (Decidable (_∧_))
def uR (q:Rat):Rat:=if q<0 then -q else q
def brR (g:Nat→Option Rat):Nat→Option (Nat × Rat)
 | 0=>none
 | k+1=>match g k with
  | none=>brR g k
  | some q=>if inQ q then (match brR g k with
   | none=>some (k,uR (q-1/2))
   | some (i,e)=>if uR (q-1/2)<e then some (k,uR (q-1/2)) else some (i,e)) else brR g k
def brI:Option (Nat × Rat)→Int
 | none=>0
 | some (i,_)=>i
def brT:Option (Nat × Rat)→Bool
 | none=>false
 | some _=>true
noncomputable def brL:Option (Nat × Rat)→List AV
 | none=>zz
 | some (_,d)=>fr d
def brA:Option (Nat × Rat)→Int
 | none=>-1
 | some (i,_)=>i
noncomputable def brM:Option (Nat × Rat)→List AV
 | none=>fr 1
 | some (_,d)=>fr d
def yR (Y:Nat→RF) (i:Nat):Option Rat:=(Y i).opt
section
variable {Y:Nat→RF} {m S k:Nat}
theorem Xs (h:yR Y k=none):brR (yR Y) (k+1)=brR (yR Y) k:=by rw[brR,h]
theorem eT {q:Rat} (h:yR Y k=some q) (h2:¬ inQ q):brR (yR Y) (k+1)=brR (yR Y) k:=by rw[brR,h]; exact if_neg h2
theorem gX {q:Rat} (h:yR Y k=some q) (h2:inQ q) (h3:brR (yR Y) k=none):brR (yR Y) (k+1)=some (k,uR (q-1/2)):=by rw[brR,h,h3]; exact if_pos h2
theorem dV {q e:Rat} {i:Nat} (h:yR Y k=some q) (h2:inQ q) (h3:brR (yR Y) k=some (i,e)) (h4:uR (q-1/2)<e):brR (yR Y) (k+1)=some (k,uR (q-1/2)):=by
 rw[brR,h,h3]
 show (if inQ q then (if uR (q-1/2)<e then some (k,uR (q-1/2)) else some (i,e)) else some (i,e))=_
 rw[if_pos h2,if_pos h4]
theorem dW {q e:Rat} {i:Nat} (h:yR Y k=some q) (h2:inQ q) (h3:brR (yR Y) k=some (i,e)) (h4:¬ uR (q-1/2)<e):brR (yR Y) (k+1)=some (i,e):=by
 rw[brR,h,h3]
 show (if inQ q then (if uR (q-1/2)<e then some (k,uR (q-1/2)) else some (i,e)) else some (i,e))=_
 rw[if_pos h2,if_neg h4]
theorem Fd {K:Nat} {q:Rat} (h:sz K q):sz K (uR q):=by unfold uR; split; exact qe h; exact h
theorem dv:sz 1 (1/2:Rat):=⟨by decide +kernel,by decide +kernel⟩
theorem Q2 (hy:∀ r q,r<m→yR Y r=some q→sz S q):∀ k,k≤m→∀ i e,brR (yR Y) k=some (i,e)→sz (S+2) e
 | 0,_,i,e,h=>by cases h
 | k+1,hk,i,e,h=>by
  have ih:=Q2 hy k (by omega)
  cases ho:yR Y k with
  | none=>rw[Xs ho] at h; exact ih i e h
  | some q =>
   have hs:sz (S+2) (uR (q-1/2)):=Fd (km (hy k q (by omega) ho) dv)
   by_cases h2:inQ q
   ·cases h3:brR (yR Y) k with
    | none=>rw[gX ho h2 h3] at h; cases h; exact hs
    | some p =>
     obtain ⟨j,d⟩:=p
     by_cases h4:uR (q-1/2)<d
     ·rw[dV ho h2 h3 h4] at h; cases h; exact hs
     ·rw[dW ho h2 h3 h4] at h; cases h; exact ih _ _ h3
   ·rw[eT ho h2] at h; exact ih i e h
theorem XU {x:RF} (h:x.v=true):x.opt=some x.q:=if_pos h
theorem R9 {x:RF} (h:x.v=false):x.opt=none:=if_neg (by rw[h]; decide)
theorem Ej:xk false 1 2=fq (1/2:Rat):=by
 rw[tP (by decide),wP,show mkRat (sg false 1) 2=(1/2:Rat) by decide +kernel]
theorem BT:zd Try.prog Sf [iv 1,iv 2] (.tuple [fq (1/2:Rat),iv 0]):=by
 have k1:=kO (n:=1) (by decide) (by decide)
 have k2:=kO (n:=2) (by decide) (by decide)
 have l1:=qz (x:=1) (by decide)
 have l2:=qz (x:=2) (by decide)
 have k:=cF (neg:=false) (N:=1) (D:=2) (by omega) (by omega) (by decide)
 rw[Ej] at k
 refine zD ac4 (by simp) ?_
 simp[LT,yJ wU]
 refine za k1 (by simp) (by simp) ?_
 simp
 refine za k2 (by simp) (by simp) ?_
 simp
 refine za k (by simp) (by simp) ?_
 simp[KT]
@[simp] theorem ahF {r:Option (Nat × Rat)} {k:Nat}:y5 k (brL r)=false:=by cases r<;>simp[brL,y5]
@[simp] theorem ahG {r:Option (Nat × Rat)} {k:Nat}:y5 k (brM r)=false:=by cases r<;>simp[brM]
noncomputable def lg (Y:Nat→RF) (m k:Nat):St :=
 {env:=[(4,.ptr 4 0),(6,.ptr 6 0),(7,.ptr 7 0),(8,.ptr 8 0),(17,hL Y m),(18,iv m),(19,iv k)],
  sto:=[(4,.var (fr (1/2))),(6,.var (fr 1)),(7,.var [bv (brT (brR (yR Y) k)),iv (brI (brR (yR Y) k))]),(8,.var (brL (brR (yR Y) k)))]}
theorem Pq (hS:S≤1000000) (hm:m<4611686018427387904) (hf:∀ r,r<m→(Y r).fine) (hy:∀ r q,r<m→yR Y r=some q→sz S q) :
  zd Try.prog tf [hL Y m] (.tuple [iv (brI (brR (yR Y) m)),bv (brT (brR (yR Y) m))]):=by
 have hA:agT Try.prog wF=true:=by kernel_rfl
 have hE0:∀ {ox oy:Operand} {K:AV→Option ze→Prop},z9 Try.prog .eql wF ox oy [.agg [bv false,iv 0],.agg [bv false,iv 0]] K=K (bv true) none:=fun {ox oy K}=>by
  rw[ga (xs:=[.bool false,.int .i64 0]) (ys:=[.bool false,.int .i64 0]) l0 lZ hA rfl rfl rfl rfl]
  rfl
 have hE1:∀ {i:Nat} {ox oy:Operand} {K:AV→Option ze→Prop},z9 Try.prog .eql wF ox oy [.agg [bv true,iv i],.agg [bv false,iv 0]] K=K (bv false) none:=fun {i ox oy K}=>by
  rw[ga (xs:=[.bool true,.int .i64 i]) (ys:=[.bool false,.int .i64 0]) l0 lZ hA rfl rfl rfl rfl]
  rfl
 have hone:zd Try.prog zP [iv 1] (fq 1):=yH (n:=1) (by decide) (by decide)
 refine zD Rq (by simp) ?_
 simp[eZ]
 refine za BT (by simp) (by simp) ?_
 simp
 refine za hone (by simp) (by simp) ?_
 simp
 refine zl (lg Y m) (fun _=>True) m (by simp[lg,brR,brT,brI,brL]) trivial (fun k hk _=>?_) (fun _=>?_)
 ·have e:(k:Int)<m:=by omega
  have w:=zq (k:=k) (by omega)
  have kv:=du (hf k hk)
  simp[qT,lg,e,hk]
  refine za kv (by simp) (by simp) ?_
  cases hv:(Y k).v with
  | false =>
   have hst:=Xs (Y:=Y) (k:=k) (R9 hv)
   simp[w,lg,hst]
  | true =>
   have ho:yR Y k=some (Y k).q:=XU hv
   have hs:=hy k _ hk ho
   have hrq:hr (Y k)=fr (Y k).q:=by rw[← Tb,← XS hv]
   obtain ⟨q,hq⟩:∃ q,(Y k).q=q:=⟨_,rfl⟩
   rw[hq] at ho hs hrq
   have h1:=uV (q:=q)
   simp[hrq]
   refine za (vi (q:=q)) (by simp) (by simp) ?_
   by_cases c1:0<q
   rotate_left
   ·have hst:=eT ho fun h=>c1 h.1
    have g1:yA q≤0:=by have:¬ 0<yA q:=fun h=>c1 (h1.1 h); omega
    simp[g1,w,lg,hst]
   have g1:¬ yA q≤0:=by have:=h1.2 c1; omega
   simp[g1]
   refine za (UY (K:=1000000) (by decide) (zC hs hS) (zC T4 (Nat.zero_le _)) (q:=1)) (by simp) (by simp) ?_
   have h2:=qy (p:=q) (q:=1)
   by_cases c2:q<1
   rotate_left
   ·have hst:=eT ho fun h=>c2 h.2
    have g2:0≤xV q 1:=by have:¬ xV q 1<0:=fun h=>c2 (h2.1 h); omega
    simp[g2,w,lg,hst]
   have g2:¬ 0≤xV q 1:=by have:=h2.2 c2; omega
   have hin:inQ q:=⟨c1,c2⟩
   simp[g2]
   have sd:sz (S+2) (q-1/2):=km hs dv
   refine za (T2 (K:=1000000) (by decide) (zC hs hS) (zC dv (by decide))) (by simp) (by simp) ?_
   obtain ⟨d,hd⟩:∃ d,q-1/2=d:=⟨_,rfl⟩
   rw[hd] at sd
   have sd':sz 2000000 d:=zC sd (by omega)
   rw[hd]
   simp
   refine za (vi (q:=d)) (by simp) (by simp) ?_
   have h3:=p9 (q:=d)
   by_cases c3:d<0
   ·have g3:=h3.2 c3
    have ha:uR d=-d:=if_pos c3
    have sa:sz 2000000 (-d):=qe sd'
    simp[g3]
    refine za (Ts (K:=2000000) (by decide) sd') (by simp) (by simp) ?_
    cases hb:brR (yR Y) k with
    | none =>
     have hst:=gX ho hin hb
     rw[hd,ha] at hst
     simp[brT,brI,brL,hE0,w,lg,hst]
    | some p =>
     obtain ⟨i,b⟩:=p
     have sb:=Q2 hy k (by omega) i b hb
     have h5:=qy (p:=-d) (q:=b)
     simp[brT,brI,brL,hE1]
     refine za (UY (K:=2000000) (by decide) sa (zC sb (by omega))) (by simp) (by simp) ?_
     by_cases c5:-d<b
     ·have hst:=dV ho hin hb (by rw[hd,ha]; exact c5)
      rw[hd,ha] at hst
      simp[h5.2 c5,w,lg,hst,brT,brI,brL]
     ·have hst:=dW ho hin hb (by rw[hd,ha]; exact c5)
      have g5:¬ xV (-d) b<0:=fun h=>c5 (h5.1 h)
      simp[g5,w,lg,hst,brT,brI,brL]
   ·have g3:¬ yA d<0:=fun h=>c3 (h3.1 h)
    have ha:uR d=d:=if_neg c3
    have sa:=sd'
    cases hb:brR (yR Y) k with
    | none =>
     have hst:=gX ho hin hb
     rw[hd,ha] at hst
     simp[g3,brT,brI,brL,hE0,w,lg,hst]
    | some p =>
     obtain ⟨i,b⟩:=p
     have sb:=Q2 hy k (by omega) i b hb
     have h5:=qy (p:=d) (q:=b)
     simp[g3,brT,brI,brL,hE1]
     refine za (UY (K:=2000000) (by decide) sa (zC sb (by omega))) (by simp) (by simp) ?_
     by_cases c5:d<b
     ·have hst:=dV ho hin hb (by rw[hd,ha]; exact c5)
      rw[hd,ha] at hst
      simp[h5.2 c5,w,lg,hst,brT,brI,brL]
     ·have hst:=dW ho hin hb (by rw[hd,ha]; exact c5)
      have g5:¬ xV d b<0:=fun h=>c5 (h5.1 h)
      simp[g5,w,lg,hst,brT,brI,brL]
 ·simp[qT,lg,kR,dz]
end
def wL:List Int→Nat→Int:=fun l k=>l.getD k 0
def P3:Pb:=⟨wL [1,1],wL [1,1],wL [],[0,0,0],[⟨0,wL [1,1],10⟩,⟨1,wL [1],6⟩,⟨2,wL [0,1],6⟩]⟩
theorem ad2:zd Try.prog uw [] (.agg [iv 1,iv 1,iv 0,iv 0,iv 0,iv 0,iv 1,iv 1,iv 0,iv 0,iv 0,iv 0,iv 0,iv 0,iv 0,iv 0,iv 0,iv 0,.list 1 .full [[iv 0],[iv 0],[iv 0]],.list 8 .full [[iv 0,iv 1,iv 1,iv 0,iv 0,iv 0,iv 0,iv 10],[iv 1,iv 1,iv 0,iv 0,iv 0,iv 0,iv 0,iv 6],[iv 2,iv 0,iv 1,iv 0,iv 0,iv 0,iv 0,iv 6]]]):=by
 refine zD T6 (by simp) ?_
 simp[fa,splice,fG]
theorem F3:zd Try.prog uw [] (.agg (pbC P3)):=by
 refine DZ ad2 ?_
 have e:ofR P3.of=[[iv 0,iv 1,iv 1,iv 0,iv 0,iv 0,iv 0,iv 10],[iv 1,iv 1,iv 0,iv 0,iv 0,iv 0,iv 0,iv 6],[iv 2,iv 0,iv 1,iv 0,iv 0,iv 0,iv 0,iv 6]]:=by
  unfold ofR P3
  simp only[List.map_cons,List.map_nil,rq]
  rfl
 simp only[yU]
 refine Yk ?_
 have h2:AV.imp (.list 8 .full [[iv 0,iv 1,iv 1,iv 0,iv 0,iv 0,iv 0,iv 10],[iv 1,iv 1,iv 0,iv 0,iv 0,iv 0,iv 0,iv 6],[iv 2,iv 0,iv 1,iv 0,iv 0,iv 0,iv 0,iv 6]]) (ofA P3.of):=by
  unfold ofA
  rw[e]
  exact wz
 have h1:AV.imp (.list 1 .full [[iv 0],[iv 0],[iv 0]]) (clA P3.cl):=wz
 repeat' first | exact yg h1 (yg h2 rV) | refine yg AV.imp.refl ?_
theorem adA:P3.cl.length≤1000:=by decide
theorem agV:P3.of.length≤1000000:=by decide
def exY (i:Nat):Rat:=if i=3∨i=4 then 6 else 0
theorem F0 (i:Nat):sz 3 (exY i):=by
 unfold exY
 split
 ·exact qd (n:=6) (by decide)
 ·exact wl
theorem F2:zd Try.prog x9 [.agg (pbC P3),.list 1 .full [[iv 0],[iv 0],[iv 0]],fL exY 15] (.tuple [fq 12,iv 0]):=by
 have h:=Za (P:=P3) (fx:=[0,0,0]) (Y:=fun i=>RF.of (exY i)) (m:=15) (S:=3) adA agV (by decide) (by decide) (fun r _=>dq (by decide:3≤137438953472) (F0 r)) (fun r _=>by rw[Gh]; exact F0 r)
 have e1:P3.fixE [0,0,0]=0:=by decide +kernel
 have e2:P3.rows=15:=by decide
 have hg:k9 (fun i=>RF.of (exY i)) 15:=fun r hr=>⟨NJ _,by
  show decide ((exY r).num<0)=false
  rw[decide_eq_false]
  unfold exY
  split<;>decide⟩
 have e3:fpE P3 [0,0,0] (fun i=>RF.of (exY i)) 15=0:=by
  unfold fpE
  rw[if_neg fun h=>h e1,if_neg fun h=>h e2.symm,m5 hg]
 have e4:(P3.fpQ [0,0,0] fun r=>(RF.of (exY r)).q)=12:=by
  simp only[Gh]
  decide +kernel
 rw[e3,if_pos rfl,e4] at h
 have hL:hL (fun i=>RF.of (exY i)) 15=fL exY 15:=by unfold Ytfmcplfbnkoglaa.hL fL; rw[Ta fun _ _=>rfl]
 rw[hL] at h
 exact XJ h (aaL AV.imp.refl wz AV.imp.refl)
theorem abA:∃ X Y:Nat→Rat,zd Try.prog w9 [.agg (pbC P3),.list 1 .full [[iv 1],[iv 0],[iv 0]]] (.tuple [.agg [bv true,f0 10,f1 10,f2 10,fL Y P3.rows,fL X 3],iv 0]):=by
 have e1:P3.fixE [1,0,0]=0:=by decide +kernel
 have e2:P3.fits (P3.inL [1,0,0]):=by decide +kernel
 obtain ⟨X,Y,v,⟨ho,_,_,_⟩,h⟩:=aa7 (P:=P3) (fx:=[1,0,0]) adA (by decide) e1 e2
 have ha:P3.accV [1,0,0] 3=10:=by decide +kernel
 have hG:=t9 (rP e1).1
 have hv:0≤v:=by
  rw[← ho.vy]
  exact xZ fun r hr=>Rat.mul_nonneg (ho.y0 r) (RV e2 hr)
 have hw:=adv (y:=exY) hG rfl (adH ho) (fun r _=>by unfold exY; split<;>decide)
 rw[adI ho] at hw
 have e3:P3.fpQ [1,0,0] exY=10:=by decide +kernel
 rw[e3] at hw
 have hq:(((P3.accV [1,0,0] ([1,0,0]:List Int).length:Int):Rat)+v)=10:=by
  have:((P3.accV [1,0,0] ([1,0,0]:List Int).length:Int):Rat)=10:=by
   show ((P3.accV [1,0,0] 3:Int):Rat)=10
   rw[ha]; rfl
  rw[this] at hw ⊢
  grind
 rw[hq] at h
 exact ⟨bX [1,0,0] X,Y,XJ h (afI AV.imp.refl wz)⟩
def exB (i:Nat):Rat:=if i=0 then 1/4 else if i=1 then 2/3 else 1/3
def exO (i:Nat):Option Rat:=some (exB i)
theorem FZ (i:Nat):sz 2 (exB i):=by
 unfold exB
 split
 ·exact ⟨by decide +kernel,by decide +kernel⟩
 ·split
  ·exact ⟨by decide +kernel,by decide +kernel⟩
  ·exact ⟨by decide +kernel,by decide +kernel⟩
theorem PV {a b:Nat} {q:Rat} (h1:q.num=a) (h2:q.den=b) (ha:0<a∧a<10) (hb:0<b∧b<10):mU [bv false,.list 1 .full [[uv a]],.list 1 .full [[uv b]]] (hr (RF.of q)):=by
 have d1:zf a=[a]:=by rw[sf (by omega),Nat.mod_eq_of_lt (b:=B) (show a<4294967296 by omega),Nat.div_eq_of_lt (b:=B) (show a<4294967296 by omega),yd]
 have d2:zf b=[b]:=by rw[sf (by omega),Nat.mod_eq_of_lt (b:=B) (show b<4294967296 by omega),Nat.div_eq_of_lt (b:=B) (show b<4294967296 by omega),yd]
 rw[Tb,uF,h1,h2]
 have e:decide ((a:Int)<0)=false:=decide_eq_false (by omega)
 rw[e]
 show mU _ [bv false,nl .plain (zf a),nl .plain (zf b)]
 rw[d1,d2]
 exact yg AV.imp.refl (yg wz (yg wz rV))
theorem F1:zd Try.prog tf [.list 3 .full [[bv false,.list 1 .full [[uv 1]],.list 1 .full [[uv 4]]],[bv false,.list 1 .full [[uv 2]],.list 1 .full [[uv 3]]],[bv false,.list 1 .full [[uv 1]],.list 1 .full [[uv 3]]]]] (.tuple [iv 1,bv true]):=by
 have ho:yR (fun i=>RF.of (exB i))=exO:=funext fun i=>by
  unfold yR exO
  rw[XU (NJ _),Gh]
 have h:=Pq (Y:=fun i=>RF.of (exB i)) (m:=3) (S:=2) (by decide) (by decide) (fun r _=>dq (by decide:2≤137438953472) (FZ r)) (fun r q _ h=>by
  rw[ho] at h
  cases h
  exact FZ r)
 rw[ho] at h
 have e1:brR exO 3=some (1,1/6):=by decide +kernel
 rw[e1] at h
 refine cC h (Nd rfl ⟨rfl,fun i x y hx hy=>?_⟩)
 match i with
 | 0=>cases hx; cases hy; exact PV (a:=1) (b:=4) (by decide +kernel) (by decide +kernel) (by decide) (by decide)
 | 1=>cases hx; cases hy; exact PV (a:=2) (b:=3) (by decide +kernel) (by decide +kernel) (by decide) (by decide)
 | 2=>cases hx; cases hy; exact PV (a:=1) (b:=3) (by decide +kernel) (by decide +kernel) (by decide) (by decide)
 | i+3=>simp at hx
noncomputable def Mn (k:Nat):St:={env:=[(1,.sl 9 3 0 15),(11,iv 15),(12,iv k)],sto:=[(9,.arr 3 (fZ (fun _=>0) k 15))]}
theorem mW:zd Try.prog y4 [] (bv true):=by
 have w0:zd Try.prog yu [iv 0] (fq 0):=YO (n:=0) (by decide) (by decide)
 have w6:zd Try.prog yu [iv 6] (fq 6):=YO (n:=6) (by decide) (by decide)
 have w12:zd Try.prog yu [iv 12] (fq 12):=YO (n:=12) (by decide) (by decide)
 have w10:zd Try.prog yu [iv 10] (fq 10):=YO (n:=10) (by decide) (by decide)
 have s12:sz 4 (12:Rat):=qd (n:=12) (by decide)
 have s10:sz 4 (10:Rat):=qd (n:=10) (by decide)
 have ksame:zd Try.prog vX [fq 12,fq 12] (bv true):=by have:=N8 (q:=12) (by decide:4≤137438953472) s12; simpa using this
 have ksame2:zd Try.prog vX [fq 10,fq 10] (bv true):=by have:=N8 (q:=10) (by decide:4≤137438953472) s10; simpa using this
 obtain ⟨X,Y,kb⟩:=abA
 refine zD QL (by simp) ?_
 simp[bH,eMk]
 refine zl Mn (fun _=>True) 15 (by simp[Mn,← nF (f:=fun _=>(0:Rat))]) trivial (fun k hk _=>?_) (fun _=>?_)
 ·have e:(k:Int)<15:=by omega
  have w:=zq (k:=k) (by omega)
  have hset:(fZ (fun _=>(0:Rat)) k 15).set k (fr 0)=fZ (fun _=>(0:Rat)) (k+1) 15:=lW (f:=fun _=>(0:Rat)) hk
  simp[pV,Mn,e]
  refine za w0 (by simp) (by simp) ?_
  simp[e,hk,w,Mn,hset]
 have hset2:((fR (fun _=>(0:Rat)) 15).set 3 (fr 6)).set 4 (fr 6)=fR exY 15:=by
  rw[uE,uE]
  refine ye fun i _=>?_
  unfold upd exY
  by_cases h4:i=4
  ·rw[if_pos h4,if_pos (.inr h4)]
  ·rw[if_neg h4]
   by_cases h3:i=3
   ·rw[if_pos h3,if_pos (.inl h3)]
   ·rw[if_neg h3,if_neg (by omega)]
 simp[pV,Mn,jR,nE]
 refine za w6 (by simp) (by simp) ?_
 simp
 refine za w6 (by simp) (by simp) ?_
 simp[hset2,xa]
 refine za (xs:=[]) (args:=[]) F3 rfl (.inl rfl) ?_
 simp
 refine za F2 (by simp) (by simp) ?_
 simp
 refine za (xs:=[]) (args:=[]) F3 rfl (.inl rfl) ?_
 simp
 refine za kb (by simp) (by simp) ?_
 simp[splice]
 refine za F1 (by simp) (by simp) ?_
 simp
 refine za w12 (by simp) (by simp) ?_
 simp
 refine za ksame (by simp) (by simp) ?_
 simp
 refine za w10 (by simp) (by simp) ?_
 simp
 refine za ksame2 (by simp) (by simp) ?_
 simp[bV]
@[simp] theorem ahz {sz:Nat} {rows:List (List AV)} {σ:Nat→Option ze}:wD σ (plc sz rows)=some (plc sz rows):=by unfold plc; split<;>rfl
section
variable {P:Pb} {fx:List Int}
theorem ahv (hn:P.cl.length≤1000) (hk:P.of.length≤1000000):zd Try.prog pz [.agg (pbC P),clA fx] (iv (P.fixE fx)):=by
 refine zD QQ (by simp) ?_
 simp[bO]
 refine za (N1 (fx:=fx) hn hk) (by simp) (by simp) ?_
 simp[bY]
end
abbrev JQ:List AV:=[bv false,.list 1 .full [[uv 1]],.list 1 .full [[uv 2]]]
theorem By:AV.imp (.agg JQ) (fq (1/2:Rat)):=by
 have e1:(1/2:Rat).num=1:=by decide +kernel
 have e2:(1/2:Rat).den=2:=by decide +kernel
 have d1:zf 1=[1]:=cm
 have d2:zf 2=[2]:=by rw[sf (by decide),show 2%B=2 from rfl,show 2/B=0 from rfl,yd]
 unfold fq
 rw[uF,e1,e2]
 show AV.imp (.agg JQ) (.agg [bv false,nl .plain (zf 1),nl .plain (zf 2)])
 rw[d1,d2]
 exact Yk (yg AV.imp.refl (yg wz (yg wz rV)))
theorem adC (d:Rat):splice (fr d) 0 [bv false]=fr (uR d):=by
 have e1:splice (fr d) 0 [bv false]=[bv false,f1 d,f2 d]:=by unfold fr; simp[splice,-nG]
 rw[e1,uF]
 have hn:=sS (q:=d)
 unfold uR
 by_cases c:d<0
 ·rw[if_pos c,pH,pI,Rat.neg_num,Rat.neg_den,Int.natAbs_neg,decide_eq_false (by have:=hn.2 c; omega)]
 ·rw[if_neg c,pH,pI,decide_eq_false (fun h=>c (hn.1 h))]
noncomputable def gF (Y:Nat→RF) (m k:Nat):St :=
 {env:=[(0,hL Y m),(4,.ptr 4 0),(5,.ptr 5 0),(6,iv (brA (brR (yR Y) k))),(7,.ptr 7 0),(8,iv k)],
  sto:=[(4,.var JQ),(5,.var (fr 1)),(7,.var (brM (brR (yR Y) k)))]}
section
variable {Y:Nat→RF} {m S k:Nat}
theorem Di (hS:S≤1000000) (hm:m<4611686018427387904) (hf:∀ r,r<m→(Y r).fine) (hy:∀ r q,r<m→yR Y r=some q→sz S q) :
  zd Try.prog mE [hL Y m] (.tuple [iv (brI (brR (yR Y) m)),bv (brT (brR (yR Y) m))]):=by
 have hone:zd Try.prog xD [iv 1] (fq 1):=rR (n:=1) (by decide) (by decide)
 refine zD Ru (by simp) ?_
 simp[dk]
 refine za hone (by simp) (by simp) ?_
 simp
 refine zl (gF Y m) (fun _=>True) m (by simp[gF,brR,brA,brM]) trivial (fun k hk _=>?_) (fun _=>?_)
 ·have e:(k:Int)<m:=by omega
  have w:=zq (k:=k) (by omega)
  have kv:=XI (hf k hk)
  simp[uZ,gF,e,hk]
  refine za kv (by simp) (by simp) ?_
  cases hv:(Y k).v with
  | false =>
   have hst:=Xs (Y:=Y) (k:=k) (R9 hv)
   simp[w,gF,hst]
  | true =>
   have ho:yR Y k=some (Y k).q:=XU hv
   have hs:=hy k _ hk ho
   have hrq:hr (Y k)=fr (Y k).q:=by rw[← Tb,← XS hv]
   obtain ⟨q,hq⟩:∃ q,(Y k).q=q:=⟨_,rfl⟩
   rw[hq] at ho hs hrq
   have h1:=uV (q:=q)
   simp[hrq,e,hk]
   refine za (Md (q:=q)) (by simp) (by simp) ?_
   by_cases c1:0<q
   rotate_left
   ·have hst:=eT ho fun h=>c1 h.1
    have g1:yA q≤0:=by have:¬ 0<yA q:=fun h=>c1 (h1.1 h); omega
    simp[g1,w,gF,hst]
   have g1:¬ yA q≤0:=by have:=h1.2 c1; omega
   simp[g1,e,hk,hrq]
   refine za (aaC (K:=1000000) (by decide) (zC hs hS) (zC T4 (Nat.zero_le _)) (q:=1)) (by simp) (by simp) ?_
   have h2:=qy (p:=q) (q:=1)
   by_cases c2:q<1
   rotate_left
   ·have hst:=eT ho fun h=>c2 h.2
    have g2:0≤xV q 1:=by have:¬ xV q 1<0:=fun h=>c2 (h2.1 h); omega
    simp[g2,w,gF,hst]
   have g2:¬ 0≤xV q 1:=by have:=h2.2 c2; omega
   have hin:inQ q:=⟨c1,c2⟩
   have sd:sz (S+2) (q-1/2):=km hs dv
   have ks:=Tc (G0 (K:=1000000) (by decide) (zC hs hS) (zC dv (by decide))) By
   obtain ⟨d,hd⟩:∃ d,q-1/2=d:=⟨_,rfl⟩
   rw[hd] at sd ks
   have sa:sz 2000000 (uR d):=Fd (zC sd (by omega))
   have ha:=adC d
   obtain ⟨a,hab⟩:∃ a,uR d=a:=⟨_,rfl⟩
   rw[hab] at sa ha
   simp[g2,e,hk,hrq]
   refine za ks (by simp) (by simp) ?_
   cases hb:brR (yR Y) k with
   | none =>
    have hst:=gX ho hin hb
    rw[hd,hab] at hst
    simp[ha,brA,brM,w,gF,hst]
   | some p =>
    obtain ⟨i,b⟩:=p
    have sb:=Q2 hy k (by omega) i b hb
    have h5:=qy (p:=a) (q:=b)
    have i0:¬ (i:Int)<0:=by omega
    simp[ha,brA,brM,i0]
    refine za (aaC (K:=2000000) (by decide) sa (zC sb (by omega))) (by simp) (by simp) ?_
    by_cases c5:a<b
    ·have hst:=dV ho hin hb (by rw[hd,hab]; exact c5)
     rw[hd,hab] at hst
     simp[h5.2 c5,w,gF,hst,brA,brM]
    ·have hst:=dW ho hin hb (by rw[hd,hab]; exact c5)
     have g5:¬ xV a b<0:=fun h=>c5 (h5.1 h)
     simp[g5,w,gF,hst,brA,brM]
 ·cases hb:brR (yR Y) m with
  | none=>simp[uZ,gF,qU,m8,hb,brA,brI,brT]
  | some p =>
   obtain ⟨i,b⟩:=p
   have i0:¬ (i:Int)<0:=by omega
   simp[uZ,gF,qU,m8,hb,brA,brI,brT,i0]
end
def isI (x:RF):Prop:=x.v=true∧x.c=[1]
instance (x:RF):Decidable (isI x):=inferInstanceAs (Decidable (_∧_))
def Xr (Y:Nat→RF) (m:Nat):Prop:=∀ j,j<m→isI (Y j)
instance (Y:Nat→RF) (m:Nat):Decidable (Xr Y m):=Nat.decidableBallLT m fun j _=>isI (Y j)
noncomputable def Ml (Y:Nat→RF) (m k:Nat):St:={env:=[(5,hL Y m),(6,iv m),(7,iv k)],sto:=[]}
noncomputable def Mm (Y:Nat→RF) (m k:Nat):St:={env:=[(0,hL Y m),(3,iv k)],sto:=[]}
section
variable {Y:Nat→RF} {m:Nat}
theorem JT (hm:m<4611686018427387904) (hf:∀ r,r<m→(Y r).fine):zd Try.prog tV [hL Y m] (bv (decide (Xr Y m))):=by
 refine zD Un (by simp) ?_
 simp[jO]
 refine zl (Ml Y m) (fun k=>∀ j,j<k→isI (Y j)) m (by simp[Ml]) (fun j hj=>by omega) (fun k hk hI=>?_) (fun hI=>?_)
 ·have e:(k:Int)<m:=by omega
  have w:=zq (k:=k) (by omega)
  have kv:=du (hf k hk)
  simp[s4,Ml,e,hk]
  refine za kv (by simp) (by simp) ?_
  have bad:¬ isI (Y k)→decide (Xr Y m)=false:=fun h=>decide_eq_false fun h2=>h (h2 k hk)
  cases hv:(Y k).v with
  | false =>
   rw[bad fun h=>by rw[h.1] at hv; cases hv]
   simp[wQ]
  | true =>
   obtain ⟨c,hc⟩:∃ c,(Y k).c=c:=⟨_,rfl⟩
   match c,hc with
   | [],hc =>
    rw[bad fun h=>by rw[h.2] at hc; cases hc]
    simp[vv,hc,wQ]
   | x::y::c,hc =>
    have h1:¬ ((c.length:Int)+1+1)=1:=by omega
    rw[bad fun h=>by rw[h.2] at hc; cases hc]
    simp[vv,hc,h1,wQ]
   | [x],hc =>
    by_cases hx:x=1
    ·subst hx
     simp[vv,hc,w,Ml]
     exact fun j hj=>by
      by_cases ej:j=k
      ·subst ej; exact ⟨hv,hc⟩
      ·exact hI j (by omega)
    ·have hx':¬ (x:Int)=1:=by omega
     rw[bad fun h=>by rw[h.2] at hc; cases hc; exact hx rfl]
     simp[vv,hc,hx',wQ]
     try simp[hx]
 ·rw[decide_eq_true (p:=Xr Y m) hI]
  simp[s4,Ml,mw,wQ]
theorem Lq (hm:m<4611686018427387904) (hf:∀ r,r<m→(Y r).fine):zd Try.prog pT [hL Y m] (bv (decide (Xr Y m))):=by
 refine zD Ur (by simp) ?_
 simp[j2]
 refine zl (Mm Y m) (fun k=>∀ j,j<k→isI (Y j)) m (by simp[Mm]) (fun j hj=>by omega) (fun k hk hI=>?_) (fun hI=>?_)
 ·have e:(k:Int)<m:=by omega
  have w:=zq (k:=k) (by omega)
  have kv:=XI (hf k hk)
  simp[s5,Mm,e,hk]
  refine za kv (by simp) (by simp) ?_
  have bad:¬ isI (Y k)→decide (Xr Y m)=false:=fun h=>decide_eq_false fun h2=>h (h2 k hk)
  cases hv:(Y k).v with
  | false =>
   rw[bad fun h=>by rw[h.1] at hv; cases hv]
   simp[wS]
  | true =>
   obtain ⟨c,hc⟩:∃ c,(Y k).c=c:=⟨_,rfl⟩
   match c,hc with
   | [],hc =>
    rw[bad fun h=>by rw[h.2] at hc; cases hc]
    simp[vv,hc,e,hk,wS]
   | x::y::c,hc =>
    have h1:¬ ((c.length:Int)+1+1)=1:=by omega
    rw[bad fun h=>by rw[h.2] at hc; cases hc]
    simp[vv,hc,h1,e,hk,wS]
   | [x],hc =>
    by_cases hx:x=1
    ·subst hx
     simp[vv,hc,w,e,hk,Mm]
     exact fun j hj=>by
      by_cases ej:j=k
      ·subst ej; exact ⟨hv,hc⟩
      ·exact hI j (by omega)
    ·have hx':¬ (x:Int)=1:=by omega
     rw[bad fun h=>by rw[h.2] at hc; cases hc; exact hx rfl]
     simp[vv,hc,hx',e,hk,wS]
     try simp[hx]
 ·rw[decide_eq_true (p:=Xr Y m) hI]
  simp[s5,Mm,mB,wS]
end
def pbZ:Pb:=⟨fun _=>0,fun _=>0,fun _=>0,[],[]⟩
section
variable {P:Pb}
theorem aeA:[iv 0,iv 0,iv 0,iv 0,iv 0,iv 0,iv 0,iv 0,iv 0,iv 0,iv 0,iv 0,iv 0,iv 0,iv 0,iv 0,iv 0,iv 0,z8,z8]=pbX pbZ z8 z8:=by rw[yU]; rfl
theorem acg {c c' o o':AV} (h1:AV.imp c c') (h2:AV.imp o o'):AV.imp (.agg (pbX P c o)) (.agg (pbX P c' o')):=by
 rw[yU,yU]
 refine Yk ?_
 repeat' first | exact yg h1 (yg h2 rV) | refine yg AV.imp.refl ?_
theorem aci:AV.imp (.agg [iv 0,iv 0,iv 0,iv 0,iv 0,iv 0,iv 0,iv 0,iv 0,iv 0,iv 0,iv 0,iv 0,iv 0,iv 0,iv 0,iv 0,iv 0,z8,z8]) (.agg (pbC pbZ)):=by
 rw[aeA]
 exact acg (AV.imp_nil rfl) (AV.imp_nil rfl)
end
theorem agi {K:Nat} {n:Int} {d:Nat} (h1:n.natAbs≤2^K) (h2:d≤2^K):sz K (mkRat n d):=by
 unfold mkRat
 split
 ·exact wl
 ·rename_i h; exact Rn h h1 h2
theorem ahA {x:RF} {D:Nat} (h:ok x.a∧ok x.c) (hs:gD x D):sz (32*D) x.q:=by
 have e1:2^(32*D)=B^D:=by rw[Nat.pow_mul,show (2:Nat)^32=B from rfl]
 have h1:=yC h.1 hs.1
 have h2:=yC h.2 hs.2
 unfold RF.q
 refine agi ?_ ?_
 ·rw[e1,show (sg x.s (val x.a)).natAbs=val x.a by unfold sg; split<;>omega]; omega
 ·rw[e1]; omega
section
variable {P:Pb} {Y:Nat→RF} {m:Nat} {fx:List Int}
theorem aaH (hY:∀ j,j<m→ok (Y j).a∧ok (Y j).c) (hs:∀ j,j<m→gD (Y j) 2):∀ j,j<m→(Y j).fine:=fun j hj=>JH (hY j hj) (hs j hj) (by decide)
theorem aht (hs:∀ j,j<m→gD (Y j) 2):∀ r q,r<m→yR Y r=some q→sz 64 q:=fun r q hr h=>by
 unfold yR RF.opt at h
 split at h
 ·rename_i hv
  cases h
  exact aal (hs r hr) (XS hv)
 ·cases h
theorem Pr (hm:m<2305843009213693952) (hY:∀ j,j<m→ok (Y j).a∧ok (Y j).c):zd Try.prog tg [hL Y m] (bv true):=by
 have hub:Try.prog.underlying va=some .bool:=by kernel_rfl
 have kl:=XJ (Kx (P:=pbZ) (n:=0) (Y:=Y) (m:=m) (by omega)) (aaL aci AV.imp.refl AV.imp.refl)
 refine zD dJ (by simp) ?_
 simp[ns]
 refine za kl (by simp) (by simp) ?_
 by_cases c1:No pbZ.of.length pbZ.cl.length 0 Y m
 rotate_left
 ·rw[ss c1]
  simp
  refine za (xs:=[]) (args:=[]) mW rfl (.inl rfl) ?_
  simp[vD]
 rw[Zj c1]
 by_cases c2:m≤20
 rotate_left
 ·have c2':(20:Int)<m:=by omega
  simp[c2']
  refine za (xs:=[]) (args:=[]) mW rfl (.inl rfl) ?_
  simp[vD]
 have c2':¬ (20:Int)<m:=by omega
 have hf:=aaH hY c1.2.2.2
 have hy:=aht c1.2.2.2
 simp[c2']
 refine za (Pq (by decide) (by omega) hf hy) (by simp) (by simp) ?_
 simp
 refine za (Di (by decide) (by omega) hf hy) (by simp) (by simp) ?_
 simp
 refine za (JT (by omega) hf) (by simp) (by simp) ?_
 simp
 refine za (Lq (by omega) hf) (by simp) (by simp) ?_
 simp[sK hub]
 refine za (xs:=[]) (args:=[]) mW rfl (.inl rfl) ?_
 simp[vD]
theorem Gd (hm:m<2305843009213693952) (hfx:fx.length<4611686018427387904) (hY:∀ j,j<m→ok (Y j).a∧ok (Y j).c):zd Try.prog sZ [.agg (pbC P),clA fx,hL Y m] (bv true):=by
 refine zD ab (by simp) ?_
 simp[mz]
 refine za (Kx (P:=P) (n:=12) (Y:=Y) (m:=m) (by omega)) (by simp) (by simp) ?_
 by_cases c1:No P.of.length P.cl.length 12 Y m
 rotate_left
 ·rw[ss c1]
  simp
  refine za (xs:=[]) (args:=[]) mW rfl (.inl rfl) ?_
  simp[wI]
 rw[Zj c1]
 by_cases c2:fx.length≤20
 rotate_left
 ·have c2':(20:Int)<fx.length:=by omega
  simp[c2']
  refine za (xs:=[]) (args:=[]) mW rfl (.inl rfl) ?_
  simp[wI]
 have c2':¬ (20:Int)<fx.length:=by omega
 obtain ⟨g1,g2,g3,g4⟩:=c1
 have hf:=aaH hY g4
 have hy:∀ r,r<m→sz 64 (Y r).q:=fun r hr=>ahA (hY r hr) (g4 r hr)
 have k1:=Za (P:=P) (fx:=fx) (Y:=Y) (m:=m) (S:=64) (by omega) (by omega) (by decide) (by omega) hf hy
 have k2:=QE (P:=P) (fx:=fx) (Y:=Y) (m:=m) (S:=64) (by omega) (by omega) (by decide) (by omega) hf hy
 obtain ⟨e,he⟩:∃ e,fpE P fx Y m=e:=⟨_,rfl⟩
 obtain ⟨q,hq⟩:∃ q,(P.fpQ fx fun r=>(Y r).q)=q:=⟨_,rfl⟩
 have hsame:∀ x,x=(if e=0 then fq q else zfr)→zd Try.prog vX [x,x] (bv true):=fun x hx=>by
  by_cases he0:e=0
  ·rw[if_pos he0] at hx
   subst hx
   have hsz:sz 70000000 q:=by
    have hc0:P.fixE fx=0:=by
     have:=he0
     rw[← he] at this
     unfold fpE at this
     split at this
     ·rename_i h; exact absurd this h
     ·rename_i h; exact Decidable.not_not.1 h
    obtain ⟨hc,hl,_⟩:=rP hc0
    have hG:=t9 hc
    have hr:P.rows=m:=by
     have:=he0
     rw[← he] at this
     unfold fpE at this
     rw[if_neg fun h=>h hc0] at this
     split at this
     ·cases this
     ·rename_i h; exact (Decidable.not_not.1 h).symm
    have hy':∀ r,r<P.rows→sz 64 (Y r).q:=fun r h=>hy r (by omega)
    have hrw:P.rows≤20:=by have:=hG.n; unfold Pb.rows; omega
    have s1:=Q0 hG hl hy' P.rows (Nat.le_refl _)
    have s2:=QW hG hl hy' fx.length (Nat.le_refl _)
    rw[← hq]
    have m1:P.rows*(64+11)≤20*75:=Nat.mul_le_mul hrw (Nat.le_refl _)
    have m2:fx.length*(21+P.rows*(64+3))≤20*(21+20*67):=Nat.mul_le_mul c2 (by have:P.rows*(64+3)≤20*67:=Nat.mul_le_mul hrw (Nat.le_refl _); omega)
    exact zC (pn s1 s2) (by omega)
   have:=N8 (q:=q) (by decide:70000000≤137438953472) hsz
   simpa using this
  ·rw[if_neg he0] at hx
   subst hx
   exact AL
 rw[he,hq] at k1 k2
 by_cases he0:e=0
 ·have hs:=hsame (fq q) (by rw[if_pos he0])
  rw[if_pos he0] at k1 k2
  simp[c2']
  refine za k1 (by simp) (by simp) ?_
  simp
  refine za k2 (by simp) (by simp) ?_
  simp
  refine za hs (by simp) (by simp) ?_
  simp
  refine za (xs:=[]) (args:=[]) mW rfl (.inl rfl) ?_
  simp[wI]
 ·have hs:=hsame zfr (by rw[if_neg he0])
  rw[if_neg he0] at k1 k2
  simp[c2']
  refine za k1 (by simp) (by simp) ?_
  simp
  refine za k2 (by simp) (by simp) ?_
  simp
  refine za hs (by simp) (by simp) ?_
  simp
  refine za (xs:=[]) (args:=[]) mW rfl (.inl rfl) ?_
  simp[wI]
end
theorem boundBranches_contract (xs:List AV) (h:gR [.slice Z1] xs):zd Try.prog tg xs (bv true):=by
 obtain ⟨x,rfl,h1⟩:=Fc h
 obtain ⟨Y,m,hcs,hm,hY⟩:=P0 h1
 simp only[List.cons.injEq,and_true] at hcs
 subst hcs
 exact Pr hm hY
theorem boundPrices_contract (xs:List AV) (h:gR [aay,.slice (.int .i64),.slice Z1] xs):zd Try.prog sZ xs (bv true):=by
 obtain ⟨x,y,z,rfl,h1,h2,h3⟩:=MQ h
 obtain ⟨P,rfl,_⟩:=acn h1
 obtain ⟨fx,hcs,hl⟩:=Ks h2
 simp only[List.cons.injEq,and_true] at hcs
 subst hcs
 obtain ⟨Y,m,hcs,hm,hY⟩:=P0 h3
 simp only[List.cons.injEq,and_true] at hcs
 subst hcs
 exact Gd hm (by unfold reachBytes at hl; omega) hY
section
variable {P:Pb} {ch:List Int} {T:List Nat}
theorem akd:P.pick (ints T)=T.map fun i:Nat=>P.at (i:Int):=by
 unfold Pb.pick ints
 rw[List.map_map]
 rfl
def akf (L:List Of) (k:Nat):St:={env:=[(5,ofA L),(7,iv (uj (fun o=>o.v) L k)),(8,iv k)],sto:=[]}
theorem ako (hn:P.cl.length≤1000) (hk:P.of.length≤1000000) (hc:P.chk=0) (ok:okP P.of.length ch):zd Try.prog kB [.agg (pbC P),clA ch] (iv ((P.pick ch).map fun o=>o.v).sum):=by
 have hG:=t9 hc
 have hm:=Ak ok
 have hP:∀ o∈P.pick ch,0≤o.v∧o.v≤1000000:=fun o ho=>by have:=(xY (xv (hG.off o (hm o ho))).1).2.1; omega
 have hl2:(P.pick ch).length≤160:=by rw[gq]; have:=KL ok; have:=hG.k; omega
 refine zD ady (by simp) ?_
 simp[Qx]
 refine za (X4 hn hk) (by simp) (by simp) ?_
 simp[hc]
 refine za (Dv hk ok) (by simp) (by simp) ?_
 simp
 generalize P.pick ch=L at *
 refine zl (akf L) (fun _=>True) L.length (by simp[akf,Zv]) trivial (fun k hk' _=>?_) (fun _=>?_)
 ·have e:(k:Int)<L.length:=by omega
  have hg:L[k]?=some L[k]:=by simp[hk']
  have w1:=zq (k:=k) (by omega)
  obtain ⟨p1,p2⟩:=mc (f:=fun o:Of=>o.v) hP k (by omega)
  have p3:=hP _ (List.getElem_mem hk')
  have w3:IntKind.i64.wrap (uj (fun o=>o.v) L k+L[k].v)=uj (fun o=>o.v) L k+L[k].v:=by rw[wrap64]<;>omega
  have hs:=fE (f:=fun o:Of=>o.v) hg
  simp[Xw,akf,e,hk',w1,w3,hs]
 ·have hall:uj (fun o=>o.v) L L.length=(L.map fun o=>o.v).sum:=cP
  simp[Xw,akf,Xv,hall,QD]
end
def ajY (P:Pb) (fx:List Int) (i:Nat) (T:List Nat):List (List Nat) :=
 (if fx.getD i 9<1 then [T] else [])++(if -1<fx.getD i 9∧P.fits ((T++[i]).map fun j:Nat=>P.at j) then [T++[i]] else [])
def cmN (P:Pb) (fx:List Int) (i:Nat) (out:List (List Nat)):Nat→List (List Nat)
 | 0=>[]
 | k+1=>cmN P fx i out k++ajY P fx i (out.getD k [])
def cmC (nx:Nat→List (List Nat)) (len:Nat) (k:Nat):Prop:=k<len∧(nx k).length<300
theorem akb (nx:Nat→List (List Nat)) (len:Nat):∃ N,(∀ k,k<N→cmC nx len k)∧¬ cmC nx len N:=by
 apply Classical.byContradiction
 intro h
 have key:∀ k,(∀ j,j<k→cmC nx len j):=fun k=>by
  induction k with
  | zero=>intro j hj; omega
  | succ k ih =>
   intro j hj
   by_cases e:j=k
   ·subst e
    exact Classical.byContradiction fun h2=>h ⟨j,ih,h2⟩
   ·exact ih j (by omega)
 exact absurd (key (len+1) len (by omega)).1 (by omega)
noncomputable def aj4 (nx:Nat→List (List Nat)) (len:Nat):Nat:=Classical.choose (akb nx len)
theorem akc {nx:Nat→List (List Nat)} {len k:Nat} (h:k<aj4 nx len):cmC nx len k:=(Classical.choose_spec (akb nx len)).1 k h
theorem akt {nx:Nat→List (List Nat)} {len:Nat}:¬ cmC nx len (aj4 nx len):=(Classical.choose_spec (akb nx len)).2
noncomputable def cmL (P:Pb) (fx:List Int):Nat→List (List Nat)
 | 0=>[[]]
 | i+1=>cmN P fx i (cmL P fx i) (aj4 (cmN P fx i (cmL P fx i)) (cmL P fx i).length)
section
variable {P:Pb} {fx:List Int}
theorem akj {i:Nat} {out:List (List Nat)}:∀ {k:Nat} {T:List Nat},k≤out.length→T∈cmN P fx i out k→∃ S,S∈out∧T∈ajY P fx i S
 | 0,T,_,h=>by cases h
 | k+1,T,hk,h=>by
  simp only[cmN,List.mem_append] at h
  rcases h with h | h
  ·exact akj (by omega) h
  ·refine ⟨out.getD k [],?_,h⟩
   have:out.getD k []=out[k]:=by simp[List.getD_eq_getElem?_getD,List.getElem?_eq_getElem (show k<out.length by omega)]
   rw[this]
   exact List.getElem_mem _
theorem aku {nx:Nat→List (List Nat)} {len:Nat}:aj4 nx len≤len:=by
 apply Nat.le_of_not_lt
 intro h
 exact absurd (akc h).1 (by omega)
theorem akp {i:Nat} {T:List Nat}:(ajY P fx i T).length≤2:=by
 unfold ajY
 rw[List.length_append]
 split<;>split<;>simp
theorem aki {i len:Nat} {out:List (List Nat)}:∀ {k},k≤aj4 (cmN P fx i out) len→(cmN P fx i out k).length≤301
 | 0,_=>by simp[cmN]
 | k+1,h=>by
  have h1:=(akc (nx:=cmN P fx i out) (len:=len) (k:=k) (by omega)).2
  have h2:=akp (P:=P) (fx:=fx) (i:=i) (T:=out.getD k [])
  simp only[cmN,List.length_append]
  omega
theorem akh:∀ i,(cmL P fx i).length≤301
 | 0=>by simp[cmL]
 | i+1=>aki (Nat.le_refl _)
theorem akm (hok:okF fx) {i:Nat} (hi:i<fx.length) {S T:List Nat} (hS:P.Comp fx i S) (h:T∈ajY P fx i S):P.Comp fx (i+1) T:=by
 have hx:=hok i hi
 unfold okX at hx
 unfold ajY at h
 rcases List.mem_append.1 h with h | h
 ·split at h
  ·rename_i h1
   simp only[List.mem_singleton] at h
   subst h
   exact ⟨hS.inc,fun j hj=>by have:=hS.lt j hj; omega,fun j hj h2=>by
    by_cases e:j=i
    ·subst e; omega
    ·exact hS.one j (by omega) h2,hS.out,hS.fit⟩
  ·cases h
 ·split at h
  ·rename_i h1
   simp only[List.mem_singleton] at h
   subst h
   refine ⟨?_,fun j hj=>?_,fun j hj h2=>?_,fun j hj=>?_,h1.2⟩
   ·rw[List.pairwise_append]
    exact ⟨hS.inc,List.pairwise_singleton _ _,fun a ha b hb=>by simp only[List.mem_singleton] at hb; subst hb; exact hS.lt a ha⟩
   ·rcases List.mem_append.1 hj with hj | hj
    ·have:=hS.lt j hj; omega
    ·simp only[List.mem_singleton] at hj; omega
   ·by_cases e:j=i
    ·subst e; simp
    ·exact List.mem_append_left _ (hS.one j (by omega) h2)
   ·rcases List.mem_append.1 hj with hj | hj
    ·exact hS.out j hj
    ·simp only[List.mem_singleton] at hj; subst hj; omega
  ·cases h
theorem aj8 (hG:P.Good) (hok:okF fx):∀ i,i≤fx.length→∀ T∈cmL P fx i,P.Comp fx i T
 | 0,_,T,h=>by
  have:T=[]:=by simpa [cmL] using h
  subst this
  refine ⟨List.Pairwise.nil,fun j hj=>(by cases hj),fun j hj=>(by omega),fun j hj=>(by cases hj),fun r hr=>?_⟩
  have:=(aC hG hr).1
  simpa using this
 | i+1,hi,T,h=>by
  obtain ⟨S,hS,hT⟩:=akj aku h
  exact akm hok (by omega) (aj8 hG hok i (by omega) S hS) hT
end
noncomputable def cmR (L:List (List Nat)):List (List AV):=L.map fun T=>[plc 1 (clR (ints T))]
noncomputable def cmV (i:Nat) (L:List (List Nat)):AV:=if i=0 then .lit 1 [[z8]] else .list 1 .plain (cmR L)
section
variable {i k l:Nat} {L:List (List Nat)} {K:AV→Option ze→Prop}
@[simp] theorem aj1:(cmR L).length=L.length:=by simp[cmR]
theorem akq:plc 1 (clR (ints []))=z8:=if_pos rfl
theorem aj6 {M:List (List Nat)}:cmR (L++M)=cmR L++cmR M:=by simp[cmR]
@[simp] theorem akx:dg l (cmV i L)=cmV i L:=by
 unfold cmV
 split
 ·rfl
 ·rfl
@[simp] theorem akw:zT k (cmV i L)=false:=by unfold cmV; split<;>simp
theorem aj9 (h:i=0→L=[[]]):qB false K (cmV i L)=K (iv L.length) none:=by
 unfold cmV
 split
 ·rename_i h0; rw[h h0]; simp[qB]
 ·simp[qB]
theorem akk (h:i=0→L=[[]]) (hk:k<L.length):xb 1 [cmV i L,iv k] K=K (.ro [plc 1 (clR (ints (L.getD k [])))]) none:=by
 unfold cmV
 split
 ·rename_i h0
  have h1:=h h0
  subst h1
  have:k=0:=by simp at hk; omega
  subst this
  have e2:([[]]:List (List Nat)).getD 0 []=[]:=rfl
  rw[e2,akq]
  simp[xb,yV,zQ]
 ·have h1:(k:Int)<L.length:=by omega
  have e2:L.getD k []=L[k]:=by simp[List.getD_eq_getElem?_getD,List.getElem?_eq_getElem hk]
  rw[e2]
  simp[xb,h1,hk,cmR]
theorem aka {sz by_ d m:Nat} {s:St} {KS:St→Prop} {rows:List (List AV)} (h0:0<sz) (h1:s.base+d=m) (h2:rows.length*by_≤140737488355328) (h3:rows.length≤9223372036854775807) (h4:lk s.sto m=none)
  (hK:KS ((s.dg m).put (some d) (.list sz (.own m) rows))):xQ sz by_ s (some d) KS [.list sz .full [],plc sz rows]:=by
 subst h1
 unfold plc
 split
 ·rename_i h
  have:rows=[]:=List.eq_nil_of_length_eq_zero h
  subst this
  exact ⟨.inl rfl,h0,by simp,by simp,.inl rfl,h4,hK⟩
 ·exact ⟨.inr rfl,h0,by simpa using h2,by simpa using h3,.inl rfl,h4,by simpa using hK⟩
end
theorem akn {l d sz by_:Nat} {s:St} {KS:St→Prop} {rows:List (List AV)} {x:List AV} (h0:0<sz) (h2:(rows.length+1)*by_≤140737488355328) (h3:rows.length+1≤9223372036854775807) (h4:lk s.sto l=none)
  (hr:x.all rf=true) (hne:¬ rows.length=0) (hK:KS ((s.dg l).put (some d) (apc l sz (rows++[x.map strip])))):xQ sz by_ s (some d) KS [apc l sz rows,.lit sz [x]]:=by
 have e:yV [x]=true:=by simp only[yV,List.all_cons,hr,List.all_nil,Bool.and_self]
 rw[Cy hne]
 rw[Cy (by simp)] at hK
 exact ⟨rfl,e,h0,h2,h3,rfl,h4,hK⟩
def cmT (fx:List Int) (i:Nat):Nat:=if fx.getD i 9<1 then 42 else 64
noncomputable def aj7 (P:Pb) (fx:List Int) (i:Nat):St:={env:=[(1,clA fx),(2,iv 300),(3,.ptr 3 0),(7,cmV i (cmL P fx i)),(8,iv i)],sto:=[(3,.var (pbC P))]}
noncomputable def ajZ (P:Pb) (fx:List Int) (i:Nat) (L:List (List Nat)) (k:Nat):St :=
 {env:=[(1,clA fx),(2,iv 300),(3,.ptr 3 0),(7,cmV i L),(8,iv i),(9,apc (cmT fx i) 1 (cmR (cmN P fx i L k))),(10,iv k)],sto:=[(3,.var (pbC P))]}
section
variable {P:Pb} {fx:List Int}
theorem St.imp_env_plain {s:St} {t tok sz:Nat} {rows:List (List AV)} (hk:lk s.env t=some (apc tok sz rows)):St.imp s {s with env:=pt s.env t (.list sz .plain rows)}:=by
 rintro F a w ⟨I,β,lam,h⟩
 refine ⟨I,β,lam,{h with env:=?_}⟩
 rintro ⟨d,t'⟩ x hx
 cases d with
 | zero =>
  have hx:lk (pt s.env t (.list sz .plain rows)) t'=some x:=hx
  rw[xO] at hx
  by_cases e:t=t'
  ·subst e
   rw[if_pos rfl] at hx
   cases hx
   obtain ⟨v,h1,h2⟩:=h.env (0,t) _ hk
   refine ⟨v,h1,?_⟩
   unfold apc at h2
   split at h2
   ·rename_i h0
    have hr:rows=[]:=List.eq_nil_of_length_eq_zero h0
    subst hr
    obtain ⟨av,cap,rfl,_⟩:=h2.list_inv
    exact .base (.listNil _ _ _ _ (fun h=>by cases h) (fun _ h=>by cases h))
   ·exact h2.strip
  ·rw[if_neg e] at hx
   exact h.env (0,t') x hx
 | succ d=>exact h.env (d+1,t') x hx
theorem ake (hn:P.cl.length≤1000) (hk:P.of.length≤1000000) (h:P.fixE fx=0):zd Try.prog mv [.agg (pbC P),clA fx,iv 300] (.list 1 .plain (cmR (cmL P fx fx.length))):=by
 obtain ⟨hc,hl,hok⟩:=rP h
 have hG:=t9 hc
 have hkk:=hG.k
 refine wT G9 (by simp) ?_
 simp[b9,wk]
 refine mG (aj7 P fx) (fun _=>True) fx.length ?_ trivial (fun i hi _=>?_) (fun _=>?_)
 ·refine St.imp_of ?_
  simp[aj7,cmV]
 ·have e:(i:Int)<fx.length:=by omega
  have w:=zq (k:=i) (by omega)
  have hz:i=0→cmL P fx i=[[]]:=fun h=>by subst h; rfl
  have hcomp:=aj8 hG hok i (by omega)
  obtain ⟨L,hL⟩:∃ L,cmL P fx i=L:=⟨_,rfl⟩
  rw[hL] at hz hcomp
  have hLl:L.length≤301:=by rw[← hL]; exact akh i
  have hnext:cmL P fx (i+1)=cmN P fx i L (aj4 (cmN P fx i L) L.length):=by rw[cmL,hL]
  simp[eA,aj7,hL,e]
  refine zl (ajZ P fx i L) (fun _=>True) (aj4 (cmN P fx i L) L.length) (by simp[ajZ,cmN,cmR]) trivial (fun k hk2 _=>?_) (fun _=>?_)
  ·obtain ⟨q1,q2⟩:=akc hk2
   have e2:(k:Int)<L.length:=by omega
   have e3:((cmN P fx i L k).length:Int)<300:=by omega
   have w2:=zq (k:=k) (by omega)
   have hg:=n8 hi
   obtain ⟨T,hT⟩:∃ T,L.getD k []=T:=⟨_,rfl⟩
   have hcT:P.Comp fx i T:=by
    have:T=L[k]:=by rw[← hT]; simp[List.getD_eq_getElem?_getD,List.getElem?_eq_getElem q1]
    rw[this]
    exact hcomp _ (List.getElem_mem q1)
   have hia:∀ {K:AV→Option ze→Prop},xb 1 [cmV i L,iv k] K=K (.ro [plc 1 (clR (ints T))]) none:=fun {K}=>by rw[akk hz q1,hT]
   have hln:∀ {K:AV→Option ze→Prop},qB false K (cmV i L)=K (iv L.length) none:=fun {K}=>aj9 hz
   have hgx:i<(clR fx).length:=by simpa using hi
   have hgc:(clR fx)[i]=[iv fx[i]]:=by simp[clR]
   have hTl:T.length≤160:=by
    have hok2:okP P.of.length (ints T):=ahr hcT.inc fun j hj=>by have:=hcT.lt j hj; omega
    have:=KL hok2
    rw[Ni] at this; omega
   have hokT:okP P.of.length (ints (T++[i])):=by
    refine ahr ?_ fun j hj=>?_
    ·rw[List.pairwise_append]
     exact ⟨hcT.inc,List.pairwise_singleton _ _,fun a ha b hb=>by simp only[List.mem_singleton] at hb; subst hb; exact hcT.lt a ha⟩
    ·rcases List.mem_append.1 hj with hj | hj
     ·have:=hcT.lt j hj; omega
     ·simp only[List.mem_singleton] at hj; omega
   have hrow:plc 1 (clR (ints (T++[i])))=.list 1 .plain (clR (ints T)++[[iv i]]):=by
    unfold plc
    rw[if_neg (by simp),BD]
    rfl
   have cmR1:∀ S:List Nat,cmR [S]=[[plc 1 (clR (ints S))]]:=fun S=>rfl
   have cmR2:cmR [T,T++[i]]=[[plc 1 (clR (ints T))],[.list 1 .plain (clR (ints T)++[[iv i]])]]:=by rw[← hrow]; rfl
   have hfeas:=afe (ch:=ints (T++[i])) hn hk hc hokT
   rw[akd] at hfeas
   unfold clA at hfeas
   rw[BD] at hfeas
   rw[show clR (ints [i])=[[iv i]] from rfl] at hfeas
   obtain ⟨M,hM⟩:∃ M,(T++[i]).map (fun j:Nat=>P.at (j:Int))=M:=⟨_,rfl⟩
   rw[hM] at hfeas
   have hx:=hok i hi
   unfold okX at hx
   rw[hg] at hx
   rcases hx with d | d | d
   ·have ht:cmT fx i=42:=if_pos (by rw[hg,d]; decide)
    have hst:cmN P fx i L (k+1)=cmN P fx i L k++[T]:=by
     rw[cmN,hT]; unfold ajY; rw[hM,hg,d,if_pos (by decide),if_neg (fun h=>by have:=h.1; omega)]; rfl
    simp[-cellsOf,-qB,-xb,ez,ajZ,hln,agr,e2,e3,x5 hgx,hgc,d,hia,wk,ht]
    refine agX (by decide) rfl ?_ ?_ (by simp) (by simp) ?_
    ·simp only[aj1]; omega
    ·simp only[aj1]; omega
    simp[-cellsOf,-qB,-xb,x5 hgx,hgc,d,w2,ajZ,ht,hst,aj6,cmR1]
   ·have ht:cmT fx i=42:=if_pos (by rw[hg,d]; decide)
    have hstep:P.fits M→cmN P fx i L (k+1)=cmN P fx i L k++([T]++[T++[i]]):=fun c=>by
     rw[cmN,hT]; unfold ajY; rw[hM,hg,d,if_pos (by decide),if_pos ⟨by decide,c⟩]
    have hstepN:¬ P.fits M→cmN P fx i L (k+1)=cmN P fx i L k++[T]:=fun c=>by
     rw[cmN,hT]; unfold ajY; rw[hM,hg,d,if_pos (by decide),if_neg (fun h=>c h.2)]; rfl
    simp[-cellsOf,-qB,-xb,ez,ajZ,hln,agr,e2,e3,x5 hgx,hgc,d,hia,wk,ht]
    refine agX (by decide) rfl ?_ ?_ (by simp) (by simp) ?_
    ·simp only[aj1]; omega
    ·simp only[aj1]; omega
    simp[-cellsOf,-qB,-xb,x5 hgx,hgc,d,hia]
    refine aka (by decide) rfl ?_ ?_ (by simp) ?_
    ·simp only[jr,Ni]; omega
    ·simp only[jr,Ni]; omega
    simp[aA]
    refine ⟨by omega,by omega,?_⟩
    refine za hfeas (by simp) (by simp) ?_
    by_cases c:P.fits M
    ·have hst:=hstep c
     simp[c,wk]
     refine akn (by decide) ?_ ?_ (by simp) (by simp) (by simp) ?_
     ·simp only[aj1,List.length_append,List.length_cons,List.length_nil]; omega
     ·simp only[aj1,List.length_append,List.length_cons,List.length_nil]; omega
     simp[w2,ajZ,ht,hst,aj6,cmR2]
    ·have hst:=hstepN c
     simp[c,w2,ajZ,ht,hst,aj6,cmR1]
   ·have ht:cmT fx i=64:=if_neg (by rw[hg,d]; decide)
    have hstep:P.fits M→cmN P fx i L (k+1)=cmN P fx i L k++[T++[i]]:=fun c=>by
     rw[cmN,hT]; unfold ajY; rw[hM,hg,d,if_neg (by decide),if_pos ⟨by decide,c⟩]; rfl
    have hstepN:¬ P.fits M→cmN P fx i L (k+1)=cmN P fx i L k:=fun c=>by
     rw[cmN,hT]; unfold ajY; rw[hM,hg,d,if_neg (by decide),if_neg (fun h=>c h.2)]; simp
    simp[-cellsOf,-qB,-xb,ez,ajZ,hln,agr,e2,e3,x5 hgx,hgc,d,hia,ht]
    refine aka (by decide) rfl ?_ ?_ (by simp) ?_
    ·simp only[jr,Ni]; omega
    ·simp only[jr,Ni]; omega
    simp[aA]
    refine ⟨by omega,by omega,?_⟩
    refine za hfeas (by simp) (by simp) ?_
    by_cases c:P.fits M
    ·have hst:=hstep c
     simp[c,wk]
     refine agX (by decide) rfl ?_ ?_ (by simp) (by simp) ?_
     ·simp only[aj1]; omega
     ·simp only[aj1]; omega
     simp[w2,ajZ,ht,hst,aj6,cmR1,hrow]
    ·have hst:=hstepN c
     simp[c,w2,ajZ,ht,hst]
  ·obtain ⟨N,hN⟩:∃ N,aj4 (cmN P fx i L) L.length=N:=⟨_,rfl⟩
   have hst:=akt (nx:=cmN P fx i L) (len:=L.length)
   have hle:=aki (P:=P) (fx:=fx) (i:=i) (len:=L.length) (out:=L) (Nat.le_refl _)
   rw[hN] at hst hle hnext ⊢
   have hcond:¬ ((N:Int)<L.length∧((cmN P fx i L N).length:Int)<300):=fun h=>hst ⟨by omega,by omega⟩
   have wi:IntKind.i64.wrap ((i:Int)+1)=((i+1:Nat):Int):=w
   have key:∀ K:Exit→St→Prop,(∀ b,K (.exit 2) {env:=[(1,clA fx),(2,iv 300),(3,.ptr 3 0),(7,cmV i L),(8,iv i),(9,apc (cmT fx i) 1 (cmR (cmN P fx i L N))),(10,iv N),(28,bv b)],sto:=[(3,.var (pbC P))]})→awp Try.prog ez (ajZ P fx i L N) (ug K):=fun K hK=>by
    by_cases c1:(N:Int)<L.length
    ·have c2:¬ ((cmN P fx i L N).length:Int)<300:=fun h=>hcond ⟨c1,h⟩
     simp[-qB,ez,ajZ,aj9 hz,agr,c1,c2]
     exact hK false
    ·simp[-qB,ez,ajZ,aj9 hz,c1]
     exact hK false
   refine key _ fun b=>?_
   simp[et,ew,w]
   refine St.imp.trans (St.imp_env_plain (t:=7) (tok:=cmT fx i) (sz:=1) (rows:=cmR (cmN P fx i L N)) (by simp)) (St.imp_of ?_)
   simp[aj7,cmV,hnext]
 ·by_cases h0:fx.length=0
  ·have e0:cmL P fx fx.length=[[]]:=by rw[h0]; rfl
   simp[eA,aj7,ey,aa,cmV,h0]
   have e1:cmR (cmL P fx 0)=[[z8]]:=by
    show [[plc 1 (clR (ints []))]]=_
    rw[akq]
   rw[e1]
   exact ⟨.list 1 .full [[z8]],rfl,wz⟩
  ·simp[eA,aj7,ey,aa,cmV,h0]
   exact AV.imp.refl
end
section
variable {P:Pb} {fx:List Int} {x:Nat→Rat} {Y:Nat→RF} {m:Nat}
theorem akg (hG:P.Good) (hl:fx.length=P.of.length) (h:P.Sol fx x):P.fits (P.inL fx):=fun r hr=>by
 have h1:=h.row r hr
 have h2:zh fx.length (fun i=>if fx.getD i 9=1 then P.cof r i else 0)≤zh fx.length (fun i=>P.cof r i*x i):=jA fun i hi=>by
  by_cases e:fx.getD i 9=1
  ·rw[if_pos e,h.one i hi e]; grind
  ·rw[if_neg e]; exact Rat.mul_nonneg (FE hG (by omega) hr).1 (h.x0 i hi)
 have h3:0≤P.lB fx r:=by rw[NZ]; grind
 unfold Pb.lB Pb.relB at h3
 have h4:0≤P.bnd r-((P.inL fx).map (P.coef r)).sum:=by exact_mod_cast h3
 omega
theorem akv (hfx:fx.length≤20) (he:fpE P fx Y m=0) (hy:∀ r,r<m→sz 64 (Y r).q):sz 70000000 (P.fpQ fx fun r=>(Y r).q):=by
 have hc0:P.fixE fx=0:=by
  unfold fpE at he
  split at he
  ·rename_i h; exact absurd he h
  ·rename_i h; exact Decidable.not_not.1 h
 obtain ⟨hc,hl,_⟩:=rP hc0
 have hG:=t9 hc
 have hr:P.rows=m:=by
  unfold fpE at he
  rw[if_neg fun h=>h hc0] at he
  split at he
  ·cases he
  ·rename_i h; exact (Decidable.not_not.1 h).symm
 have hy':∀ r,r<P.rows→sz 64 (Y r).q:=fun r h=>hy r (by omega)
 have hrw:P.rows≤20:=by have:=hG.n; unfold Pb.rows; omega
 have s1:=Q0 hG hl hy' P.rows (Nat.le_refl _)
 have s2:=QW hG hl hy' fx.length (Nat.le_refl _)
 have m1:P.rows*(64+11)≤20*75:=Nat.mul_le_mul hrw (Nat.le_refl _)
 have m2:fx.length*(21+P.rows*(64+3))≤20*(21+20*67):=Nat.mul_le_mul hfx (by have:P.rows*(64+3)≤20*67:=Nat.mul_le_mul hrw (Nat.le_refl _); omega)
 exact zC (pn s1 s2) (by omega)
theorem akr (he:fpE P fx Y m=0):P.rows=m∧k9 Y m:=by
 have hc0:P.fixE fx=0:=by
  unfold fpE at he
  split at he
  ·rename_i h; exact absurd he h
  ·rename_i h; exact Decidable.not_not.1 h
 unfold fpE at he
 rw[if_neg fun h=>h hc0] at he
 split at he
 ·cases he
 ·rename_i h; exact ⟨(Decidable.not_not.1 h).symm,Bx he⟩
theorem aks {r:Nat} (hg:k9 Y m) (hr:r<m):0≤(Y r).q:=by
 have h:=af7 (hg r hr).1
 rw[(hg r hr).2] at h
 have:¬ (Y r).q<0:=of_decide_eq_false h.symm
 grind
end
def aj3 (P:Pb) (T:List Nat):Int:=((T.map fun i:Nat=>P.at (i:Int)).map fun o=>o.v).sum
noncomputable def aj0 (P:Pb) (L:List (List Nat)) (bc:List AV) (e:Int) (rc:List AV) (k:Nat):St :=
 {env:=[(3,.ptr 3 0),(7,.ptr 7 0),(8,iv e),(9,.ptr 9 0),(11,.list 1 .plain (cmR L)),(12,iv k)],sto:=[(3,.var (pbC P)),(7,.var bc),(9,.var rc)]}
section
variable {P:Pb} {fx:List Int} {Y:Nat→RF} {m:Nat}
theorem akl (hm:m<2305843009213693952) (hfx:fx.length<4611686018427387904) (hY:∀ j,j<m→ok (Y j).a∧ok (Y j).c):zd Try.prog ai [.agg (pbC P),clA fx,hL Y m] (bv true):=by
 refine zD Ce (by simp) ?_
 simp[aE]
 refine za (Kx (P:=P) (n:=8) (Y:=Y) (m:=m) (by omega)) (by simp) (by simp) ?_
 by_cases c1:No P.of.length P.cl.length 8 Y m
 rotate_left
 ·rw[ss c1]
  simp
  refine za (xs:=[]) (args:=[]) mW rfl (.inl rfl) ?_
  simp[Zz]
 rw[Zj c1]
 by_cases c2:fx.length≤20
 rotate_left
 ·have c2':(20:Int)<fx.length:=by omega
  simp[c2']
  refine za (xs:=[]) (args:=[]) mW rfl (.inl rfl) ?_
  simp[Zz]
 have c2':¬ (20:Int)<fx.length:=by omega
 obtain ⟨g1,g2,g3,g4⟩:=c1
 have hn:P.cl.length≤1000:=by omega
 have hk:P.of.length≤1000000:=by omega
 simp[c2']
 refine za (ahv (fx:=fx) hn hk) (by simp) (by simp) ?_
 by_cases c3:P.fixE fx=0
 rotate_left
 ·simp[c3]
  refine za (xs:=[]) (args:=[]) mW rfl (.inl rfl) ?_
  simp[Zz]
 obtain ⟨hc,hl,hok⟩:=rP c3
 have hG:=t9 hc
 have hf:=aaH hY g4
 have hy:∀ r,r<m→sz 64 (Y r).q:=fun r hr=>ahA (hY r hr) (g4 r hr)
 have k1:=Za (P:=P) (fx:=fx) (Y:=Y) (m:=m) (S:=64) hn hk (by decide) (by omega) hf hy
 have kc:=ake hn hk c3
 have hcomp:=aj8 hG hok fx.length (Nat.le_refl _)
 have hlen:=akh (P:=P) (fx:=fx) fx.length
 obtain ⟨L,hL⟩:∃ L,cmL P fx fx.length=L:=⟨_,rfl⟩
 rw[hL] at kc hcomp hlen
 obtain ⟨e,he⟩:∃ e,fpE P fx Y m=e:=⟨_,rfl⟩
 obtain ⟨q,hq⟩:∃ q,(P.fpQ fx fun r=>(Y r).q)=q:=⟨_,rfl⟩
 have hqs:e=0→sz 70000000 q∧∀ x,P.Sol fx x→P.val fx.length x≤q:=fun h=>by
  rw[h] at he
  obtain ⟨hr,hg⟩:=akr he
  rw[← hq]
  exact ⟨akv c2 he hy,fun x hx=>adv hG hl hx fun r h=>aks hg (by omega)⟩
 rw[he,hq] at k1
 have hstep:∀ (k:Nat) (hk2:k<L.length) (T:List Nat),L[k]=T→(k:Int)<L.length∧IntKind.i64.wrap ((k:Int)+1)=((k+1:Nat):Int)∧∃ (hcr:k<(cmR L).length),(cmR L)[k]=[plc 1 (clR (ints T))] ∧
   zd Try.prog kB [.agg (pbC P),plc 1 (clR (ints T))] (iv (aj3 P T))∧zd Try.prog yu [iv (aj3 P T)] (fq ((aj3 P T:Int):Rat))∧sz 28 ((aj3 P T:Int):Rat) ∧
   (P.Sol fx (kK T)∧P.val fx.length (kK T)=((aj3 P T:Int):Rat)):=fun k hk2 T hT=>by
  have hcT:P.Comp fx fx.length T:=by rw[← hT]; exact hcomp _ (List.getElem_mem hk2)
  have hokT:okP P.of.length (ints T):=ahr hcT.inc fun j hj=>by have:=hcT.lt j hj; omega
  have hv:=ako hn hk hc hokT
  rw[akd] at hv
  have hTl:=KL hokT
  rw[Ni] at hTl
  have hb:=Qs (a:=0) (b:=1000000) (f:=fun o:Of=>o.v) (l:=T.map fun i:Nat=>P.at (i:Int)) fun o ho=>by
   obtain ⟨j,hj,rfl⟩:=List.mem_map.1 ho
   have:=(xY (xv (hG.off _ (at_mem (i:=j) (by have:=hcT.lt j hj; omega)))).1).2.1
   omega
  rw[List.length_map] at hb
  have hb2:0≤aj3 P T∧aj3 P T≤8000000:=by unfold aj3; omega
  refine ⟨by omega,zq (k:=k) (by omega),by simpa using hk2,by simp[cmR,hT],Tc hv (nK rU),YO (by omega) (by omega),qd (by omega),ag3 hok hcT,ag4 hcT⟩
 by_cases hfit:P.fits (P.inL fx)
 ·obtain ⟨X,Z,v,⟨ho,_,_,hv⟩,kb⟩:=aa7 (fx:=fx) hn (by omega) c3 hfit
  obtain ⟨B,hB⟩:∃ B,((P.accV fx fx.length:Int):Rat)+v=B:=⟨_,rfl⟩
  have hbv:=adI ho
  have hbf:=ai6 ho
  have hBs:sz 30000000 B:=by
   rw[← hB]
   exact zC (pn (Fe hG hl) hv) (by rw[QZ]; omega)
  rw[hB] at kb hbv hbf
  have hBx:∀ x,P.Sol fx x→P.val fx.length x≤B:=fun x hx=>by rw[← hbf]; exact adv hG hl hx fun r _=>ho.y0 r
  simp[c3]
  refine za k1 (by simp) (by simp) ?_
  by_cases he0:e=0
  ·obtain ⟨hq1,hq2⟩:=hqs he0
   rw[if_pos he0]
   simp[he0]
   refine za kb (by simp) (by simp) ?_
   simp
   refine za kc (by simp) (by simp) ?_
   simp
   refine zl (aj0 P L (fr q) 0 [bv true,f0 B,f1 B,f2 B,fL Z P.rows,fL (bX fx X) fx.length]) (fun _=>True) L.length (by simp[aj0]) trivial (fun k hk2 _=>?_) (fun _=>?_)
   ·obtain ⟨T,hT⟩:∃ T,L[k]=T:=⟨_,rfl⟩
    obtain ⟨e2,w2,hcr,hgr,kv,kw,hvs,hsol⟩:=hstep k hk2 T hT
    have o2:¬ 0<xV ((aj3 P T:Int):Rat) B:=fun h=>by
     have h1:=abi.1 h
     have h2:=hBx _ hsol.1
     rw[hsol.2] at h2
     grind
    have o1:¬ 0<xV ((aj3 P T:Int):Rat) q:=fun h=>by
     have h1:=abi.1 h
     have h2:=hq2 _ hsol.1
     rw[hsol.2] at h2
     grind
    simp[-xb,x5 hcr,hgr,df,aj0,e2]
    refine za kv (by simp) (by simp) ?_
    simp
    refine za kw (by simp) (by simp) ?_
    simp
    refine za (aaC (K:=70000000) (by decide) (zC hvs (by decide)) hq1) (by simp) (by simp) ?_
    simp[o1]
    refine za (aaC (K:=30000000) (by decide) (zC hvs (by decide)) hBs) (by simp) (by simp) ?_
    simp[o2,w2,aj0]
   ·have o3:xV B q≤0:=by
     have h2:=hq2 _ (adH ho)
     rw[hbv] at h2
     have:¬ 0<xV B q:=fun h=>by have:=abi.1 h; grind
     omega
    simp[df,aj0,de]
    refine za (aaC (K:=70000000) (by decide) (zC hBs (by decide)) hq1) (by simp) (by simp) ?_
    simp[o3]
    refine za (xs:=[]) (args:=[]) mW rfl (.inl rfl) ?_
    simp[Zz]
  ·rw[if_neg he0]
   simp
   refine za kb (by simp) (by simp) ?_
   simp
   refine za kc (by simp) (by simp) ?_
   simp
   refine zl (aj0 P L zz e [bv true,f0 B,f1 B,f2 B,fL Z P.rows,fL (bX fx X) fx.length]) (fun _=>True) L.length (by simp[aj0]) trivial (fun k hk2 _=>?_) (fun _=>?_)
   ·obtain ⟨T,hT⟩:∃ T,L[k]=T:=⟨_,rfl⟩
    obtain ⟨e2,w2,hcr,hgr,kv,kw,hvs,hsol⟩:=hstep k hk2 T hT
    have o2:¬ 0<xV ((aj3 P T:Int):Rat) B:=fun h=>by
     have h1:=abi.1 h
     have h2:=hBx _ hsol.1
     rw[hsol.2] at h2
     grind
    simp[-xb,x5 hcr,hgr,df,aj0,e2]
    refine za kv (by simp) (by simp) ?_
    simp
    refine za kw (by simp) (by simp) ?_
    simp[he0]
    refine za (aaC (K:=30000000) (by decide) (zC hvs (by decide)) hBs) (by simp) (by simp) ?_
    simp[o2,w2,aj0]
   ·simp[df,aj0,de,he0]
    refine za (xs:=[]) (args:=[]) mW rfl (.inl rfl) ?_
    simp[Zz]
 ·have hL0:L=[]:=by
   cases L with
   | nil=>rfl
   | cons T L=>exact absurd (akg hG hl (ag3 hok (hcomp T (by simp)))) hfit
  subst hL0
  have kb:=ahE (fx:=fx) hn hk c3 hfit
  have hL1:cmR []=[]:=rfl
  have fin:∀ bc:List AV,bc=fr q∨bc=zz→True:=fun _ _=>trivial
  simp[c3]
  refine za k1 (by simp) (by simp) ?_
  by_cases he0:e=0
  ·rw[if_pos he0]
   simp[he0]
   refine za kb (by simp) (by simp) ?_
   simp
   refine za kc (by simp) (by simp) ?_
   simp[hL1]
   refine zl (aj0 P [] (fr q) 0 [bv false,bv false,z8,z8,z8,z8]) (fun _=>True) 0 (by simp[aj0,hL1]) trivial (fun k hk2 _=>absurd hk2 (Nat.not_lt_zero k)) (fun _=>?_)
   simp[df,aj0,de,hL1]
   refine za (xs:=[]) (args:=[]) mW rfl (.inl rfl) ?_
   simp[Zz]
  ·rw[if_neg he0]
   simp
   refine za kb (by simp) (by simp) ?_
   simp
   refine za kc (by simp) (by simp) ?_
   simp[hL1]
   refine zl (aj0 P [] zz e [bv false,bv false,z8,z8,z8,z8]) (fun _=>True) 0 (by simp[aj0,hL1]) trivial (fun k hk2 _=>absurd hk2 (Nat.not_lt_zero k)) (fun _=>?_)
   simp[df,aj0,de,hL1,he0]
   refine za (xs:=[]) (args:=[]) mW rfl (.inl rfl) ?_
   simp[Zz]
end
theorem boundSound_contract (xs:List AV) (h:gR [aay,.slice (.int .i64),.slice Z1] xs):zd Try.prog ai xs (bv true):=by
 obtain ⟨x,y,z,rfl,h1,h2,h3⟩:=MQ h
 obtain ⟨P,rfl,_⟩:=acn h1
 obtain ⟨fx,hcs,hl⟩:=Ks h2
 simp only[List.cons.injEq,and_true] at hcs
 subst hcs
 obtain ⟨Y,m,hcs,hm,hY⟩:=P0 h3
 simp only[List.cons.injEq,and_true] at hcs
 subst hcs
 exact akl hm (by unfold reachBytes at hl; omega) hY
theorem akC {fx:List Int} {j:Nat} {c:Int} (hj:j<fx.length) (i:Nat):(fx.set j c).getD i 9=if i=j then c else fx.getD i 9:=by
 rw[List.getD_eq_getElem?_getD,List.getElem?_set]
 by_cases e:j=i
 ·subst e; rw[if_pos rfl,if_pos hj,if_pos rfl]; rfl
 ·rw[if_neg e,if_neg (Ne.symm e),List.getD_eq_getElem?_getD]
section
variable {P:Pb} {fx:List Int} {x:Nat→Rat} {j:Nat} {c:Int}
theorem akJ (hj:j<fx.length) (h0:fx.getD j 9=0) (hc:c=-1∨c=1) (h:P.Sol (fx.set j c) x):P.Sol fx x where
 x0:=fun i hi=>h.x0 i (by simpa using hi)
 one:=fun i hi h1=>h.one i (by simpa using hi) (by rw[akC hj,if_neg fun e=>by subst e; omega]; exact h1)
 out:=fun i hi h1 h2=>h.out i (by simpa using hi) (by rw[akC hj,if_neg fun e=>h2 (by subst e; exact h0)]; exact h1) (by rw[akC hj,if_neg fun e=>h2 (by subst e; exact h0)]; exact h2)
 row:=fun r hr=>by have:=h.row r hr; simpa using this
theorem akL (hj:j<fx.length) (h0:fx.getD j 9=0) (k:Nat):su (fx.set j (-1)) 1 k=su fx 1 k:=by
 unfold su
 refine List.filter_congr fun i _=>?_
 rw[akC hj]
 by_cases e:i=j
 ·subst e; rw[if_pos rfl,h0]; decide
 ·rw[if_neg e]
theorem akO (hj:j<fx.length) (h0:fx.getD j 9=0):P.inL (fx.set j (-1))=P.inL fx:=by
 unfold Pb.inL Pb.inK
 rw[akL hj h0,List.length_set]
theorem akH (hj:j<fx.length) (hc:c=-1∨c=1) (h:P.fixE fx=0):P.fixE (fx.set j c)=0:=by
 obtain ⟨h1,h2,h3⟩:=rP h
 refine ahQ h1 (by simpa using h2) fun i hi=>?_
 have hi':i<fx.length:=by simpa using hi
 have:=h3 i hi'
 unfold okX at this ⊢
 rw[akC hj]
 by_cases e:i=j
 ·rw[if_pos e]; omega
 ·rw[if_neg e]; exact this
def akz (x:Nat→Rat) (k:Nat):List Nat:=(List.range k).filter fun i=>decide (0<x i)
theorem akM {k:Nat}:akz x (k+1)=if 0<x k then akz x k++[k] else akz x k:=by
 unfold akz
 rw[List.range_succ,List.filter_append]
 by_cases h:0<x k
 ·rw[if_pos h,List.filter_cons_of_pos (by simpa using h)]; rfl
 ·rw[if_neg h,List.filter_cons_of_neg (by simpa using h),List.filter_nil,List.append_nil]
theorem akP {k:Nat}:(akz x k).length≤k:=by
 unfold akz
 have:=List.length_filter_le (fun i=>decide (0<x i)) (List.range k)
 rwa [List.length_range] at this
theorem akE {k i:Nat}:i∈akz x k↔i<k∧0<x i:=by simp[akz]
theorem akI {k:Nat}:(akz x k).Pairwise (·<·):=List.Pairwise.filter _ List.pairwise_lt_range
theorem akS {q:Rat} (h0:0≤q) (h1:q≤1) (hd:q.den=1):q=0∨q=1:=by
 have e:q=((q.num:Int):Rat):=by
  have:=Rat.mkRat_self q
  rw[hd] at this
  rw[← this]
  simp[Rat.mkRat_one]
 rw[e] at h0 h1
 have a:0≤q.num:=by exact_mod_cast h0
 have b:q.num≤1:=by exact_mod_cast h1
 rcases (by omega:q.num=0∨q.num=1) with h | h
 ·left; rw[e,h]; rfl
 ·right; rw[e,h]; rfl
theorem akR (hG:P.Good) (hl:fx.length=P.of.length) (h:P.Sol fx x) (hi:∀ i,i<fx.length→(x i).den=1) :
  P.fits ((akz x fx.length).map fun i:Nat=>P.at (i:Int))∧((aj3 P (akz x fx.length):Int):Rat)=P.val fx.length x:=by
 have hind:∀ i,i<fx.length→kK (akz x fx.length) i=x i:=fun i hi2=>by
  unfold kK
  rcases akS (h.x0 i hi2) (h.le_one hG hl hi2) (hi i hi2) with e | e
  ·rw[if_neg fun hm=>by have:=(akE.1 hm).2; rw[e] at this; exact absurd this (by decide),e]
  ·rw[if_pos (akE.2 ⟨hi2,by rw[e]; decide⟩),e]
 have hnd:(akz x fx.length).Nodup:=(akI (x:=x)).imp fun h=>Nat.ne_of_lt h
 have hlt:∀ j∈akz x fx.length,j<fx.length:=fun j hj=>(akE.1 hj).1
 constructor
 ·intro r hr
  have h1:=h.row r hr
  have h2:=SD (g:=fun i=>P.coef r (P.at (i:Int))) hnd hlt
  rw[zt (g:=fun i=>P.cof r i*x i) fun i hi2=>by rw[hind i hi2]; rfl] at h2
  rw[h2] at h1
  rw[List.map_map]
  exact_mod_cast h1
 ·have h2:=SD (g:=fun i=>(P.at (i:Int)).v) hnd hlt
  rw[zt (g:=fun i=>P.vQ i*x i) fun i hi2=>by rw[hind i hi2]; rfl] at h2
  unfold Pb.val aj3
  rw[List.map_map]
  exact h2.symm
theorem akT {q:Rat}:isI (RF.of q)↔q.den=1:=by
 unfold isI
 constructor
 ·rintro ⟨_,h⟩
  have:zf q.den=zf 1:=by rw[cm]; exact h
  exact cj this
 ·intro h
  exact ⟨NJ q,by show zf q.den=[1]; rw[h,cm]⟩
end
noncomputable def akF (P:Pb) (fx:List Int) (a:Nat) (to:Bool) (x:Nat→Rat) (rc:List AV) (k:Nat):St :=
 {env:=[(1,clA fx),(2,.val (.int .u8 a)),(3,bv to),(4,.ptr 4 0),(9,.ptr 9 0),(11,apc 63 1 (clR (ints (akz x k)))),(12,iv k)],sto:=[(4,.var (pbC P)),(9,.var rc)]}
section
variable {P:Pb} {fx:List Int} {a:Nat} {to:Bool}
noncomputable abbrev rlC (B:Rat) (Z x:Nat→Rat) (m n:Nat):List AV:=[bv true,f0 B,f1 B,f2 B,fL Z m,fL x n]
abbrev noC:List AV:=[bv false,bv false,z8,z8,z8,z8]
def akQ (P:Pb) (fx:List Int) (rc:List AV):Prop :=
 (rc=noC∧¬ P.fits (P.inL fx))∨(P.fits (P.inL fx)∧∃ B Z x,rc=rlC B Z x P.rows fx.length∧sz 30000000 B∧(∀ i,sz 30000000 (x i))∧P.Sol fx x∧P.val fx.length x=B∧∀ y,P.Sol fx y→P.val fx.length y≤B)
theorem akG (hn:P.cl.length≤1000) (hk:P.of.length≤9) (h:P.fixE fx=0):∃ rc,akQ P fx rc∧zd Try.prog w9 [.agg (pbC P),clA fx] (.tuple [.agg rc,iv 0]):=by
 obtain ⟨hc,hl,hok⟩:=rP h
 have hG:=t9 hc
 by_cases hfit:P.fits (P.inL fx)
 ·obtain ⟨X,Z,v,⟨ho,hX,_,hv⟩,kb⟩:=aa7 (fx:=fx) hn hk h hfit
  refine ⟨_,.inr ⟨hfit,_,Z,bX fx X,rfl,?_,fun i=>?_,adH ho,adI ho,fun y hy=>?_⟩,kb⟩
  ·exact zC (pn (Fe hG hl) hv) (by rw[QZ]; omega)
  ·unfold bX
   split
   ·exact zC T4 (Nat.zero_le _)
   ·split
    ·exact zC (hX _) (by rw[QZ]; omega)
    ·exact wl
  ·rw[← ai6 ho]; exact adv hG hl hy fun r _=>ho.y0 r
 ·exact ⟨noC,.inl ⟨rfl,hfit⟩,ahE hn (by omega) h hfit⟩
@[simp] theorem akY {l:Nat} {L:List Int}:zX l (clR L)=clR L:=by
 unfold zX clR
 rw[List.map_map]
 rfl
@[simp] theorem akV {l:Nat} {e:ze} {L:List Int}:((clR L).map fun r=>r.map (frz l e))=clR L:=by
 unfold clR
 rw[List.map_map]
 rfl
@[simp] theorem akW {L:List Int}:yV (clR L)=true:=by
 unfold yV clR
 rw[List.all_map]
 exact List.all_eq_true.2 fun _ _=>rfl
@[simp] theorem akX {L:List Int}:zQ (clR L)=clR L:=by
 unfold zQ clR
 rw[List.map_map]
 rfl
@[simp] theorem akU {L:List Int} {j:Nat} {hj:j<(clR L).length}:(clR L)[j]=[iv (L[j]'(by simpa using hj))]:=by simp[clR]
theorem akN (hn:P.cl.length≤1000) (hk:P.of.length≤9) (h:P.fixE fx=0) (ha:a<256) {rc:List AV} (hb:akQ P fx rc) (ex:List (Nat × AV)) (hex:ex=[(45,bv false)]∨ex=[(77,bv false)]) :
  awp Try.prog dc ⟨[(1,clA fx),(2,.val (.int .u8 a)),(3,bv to),(4,.ptr 4 0),(9,.ptr 9 0)]++ex,[(4,.var (pbC P)),(9,.var rc)],[],0⟩ (SX Zy (bv true)):=by
 have hub:Try.prog.underlying va=some .bool:=by kernel_rfl
 have hu8:Try.prog.underlying Ya=some (.int .u8):=by kernel_rfl
 have hui:Try.prog.underlying zb=some (.int .i64):=by kernel_rfl
 obtain ⟨hc,hl,hok⟩:=rP h
 have hG:=t9 hc
 have wa:IntKind.i64.wrap (a:Int)=a:=by rw[wrap64]<;>omega
 have hconv:∀ n,Yf Try.prog Ya zb (.val (.int .u8 n))=some (.val (.int .i64 (IntKind.i64.wrap n))):=fun n=>FG hu8 hui
 by_cases n0:fx.length=0
 ·have n0':fx=[]:=List.eq_nil_of_length_eq_zero n0
  subst n0'
  rcases hex with rfl | rfl <;>
  ·simp[dc]
   refine za (xs:=[]) (args:=[]) mW rfl (.inl rfl) ?_
   simp[Zy]
 obtain ⟨j,hj⟩:∃ j,a%fx.length=j:=⟨_,rfl⟩
 have hjn:j<fx.length:=by rw[← hj]; exact Nat.mod_lt _ (by omega)
 have hjI:(j:Int)<fx.length:=by omega
 have hrem:∀ {ox oy:Operand} {K:AV→Option ze→Prop},z9 Try.prog .rem zb ox oy [.val (.int .i64 a),.val (.int .i64 fx.length)] K=K (.val (.int .i64 j)) none:=fun {ox oy K}=>by
  rw[rO (by omega),← Int.ofNat_tmod,hj]
 have n0':¬ (fx.length:Int)=0:=by omega
 have hne:¬ fx=[]:=fun e=>n0 (by rw[e]; rfl)
 have hg:=n8 hjn
 by_cases d:fx[j]=0
 rotate_left
 ·rcases hex with rfl | rfl <;>
  ·simp[dc,hne,hconv,wa,hrem,hjI,hjn,d]
   refine za (xs:=[]) (args:=[]) mW rfl (.inl rfl) ?_
   simp[Zy]
 have hd0:fx.getD j 9=0:=by rw[hg]; exact d
 have hset:∀ c:Int,(clR fx).set j [iv c]=clR (fx.set j c):=fun c=>by simp[clR,List.map_set]
 have hb1:fx.length*8≤140737488355328:=by have:=hG.k; omega
 have hb2:fx.length≤9223372036854775807:=by have:=hG.k; omega
 have hset1:∀ c c':Int,(clR (fx.set j c)).set j [iv c']=clR (fx.set j c'):=fun c c'=>by simp[clR,List.map_set]
 have htk:∀ c:Int,(clR (fx.set j c)).take fx.length=clR (fx.set j c):=fun c=>List.take_of_length_le (by simp)
 have hjs:∀ c:Int,j<(fx.set j c).length:=fun c=>by simpa using hjn
 have hl1:∀ c:Int,(clR (fx.set j c)).length=fx.length:=fun c=>by simp
 cases to with
 | true =>
  obtain ⟨rc',hb',kb⟩:=akG (fx:=fx.set j 1) hn hk (akH hjn (by simp) h)
  have hsl:∀ y,P.Sol (fx.set j 1) y→P.Sol fx y:=fun y hy=>akJ hjn hd0 (by simp) hy
  rcases hb' with ⟨rfl,hf'⟩ | ⟨hf',B',Z',x',rfl,sB',_,sx',vx',mx'⟩
  ·rcases hb with ⟨rfl,hf⟩ | ⟨hf,B,Z,x,rfl,sB,_,sx,vx,mx⟩
   ·rcases hex with rfl | rfl
    ·simp[dc,hne,hconv,wa,hrem,hjI,hjn,d,hb1,hb2,hset,hset1,htk,xa,sj,splice]
     refine za kb (by simp) (by simp) ?_
     simp
     refine za (xs:=[]) (args:=[]) mW rfl (.inl rfl) ?_
     simp[Zy]
    ·simp[dc,hne,hconv,wa,hrem,hjI,hjn,d,hb1,hb2,hset,hset1,htk,xa,sj,splice]
     refine za kb (by simp) (by simp) ?_
     simp
     refine za (xs:=[]) (args:=[]) mW rfl (.inl rfl) ?_
     simp[Zy]
   ·rcases hex with rfl | rfl
    ·simp[dc,hne,hconv,wa,hrem,hjI,hjn,d,hb1,hb2,hset,hset1,htk,xa,sj,splice]
     refine za kb (by simp) (by simp) ?_
     simp
     refine za (xs:=[]) (args:=[]) mW rfl (.inl rfl) ?_
     simp[Zy]
    ·simp[dc,hne,hconv,wa,hrem,hjI,hjn,d,hb1,hb2,hset,hset1,htk,xa,sj,splice]
     refine za kb (by simp) (by simp) ?_
     simp
     refine za (xs:=[]) (args:=[]) mW rfl (.inl rfl) ?_
     simp[Zy]
  ·rcases hb with ⟨rfl,hf⟩ | ⟨hf,B,Z,x,rfl,sB,_,sx,vx,mx⟩
   ·exact absurd (akg hG hl (hsl _ sx')) hf
   ·have hle:xV B' B≤0:=by
     have h1:=mx _ (hsl _ sx')
     have h2:P.val fx.length x'=B':=by rw[← vx',List.length_set]
     rw[h2] at h1
     have:¬ 0<xV B' B:=fun h=>by have:=abi.1 h; grind
     omega
    rcases hex with rfl | rfl
    ·simp[dc,hne,hconv,wa,hrem,hjI,hjn,d,hb1,hb2,hset,hset1,htk,xa,sj,splice]
     refine za kb (by simp) (by simp) ?_
     simp
     refine za (aaC (K:=30000000) (by decide) sB' sB) (by simp) (by simp) ?_
     simp[hle]
     refine za (xs:=[]) (args:=[]) mW rfl (.inl rfl) ?_
     simp[Zy]
    ·simp[dc,hne,hconv,wa,hrem,hjI,hjn,d,hb1,hb2,hset,hset1,htk,xa,sj,splice]
     refine za kb (by simp) (by simp) ?_
     simp
     refine za (aaC (K:=30000000) (by decide) sB' sB) (by simp) (by simp) ?_
     simp[hle]
     refine za (xs:=[]) (args:=[]) mW rfl (.inl rfl) ?_
     simp[Zy]
 | false =>
  obtain ⟨rc',hb',kb⟩:=akG (fx:=fx.set j (-1)) hn hk (akH hjn (by simp) h)
  have hsl:∀ y,P.Sol (fx.set j (-1)) y→P.Sol fx y:=fun y hy=>akJ hjn hd0 (by simp) hy
  rcases hb' with ⟨rfl,hf'⟩ | ⟨hf',B',Z',x',rfl,sB',_,sx',vx',mx'⟩
  ·rcases hb with ⟨rfl,hf⟩ | ⟨hf,B,Z,x,rfl,sB,_,sx,vx,mx⟩
   ·rcases hex with rfl | rfl
    ·simp[dc,hne,hconv,wa,hrem,hjI,hjn,d,hb1,hb2,hset,htk,xa,sj,splice]
     refine za kb (by simp) (by simp) ?_
     simp
     refine za (xs:=[]) (args:=[]) mW rfl (.inl rfl) ?_
     simp[Zy]
    ·simp[dc,hne,hconv,wa,hrem,hjI,hjn,d,hb1,hb2,hset,htk,xa,sj,splice]
     refine za kb (by simp) (by simp) ?_
     simp
     refine za (xs:=[]) (args:=[]) mW rfl (.inl rfl) ?_
     simp[Zy]
   ·exact absurd (by rw[akO hjn hd0]; exact hf) hf'
  ·rcases hb with ⟨rfl,hf⟩ | ⟨hf,B,Z,x,rfl,sB,_,sx,vx,mx⟩
   ·exact absurd (akg hG hl (hsl _ sx')) hf
   ·have hle:xV B' B≤0:=by
     have h1:=mx _ (hsl _ sx')
     have h2:P.val fx.length x'=B':=by rw[← vx',List.length_set]
     rw[h2] at h1
     have:¬ 0<xV B' B:=fun h=>by have:=abi.1 h; grind
     omega
    rcases hex with rfl | rfl
    ·simp[dc,hne,hconv,wa,hrem,hjI,hjn,d,hb1,hb2,hset,htk,xa,sj,splice]
     refine za kb (by simp) (by simp) ?_
     simp
     refine za (aaC (K:=30000000) (by decide) sB' sB) (by simp) (by simp) ?_
     simp[hle]
     refine za (xs:=[]) (args:=[]) mW rfl (.inl rfl) ?_
     simp[Zy]
    ·simp[dc,hne,hconv,wa,hrem,hjI,hjn,d,hb1,hb2,hset,htk,xa,sj,splice]
     refine za kb (by simp) (by simp) ?_
     simp
     refine za (aaC (K:=30000000) (by decide) sB' sB) (by simp) (by simp) ?_
     simp[hle]
     refine za (xs:=[]) (args:=[]) mW rfl (.inl rfl) ?_
     simp[Zy]
theorem akK (ha:a<256) (hfx:fx.length<4611686018427387904):zd Try.prog ah [.agg (pbC P),clA fx,.val (.int .u8 a),bv to] (bv true):=by
 have kl:=XJ (Kx (P:=P) (n:=8) (Y:=fun _=>⟨false,[],[]⟩) (m:=0) (by decide)) (aaL (c:=z8) AV.imp.refl AV.imp.refl (AV.imp_nil rfl))
 refine zD Cd (by simp) ?_
 simp[aD]
 refine za kl (by simp) (by simp) ?_
 by_cases c1:No P.of.length P.cl.length 8 (fun _=>(⟨false,[],[]⟩:RF)) 0
 rotate_left
 ·rw[ss c1]
  simp
  refine za (xs:=[]) (args:=[]) mW rfl (.inl rfl) ?_
  simp[Zy]
 rw[Zj c1]
 by_cases c2:fx.length≤20
 rotate_left
 ·have c2':(20:Int)<fx.length:=by omega
  simp[c2']
  refine za (xs:=[]) (args:=[]) mW rfl (.inl rfl) ?_
  simp[Zy]
 have c2':¬ (20:Int)<fx.length:=by omega
 obtain ⟨g1,g2,_,_⟩:=c1
 have hn:P.cl.length≤1000:=by omega
 have hk:P.of.length≤9:=by omega
 have hk':P.of.length≤1000000:=by omega
 simp[c2']
 refine za (ahv (fx:=fx) hn hk') (by simp) (by simp) ?_
 by_cases c3:P.fixE fx=0
 rotate_left
 ·simp[c3]
  refine za (xs:=[]) (args:=[]) mW rfl (.inl rfl) ?_
  simp[Zy]
 obtain ⟨hc,hl,hok⟩:=rP c3
 have hG:=t9 hc
 obtain ⟨rc,hb,kb⟩:=akG hn hk c3
 have k2:=fun ex hex=>akN (to:=to) (a:=a) hn hk c3 ha hb ex hex
 have t1:=k2 [(45,bv false)] (.inl rfl)
 have t2:=k2 [(77,bv false)] (.inr rfl)
 clear k2
 simp[c3]
 refine za kb (by simp) (by simp) ?_
 rcases hb with ⟨rfl,hf⟩ | ⟨hf,B,Z,x,rfl,sB,zx,sx,vx,mx⟩
 ·simp
  simpa using t1
 obtain ⟨Y,hYe⟩:∃ Y:Nat→RF,(fun i=>RF.of (x i))=Y:=⟨_,rfl⟩
 have hYL:hL Y fx.length=fL x fx.length:=by rw[← hYe]; unfold Ytfmcplfbnkoglaa.hL fL; rw[Ta fun _ _=>rfl]
 have ki:=JT (Y:=Y) (m:=fx.length) (by omega) (fun r _=>by rw[← hYe]; exact dq (by decide:30000000≤137438953472) (zx r))
 rw[hYL] at ki
 simp
 refine za ki (by simp) (by simp) ?_
 by_cases hI:Xr Y fx.length
 rotate_left
 ·rw[decide_eq_false hI]
  simp
  simpa using t1
 rw[decide_eq_true hI]
 have hden:∀ i,i<fx.length→(x i).den=1:=fun i hi=>by
  have:=hI i hi
  rw[← hYe] at this
  exact akT.1 this
 obtain ⟨hT1,hT2⟩:=akR hG hl sx hden
 simp
 refine zl (akF P fx a to x (rlC B Z x P.rows fx.length)) (fun _=>True) fx.length (by simp[akF,akz]) trivial (fun k hk2 _=>?_) (fun _=>?_)
 ·have e:(k:Int)<fx.length:=by omega
  have w:=zq (k:=k) (by omega)
  have hs:=akM (x:=x) (k:=k)
  have hsl:=akP (x:=x) (k:=k)
  by_cases d:0<x k
  ·have hsg:=uV.2 d
   rw[if_pos d] at hs
   simp[dd,akF,e,hk2]
   refine za (Md (q:=x k)) (by simp) (by simp) ?_
   simp[hsg]
   refine sP (by decide) rfl ?_ ?_ (by simp) ?_
   ·simp only[jr,Ni]; omega
   ·simp only[jr,Ni]; omega
   ·have hro:clR (ints (akz x k))++[[iv k]]=clR (ints (akz x (k+1))):=by rw[hs,BD]; rfl
    rw[hro]
    simp[w,akF]
  ·have hsg:¬ 0<yA (x k):=fun h=>d (uV.1 h)
   rw[if_neg d] at hs
   simp[dd,akF,e,hk2]
   refine za (Md (q:=x k)) (by simp) (by simp) ?_
   simp[hsg,w,akF,hs]
 ·obtain ⟨T,hTe⟩:∃ T,akz x fx.length=T:=⟨_,rfl⟩
  have hinc:=akI (x:=x) (k:=fx.length)
  have hlt:∀ j∈akz x fx.length,j<fx.length:=fun j hj=>(akE.1 hj).1
  rw[hTe] at hT1 hT2 hinc hlt
  have hokT:okP P.of.length (ints T):=ahr hinc fun j hj=>by have:=hlt j hj; omega
  have hTl:=KL hokT
  rw[Ni] at hTl
  have kf:=afe (ch:=ints T) hn hk' hc hokT
  have kv:=ako (ch:=ints T) hn hk' hc hokT
  rw[akd] at kf kv
  rw[if_pos hT1] at kf
  have kf:=Tc kf (nK rU)
  have kv:=Tc kv (nK rU)
  have hbv:=Qs (a:=0) (b:=1000000) (f:=fun o:Of=>o.v) (l:=T.map fun i:Nat=>P.at (i:Int)) fun o ho=>by
   obtain ⟨j,hj,rfl⟩:=List.mem_map.1 ho
   have:=(xY (xv (hG.off _ (at_mem (i:=j) (by have:=hlt j hj; omega)))).1).2.1
   omega
  rw[List.length_map] at hbv
  have hbv2:0≤aj3 P T∧aj3 P T≤9000000:=by unfold aj3; omega
  have hvB:((aj3 P T:Int):Rat)=B:=by rw[hT2,vx]
  have kw:=YO (n:=aj3 P T) (by omega) (by omega)
  have ks:=N8 (q:=B) (by decide:30000000≤137438953472) sB
  rw[decide_eq_true rfl] at ks
  rw[hvB] at kw
  change zd Try.prog kB [.agg (pbC P),plc 1 (clR (ints T))] (iv (aj3 P T)) at kv
  simp[dd,akF,db,hTe]
  refine za kf (by simp) (by simp) ?_
  simp
  refine za kv (by simp) (by simp) ?_
  simp
  refine za kw (by simp) (by simp) ?_
  simp
  refine za ks (by simp) (by simp) ?_
  simp
  simpa using t2
end
theorem boundFixes_contract (xs:List AV) (h:gR [aay,.slice (.int .i64),.int .u8,.bool] xs):zd Try.prog ah xs (bv true):=by
 obtain ⟨x,y,z,u,rfl,h1,h2,h3,h4⟩:=afg h
 obtain ⟨P,rfl,_⟩:=acn h1
 obtain ⟨fx,hcs,hl⟩:=Ks h2
 simp only[List.cons.injEq,and_true] at hcs
 subst hcs
 obtain ⟨n,rfl,hw⟩:=aiM h3
 have h1:IntKind.u8.min≤n∧n≤IntKind.u8.max:=by simpa [Lit.wf] using hw
 have e1:IntKind.u8.min=0:=by decide
 have e2:IntKind.u8.max=255:=by decide
 obtain ⟨b,hcs⟩:=h4
 simp only[List.cons.injEq,and_true] at hcs
 subst hcs
 have:=akK (P:=P) (fx:=fx) (a:=n.toNat) (to:=b) (by omega) (by unfold reachBytes at hl; omega)
 rwa [show ((n.toNat:Nat):Int)=n by omega] at this
end Go.Proofs.Ytfmcplfbnkoglaa
