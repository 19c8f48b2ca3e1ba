/- What the proof rests on, part 9: F6 F7 F8 F9 F10 F12 LP LP2 LP3 LP4 F13 F14 IM F15 X0 MR RFx YS GA CM X0d X1 X2 X3 X4 X5 X6 X7 X8 X8b. -/
import Derived.Test.YtbgnkodhpbkdoaaP8
set_option maxRecDepth 100000
set_option maxHeartbeats 4000000
namespace Go.Proofs.Ytbgnkodhpbkdoaa
open Go Go.Am Go.Dig
theorem JS {s:Bool} {N D:Nat} (hN:(zf N).length<68719476736) (hD:(zf D).length<68719476736) (h0:D≠0):zc Try.prog qy [frA s N D] (xr (!s) N D):=by
 have k:=rx (neg:=!s) hN hD h0
 unfold xr at *
 generalize N/Nat.gcd N D=p at *
 generalize D/Nat.gcd N D=q at *
 refine zG A7 (by simp) ?_
 simp[Nb]
 refine za k (by simp) (by simp) ?_
 simp[N3]
theorem va {x y n m:Nat} (hx:(zf x).length≤n) (hy:(zf y).length≤m):(zf (x*y)).length≤n+m:=zJ.2 (by
 rw[Nat.pow_add]; exact Nat.mul_lt_mul_of_lt_of_lt (zJ.1 hx) (zJ.1 hy))
theorem Lc {s t:Bool} {N D M E:Nat} (hN:(zf N).length<17179869184) (hD:(zf D).length<17179869184) (hM:(zf M).length<17179869184) (hE:(zf E).length<17179869184) (h0:D≠0) (h1:E≠0) :
  zc Try.prog w8 [frA s N D,frA t M E] (xr (!(s == t)) (N*M) (D*E)):=by
 have l1:=va (Nat.le_refl (zf N).length) (Nat.le_refl (zf M).length)
 have l2:=va (Nat.le_refl (zf D).length) (Nat.le_refl (zf E).length)
 have h2:D*E≠0:=Nat.mul_ne_zero h0 h1
 have k1:=sN (m1:=.plain) (m2:=.plain) (zq N) (zq M) (by omega) (by omega) (by omega) rfl rfl
 have k2:=sN (m1:=.plain) (m2:=.plain) (zq D) (zq E) (by omega) (by omega) (by omega) rfl rfl
 simp only[zL] at k1 k2
 have k:=rx (neg:=!(s == t)) (N:=N*M) (D:=D*E) (by omega) (by omega) h2
 unfold xr at *
 generalize N*M/Nat.gcd (N*M) (D*E)=p at *
 generalize D*E/Nat.gcd (N*M) (D*E)=q at *
 refine zG A6 (by simp) ?_
 simp[Na,xD vB]
 refine za k1 (by simp) (by simp) ?_
 simp
 refine za k2 (by simp) (by simp) ?_
 simp
 refine za k (by simp) (by simp) ?_
 simp[N2]
theorem aE {s t:Bool} {N D M E:Nat} (hN:(zf N).length<17179869184) (hD:(zf D).length<17179869184) (hM:(zf M).length<17179869184) (hE:(zf E).length<17179869184) :
  zc Try.prog k9 [frA s N D,frA t M E] (.tuple [nD (N*E),nD (M*D)]):=by
 have k1:=sN (m1:=.plain) (m2:=.plain) (zq N) (zq E) (by omega) (by omega) (by omega) rfl rfl
 have k2:=sN (m1:=.plain) (m2:=.plain) (zq M) (zq D) (by omega) (by omega) (by omega) rfl rfl
 simp only[zL] at k1 k2
 refine zG Fe (by simp) ?_
 simp[UZ]
 refine za k1 (by simp) (by simp) ?_
 simp
 refine za k2 (by simp) (by simp) ?_
 simp[Tz]
def XO (s:Bool) (N D:Nat) (t:Bool) (M E:Nat):AV :=
 if s=t then xr s (N*E+M*D) (D*E) else if N*E<M*D then xr t (M*D-N*E) (D*E) else xr s (N*E-M*D) (D*E)
theorem P4 {x y n:Nat} (hx:(zf x).length≤n) (hy:(zf y).length≤n):(zf (x+y)).length≤n+1:=zJ.2 (by
 have h1:=zJ.1 hx
 have h2:=zJ.1 hy
 rw[Nat.pow_succ]
 have:B^n*2≤B^n*B:=Nat.mul_le_mul_left _ (by decide)
 omega)
theorem b8 {x y n:Nat} (hx:(zf x).length≤n):(zf (x-y)).length≤n:=zJ.2 (Nat.lt_of_le_of_lt (Nat.sub_le _ _) (zJ.1 hx))
theorem qo (s:Bool) (N D:Nat):∃ b p q,xr s N D=.agg [bv b,nD p,nD q]:=⟨_,_,_,rfl⟩
theorem Ms {s t:Bool} {N D M E:Nat} (hN:(zf N).length<17179869184) (hD:(zf D).length<17179869184) (hM:(zf M).length<17179869184) (hE:(zf E).length<17179869184) (h0:D≠0) (h1:E≠0) :
  zc Try.prog uq [frA s N D,frA t M E] (XO s N D t M E):=by
 have l1:=va (Nat.le_refl (zf N).length) (Nat.le_refl (zf E).length)
 have l2:=va (Nat.le_refl (zf M).length) (Nat.le_refl (zf D).length)
 have l3:=va (Nat.le_refl (zf D).length) (Nat.le_refl (zf E).length)
 have h2:D*E≠0:=Nat.mul_ne_zero h0 h1
 have kx:=aE (s:=s) (t:=t) hN hD hM hE
 have kd:=sN (m1:=.plain) (m2:=.plain) (zq D) (zq E) (by omega) (by omega) (by omega) rfl rfl
 simp only[zL] at kd
 have l4:=P4 (n:=34359738368) (show (zf (N*E)).length≤34359738368 by omega) (show (zf (M*D)).length≤34359738368 by omega)
 have l5:=b8 (y:=M*D) l1
 have l6:=b8 (y:=N*E) l2
 have ka:=jf (m1:=.plain) (m2:=.plain) (zq (N*E)) (zq (M*D)) (by omega) (by omega)
 have ks:=TL (m1:=.plain) (m2:=.plain) (zq (N*E)) (zq (M*D)) (by omega) (by omega)
 have ks2:=TL (m1:=.plain) (m2:=.plain) (zq (M*D)) (zq (N*E)) (by omega) (by omega)
 simp only[zL] at ka ks ks2
 have m1:=rx (neg:=s) (N:=N*E+M*D) (D:=D*E) (by omega) (by omega) h2
 have m2:=rx (neg:=s) (N:=N*E-M*D) (D:=D*E) (by omega) (by omega) h2
 have m3:=rx (neg:=t) (N:=M*D-N*E) (D:=D*E) (by omega) (by omega) h2
 unfold XO
 refine zG A3 (by simp) ?_
 generalize N*E=x at *
 generalize M*D=y at *
 generalize D*E=d at *
 by_cases hst:s=t
 ·have e:(s == t)=true:=by simp[hst]
  obtain ⟨b,p,q,hf⟩:=qo s (x+y) d
  rw[if_pos hst,hf]
  rw[hf] at m1
  simp[XT]
  refine za kx (by simp) (by simp) ?_
  simp
  refine za kd (by simp) (by simp) ?_
  simp[r7 vB,e]
  refine za ka (by simp) (by simp) ?_
  simp
  refine za m1 (by simp) (by simp) ?_
  simp[bM]
 ·have e:(s == t)=false:=by simp[hst]
  rw[if_neg hst]
  simp[XT]
  refine za kx (by simp) (by simp) ?_
  simp
  refine za kd (by simp) (by simp) ?_
  simp[r7 vB,e]
  refine za ks (by simp) (by simp) ?_
  by_cases hlt:x<y
  ·obtain ⟨b,p,q,hf⟩:=qo t (y-x) d
   rw[if_pos hlt,hf]
   rw[hf] at m3
   have hge:¬ y<x:=by omega
   rw[if_neg hge] at ks2
   simp[hlt]
   refine za ks2 (by simp) (by simp) ?_
   simp
   refine za m3 (by simp) (by simp) ?_
   simp[bM]
  ·obtain ⟨b,p,q,hf⟩:=qo s (x-y) d
   rw[if_neg hlt,hf]
   rw[hf] at m2
   simp[hlt]
   refine za m2 (by simp) (by simp) ?_
   simp[bM]
theorem B1 {s:Bool} {N D:Nat} (hN:(zf N).length<68719476736) (_hD:(zf D).length<68719476736):zc Try.prog c6 [frA s N D] (frA (!s&&decide (N≠0)) N D):=by
 refine zG aah (by simp) ?_
 cases s
 ·by_cases h0:N=0
  ·subst h0
   simp[bm,bP,yt]
  ·have:0<(zf N).length:=by
    rcases Nat.eq_zero_or_pos (zf N).length with h | h
    ·rw[List.length_eq_zero_iff,yH] at h; exact absurd h h0
    ·exact h
   simp[bm,bP,this,h0]
 ·simp[bm,bP]
theorem ER {s t:Bool} {N D M E:Nat} (hN:(zf N).length<17179869184) (hD:(zf D).length<17179869184) (hM:(zf M).length<17179869184) (hE:(zf E).length<17179869184) (h0:D≠0) (h1:E≠0) :
  zc Try.prog ll [frA s N D,frA t M E] (xr (!(s == t)) (N*M) (D*E)):=by
 have l1:=va (Nat.le_refl (zf N).length) (Nat.le_refl (zf M).length)
 have l2:=va (Nat.le_refl (zf D).length) (Nat.le_refl (zf E).length)
 have h2:D*E≠0:=Nat.mul_ne_zero h0 h1
 have k1:=gC (m1:=.plain) (m2:=.plain) (zq N) (zq M) (by omega) rfl rfl
 have k2:=gC (m1:=.plain) (m2:=.plain) (zq D) (zq E) (by omega) rfl rfl
 simp only[zL] at k1 k2
 have k:=kK (neg:=!(s == t)) (N:=N*M) (D:=D*E) (by omega) (by omega) h2
 obtain ⟨b,p,q,hf⟩:=qo (!(s == t)) (N*M) (D*E)
 rw[hf] at k ⊢
 refine zG aag (by simp) ?_
 simp[Nj,xD vB]
 refine za k1 (by simp) (by simp) ?_
 simp
 refine za k2 (by simp) (by simp) ?_
 simp
 refine za k (by simp) (by simp) ?_
 simp[N8]
theorem FB {s t:Bool} {N D M E:Nat} (hN:(zf N).length<17179869184) (hD:(zf D).length<17179869184) (hM:(zf M).length<17179869184) (hE:(zf E).length<17179869184) (h0:D≠0) (h1:E≠0) :
  zc Try.prog s9 [frA s N D,frA t M E] (XO s N D t M E):=by
 have l1:=va (Nat.le_refl (zf N).length) (Nat.le_refl (zf E).length)
 have l2:=va (Nat.le_refl (zf M).length) (Nat.le_refl (zf D).length)
 have l3:=va (Nat.le_refl (zf D).length) (Nat.le_refl (zf E).length)
 have h2:D*E≠0:=Nat.mul_ne_zero h0 h1
 have kx:=gC (m1:=.plain) (m2:=.plain) (zq N) (zq E) (by omega) rfl rfl
 have ky:=gC (m1:=.plain) (m2:=.plain) (zq M) (zq D) (by omega) rfl rfl
 have kd:=gC (m1:=.plain) (m2:=.plain) (zq D) (zq E) (by omega) rfl rfl
 simp only[zL] at kd kx ky
 have l4:=P4 (n:=34359738368) (show (zf (N*E)).length≤34359738368 by omega) (show (zf (M*D)).length≤34359738368 by omega)
 have l5:=b8 (y:=M*D) l1
 have l6:=b8 (y:=N*E) l2
 have ka:=lq (m1:=.plain) (m2:=.plain) (zq (N*E)) (zq (M*D)) (by omega) (by omega) rfl rfl
 have ks:=UP (m1:=.plain) (m2:=.plain) (zq (N*E)) (zq (M*D)) (by omega) (by omega) rfl rfl
 have ks2:=UP (m1:=.plain) (m2:=.plain) (zq (M*D)) (zq (N*E)) (by omega) (by omega) rfl rfl
 simp only[zL] at ka ks ks2
 have m1:=kK (neg:=s) (N:=N*E+M*D) (D:=D*E) (by omega) (by omega) h2
 have m2:=kK (neg:=s) (N:=N*E-M*D) (D:=D*E) (by omega) (by omega) h2
 have m3:=kK (neg:=t) (N:=M*D-N*E) (D:=D*E) (by omega) (by omega) h2
 unfold XO
 refine zG aae (by simp) ?_
 generalize N*E=x at *
 generalize M*D=y at *
 generalize D*E=d at *
 by_cases hst:s=t
 ·have e:(s == t)=true:=by simp[hst]
  obtain ⟨b,p,q,hf⟩:=qo s (x+y) d
  rw[if_pos hst,hf]
  rw[hf] at m1
  simp[XW]
  refine za kx (by simp) (by simp) ?_
  simp
  refine za ky (by simp) (by simp) ?_
  simp
  refine za kd (by simp) (by simp) ?_
  simp[r7 vB,e]
  refine za ka (by simp) (by simp) ?_
  simp
  refine za m1 (by simp) (by simp) ?_
  simp[bO]
 ·have e:(s == t)=false:=by simp[hst]
  rw[if_neg hst]
  simp[XW]
  refine za kx (by simp) (by simp) ?_
  simp
  refine za ky (by simp) (by simp) ?_
  simp
  refine za kd (by simp) (by simp) ?_
  simp[r7 vB,e]
  refine za ks (by simp) (by simp) ?_
  by_cases hlt:x<y
  ·obtain ⟨b,p,q,hf⟩:=qo t (y-x) d
   rw[if_pos hlt,hf]
   rw[hf] at m3
   have hge:¬ y≤x:=by omega
   simp[hge]
   refine za ks2 (by simp) (by simp) ?_
   simp
   refine za m3 (by simp) (by simp) ?_
   simp[bO]
  ·obtain ⟨b,p,q,hf⟩:=qo s (x-y) d
   rw[if_neg hlt,hf]
   rw[hf] at m2
   have hle:y≤x:=by omega
   simp[hle]
   refine za m2 (by simp) (by simp) ?_
   simp[bO]
theorem NV (p q:Rat):xr (!(decide (p.num<0) == decide (q.num<0))) (p.num.natAbs*q.num.natAbs) (p.den*q.den)=yw (p*q):=by
 have h:p.den*q.den≠0:=Nat.mul_ne_zero p.den_nz q.den_nz
 rw[sD h,Rat.mul_def']
 congr 2
 have e1:=mD p.num
 have e2:=mD q.num
 generalize p.num.natAbs=x at *
 generalize q.num.natAbs=y at *
 generalize decide (p.num<0)=s at *
 generalize decide (q.num<0)=t at *
 rw[← e1,← e2]
 cases s<;>cases t<;>simp[sg,Int.neg_mul,Int.mul_neg]
theorem P5 (p q:Rat):XO (decide (p.num<0)) p.num.natAbs p.den (decide (q.num<0)) q.num.natAbs q.den=yw (p+q):=by
 have h:p.den*q.den≠0:=Nat.mul_ne_zero p.den_nz q.den_nz
 have e1:=mD p.num
 have e2:=mD q.num
 unfold XO
 rw[sD h,sD h,sD h,Rat.add_def']
 generalize p.num.natAbs=x at *
 generalize q.num.natAbs=y at *
 generalize decide (p.num<0)=s at *
 generalize decide (q.num<0)=t at *
 rw[← e1,← e2]
 have a1:((x*q.den:Nat):Int)=(x:Int)*q.den:=Int.natCast_mul _ _
 have a2:((y*p.den:Nat):Int)=(y:Int)*p.den:=Int.natCast_mul _ _
 generalize hX:x*q.den=X at *
 generalize hY:y*p.den=Y at *
 cases s<;>cases t
 ·simp only[if_true]; congr 2; simp[sg]; omega
 ·simp only[Bool.false_eq_true,if_false]
  split<;>(congr 2; simp only[sg,if_true,Bool.false_eq_true,if_false,Int.neg_mul]; omega)
 ·simp only[Bool.true_eq_false,if_false]
  split<;>(congr 2; simp only[sg,if_true,Bool.false_eq_true,if_false,Int.neg_mul]; omega)
 ·simp only[if_true]; congr 2; simp only[sg,if_true,Int.neg_mul]; omega
end Go.Proofs.Ytbgnkodhpbkdoaa

namespace Go.LP
def zg:Nat→(Nat→Rat)→Rat
 | 0,_=>0
 | n+1,f=>zg n f+f n
theorem zu {n:Nat} {f g:Nat→Rat} (h:∀ i,i<n→f i=g i):zg n f=zg n g:=by
 induction n with
 | zero=>rfl
 | succ n ih=>simp only[zg]; rw[ih fun i hi=>h i (by omega),h n (by omega)]
theorem zV {n:Nat} {f:Nat→Rat} (h:∀ i,i<n→f i=0):zg n f=0:=by
 induction n with
 | zero=>rfl
 | succ n ih=>simp only[zg]; rw[ih fun i hi=>h i (by omega),h n (by omega)]; grind
theorem Z0 {n:Nat} {f g:Nat→Rat}:zg n (fun i=>f i+g i)=zg n f+zg n g:=by
 induction n with
 | zero=>simp only[zg]; grind
 | succ n ih=>simp only[zg]; rw[ih]; grind
theorem eJ {n:Nat} {f:Nat→Rat} {k:Rat}:zg n (fun i=>k*f i)=k*zg n f:=by
 induction n with
 | zero=>simp only[zg]; grind
 | succ n ih=>simp only[zg]; rw[ih]; grind
theorem cN {n:Nat} {f:Nat→Rat} {k:Rat}:zg n (fun i=>f i*k)=zg n f*k:=by
 induction n with
 | zero=>simp only[zg]; grind
 | succ n ih=>simp only[zg]; rw[ih]; grind
theorem sV {n:Nat} {f g:Nat→Rat}:zg n (fun i=>f i-g i)=zg n f-zg n g:=by
 induction n with
 | zero=>simp only[zg]; grind
 | succ n ih=>simp only[zg]; rw[ih]; grind
theorem nO {n:Nat} {f:Nat→Rat}:zg n (fun i=>- f i)=- zg n f:=by
 induction n with
 | zero=>simp only[zg]; grind
 | succ n ih=>simp only[zg]; rw[ih]; grind
theorem TM {n m:Nat} {f:Nat→Nat→Rat}:zg n (fun i=>zg m (f i))=zg m (fun j=>zg n fun i=>f i j):=by
 induction n with
 | zero=>simp only[zg]; exact (zV fun _ _=>rfl).symm
 | succ n ih=>simp only[zg]; rw[ih,← Z0]
theorem vv {n:Nat} {f:Nat→Rat} (h:∀ i,i<n→0≤f i):0≤zg n f:=by
 induction n with
 | zero=>simp only[zg]; grind
 | succ n ih=>simp only[zg]; have:=ih fun i hi=>h i (by omega); have:=h n (by omega); grind
theorem lG {n:Nat} {f g:Nat→Rat} (h:∀ i,i<n→f i≤g i):zg n f≤zg n g:=by
 induction n with
 | zero=>simp only[zg]; grind
 | succ n ih=>simp only[zg]; have:=ih fun i hi=>h i (by omega); have:=h n (by omega); grind
theorem yO {n q:Nat} {f:Nat→Rat} (hq:q<n):zg n f=f q+zg n (fun j=>if j=q then 0 else f j):=by
 induction n with
 | zero=>omega
 | succ n ih =>
  simp only[zg]
  by_cases h:q=n
  ·subst h
   rw[if_pos rfl,zu (f:=fun j=>if j=q then 0 else f j) (g:=f) fun i hi=>if_neg (by omega)]
   grind
  ·rw[ih (by omega),if_neg (fun e=>h e.symm)]
   grind
theorem xP {n q:Nat} {f:Nat→Rat} (hq:q<n) (h:∀ i,i<n→i≠q→f i=0):zg n f=f q:=by
 rw[yO hq,zV (f:=fun j=>if j=q then 0 else f j) fun i hi=>by
  by_cases e:i=q
  ·exact if_pos e
  ·rw[if_neg e]; exact h i hi e]
 grind
theorem Xz {n:Nat} {f:Nat→Rat} (h:zg n f<0):∃ i,i<n∧f i<0:=by
 induction n with
 | zero=>simp only[zg] at h; grind
 | succ n ih =>
  simp only[zg] at h
  by_cases h1:zg n f<0
  ·obtain ⟨i,hi,hf⟩:=ih h1; exact ⟨i,by omega,hf⟩
  ·exact ⟨n,by omega,by grind⟩
structure zn where
 r:Nat
 c:Nat
 a:Nat→Nat→Rat
 b:Nat→Rat
 cst:Nat→Rat
 v:Rat
 bas:Nat→Nat
 fre:Nat→Nat
def sol (d:zn) (x:Nat→Rat):Prop:=∀ i,i<d.r→x (d.bas i)=d.b i-zg d.c fun j=>d.a i j*x (d.fre j)
def obj (d:zn) (x:Nat→Rat):Rat:=d.v+zg d.c fun j=>d.cst j*x (d.fre j)
def Bij (d:zn) (N:Nat):Prop:=∀ g:Nat→Rat,zg N g=zg d.c (fun j=>g (d.fre j))+zg d.r (fun i=>g (d.bas i))
def upd {α:Type} (f:Nat→α) (p:Nat) (x:α):Nat→α:=fun i=>if i=p then x else f i
def pivot (d:zn) (p q:Nat):zn where
 r:=d.r
 c:=d.c
 a:=fun i j=>if i=p then (if j=q then 1/d.a p q else d.a p j*(1/d.a p q)) else (if j=q then -(d.a i q*(1/d.a p q)) else d.a i j-d.a i q*(d.a p j*(1/d.a p q)))
 b:=fun i=>if i=p then d.b p*(1/d.a p q) else d.b i-d.a i q*(d.b p*(1/d.a p q))
 cst:=fun j=>if j=q then -(d.cst q*(1/d.a p q)) else d.cst j-d.cst q*(d.a p j*(1/d.a p q))
 v:=d.v+d.cst q*(d.b p*(1/d.a p q))
 bas:=upd d.bas p (d.fre q)
 fre:=upd d.fre q (d.bas p)
theorem aP {d:zn} {p q:Nat} (h:d.a p q≠0):pivot (pivot d p q) p q=d:=by
 cases d with
 | mk r c a b cst v bas fre =>
  simp only at h
  simp only[pivot,zn.mk.injEq,upd,if_true,true_and]
  refine ⟨?_,?_,?_,?_,?_,?_⟩
  ·funext i j
   by_cases hi:i=p<;>by_cases hj:j=q<;>simp only[hi,hj,if_true,if_false]<;>grind
  ·funext i
   by_cases hi:i=p<;>simp only[hi,if_true,if_false]<;>grind
  ·funext j
   by_cases hj:j=q<;>simp only[hj,if_true,if_false]<;>grind
  ·grind
  ·funext i; by_cases hi:i=p<;>simp[upd,hi]
  ·funext i; by_cases hi:i=q<;>simp[upd,hi]
theorem Tv {d:zn} {p q N:Nat} (hp:p<d.r) (hq:q<d.c) (h:Bij d N):Bij (pivot d p q) N:=by
 intro g
 rw[h g]
 simp only[pivot]
 rw[yO (f:=fun j=>g (d.fre j)) hq,yO (f:=fun j=>g (d.bas j)) hp,yO (f:=fun j=>g (upd d.fre q (d.bas p) j)) hq,
  yO (f:=fun j=>g (upd d.bas p (d.fre q) j)) hp]
 have e1:zg d.c (fun j=>if j=q then 0 else g (upd d.fre q (d.bas p) j))=zg d.c (fun j=>if j=q then 0 else g (d.fre j)):=zu fun i _=>by
  by_cases e:i=q<;>simp[e,upd]
 have e2:zg d.r (fun j=>if j=p then 0 else g (upd d.bas p (d.fre q) j))=zg d.r (fun j=>if j=p then 0 else g (d.bas j)):=zu fun i _=>by
  by_cases e:i=p<;>simp[e,upd]
 rw[e1,e2]
 simp only[upd,if_true]
 grind
theorem TJ {d:zn} {p q:Nat} (hp:p<d.r) (hq:q<d.c) (h:d.a p q≠0) {x:Nat→Rat} (hs:sol d x):sol (pivot d p q) x:=by
 have e0:=hs p hp
 rw[yO hq] at e0
 have k1:∀ (k:Rat),zg d.c (fun j=>if j=q then 0 else k*d.a p j*x (d.fre j))=k*zg d.c (fun j=>if j=q then 0 else d.a p j*x (d.fre j)):=fun k=>by
  rw[← eJ]
  exact zu fun j _=>by by_cases e:j=q<;>simp[e]; grind
 intro i hi
 simp only[pivot] at hi ⊢
 rw[yO hq]
 by_cases hip:i=p
 ·subst hip
  have e1:zg d.c (fun j=>if j=q then 0 else (if i=i then (if j=q then 1/d.a i q else d.a i j*(1/d.a i q)) else (if j=q then -(d.a i q*(1/d.a i q)) else d.a i j-d.a i q*(d.a i j*(1/d.a i q))))*x (upd d.fre q (d.bas i) j))
    = (1/d.a i q)*zg d.c (fun j=>if j=q then 0 else d.a i j*x (d.fre j)):=by
   rw[← k1]
   exact zu fun j _=>by by_cases e:j=q<;>simp[e,upd]; grind
  rw[e1]
  simp only[upd,if_true]
  grind
 ·have e2:=hs i hi
  rw[yO hq] at e2
  have e1:zg d.c (fun j=>if j=q then 0 else (if i=p then (if j=q then 1/d.a p q else d.a p j*(1/d.a p q)) else (if j=q then -(d.a i q*(1/d.a p q)) else d.a i j-d.a i q*(d.a p j*(1/d.a p q))))*x (upd d.fre q (d.bas p) j))
    = zg d.c (fun j=>if j=q then 0 else d.a i j*x (d.fre j))-(d.a i q*(1/d.a p q))*zg d.c (fun j=>if j=q then 0 else d.a p j*x (d.fre j)):=by
   rw[← k1,← sV]
   exact zu fun j _=>by by_cases e:j=q<;>simp[e,upd,hip]<;>grind
  rw[e1]
  simp only[upd,if_true,if_neg hip]
  grind
theorem mN {d:zn} {p q:Nat} (hp:p<d.r) (hq:q<d.c) (h:d.a p q≠0) {x:Nat→Rat}:sol (pivot d p q) x↔sol d x:=by
 constructor
 ·intro hs
  have h2:(pivot d p q).a p q≠0:=by simp only[pivot,if_true]; grind
  have:=TJ (d:=pivot d p q) hp hq h2 hs
  rwa [aP h] at this
 ·exact TJ hp hq h
theorem Tr {d:zn} {p q:Nat} (hp:p<d.r) (hq:q<d.c) (h:d.a p q≠0) {x:Nat→Rat} (hs:sol d x):obj (pivot d p q) x=obj d x:=by
 have e0:=hs p hp
 rw[yO hq] at e0
 have k1:∀ (k:Rat),zg d.c (fun j=>if j=q then 0 else k*d.a p j*x (d.fre j))=k*zg d.c (fun j=>if j=q then 0 else d.a p j*x (d.fre j)):=fun k=>by
  rw[← eJ]
  exact zu fun j _=>by by_cases e:j=q<;>simp[e]; grind
 simp only[obj,pivot]
 rw[yO hq,yO (f:=fun j=>d.cst j*x (d.fre j)) hq]
 have e1:zg d.c (fun j=>if j=q then 0 else (if j=q then -(d.cst q*(1/d.a p q)) else d.cst j-d.cst q*(d.a p j*(1/d.a p q)))*x (upd d.fre q (d.bas p) j))
    = zg d.c (fun j=>if j=q then 0 else d.cst j*x (d.fre j))-(d.cst q*(1/d.a p q))*zg d.c (fun j=>if j=q then 0 else d.a p j*x (d.fre j)):=by
  rw[← k1,← sV]
  exact zu fun j _=>by by_cases e:j=q<;>simp[e,upd]<;>grind
 rw[e1]
 simp only[upd,if_true]
 grind
section
variable {d:zn} {N:Nat} (hb:Bij d N)
include hb
theorem ji {k:Nat} (hk:k<N):zg d.c (fun j=>if d.fre j=k then 1 else 0)+zg d.r (fun i=>if d.bas i=k then 1 else 0)=1:=by
 have:=hb fun x=>if x=k then 1 else 0
 rw[xP hk (fun i _ hne=>if_neg hne),if_pos rfl] at this
 exact this.symm
theorem Yd {k:Nat} (hk:N≤k):zg d.c (fun j=>if d.fre j=k then 1 else 0)+zg d.r (fun i=>if d.bas i=k then 1 else 0)=0:=by
 have:=hb fun x=>if x=k then 1 else 0
 rw[zV (fun i hi=>if_neg (by omega))] at this
 exact this.symm
omit hb in
theorem m7 {n:Nat} {f:Nat→Nat} {k:Nat}:0≤zg n (fun j=>if f j=k then 1 else 0):=vv fun i _=>by split<;>grind
omit hb in
theorem bA {n j:Nat} {f:Nat→Nat} (hj:j<n):1≤zg n (fun i=>if f i=f j then 1 else 0):=by
 rw[yO hj]
 simp only[if_true]
 have:0≤zg n (fun i=>if i=j then 0 else if f i=f j then (1:Rat) else 0):=vv fun i _=>by split<;>(try split)<;>grind
 grind
omit hb in
theorem NH {n i j:Nat} {f:Nat→Nat} (hi:i<n) (hj:j<n) (hne:i≠j) (he:f i=f j):2≤zg n (fun l=>if f l=f j then 1 else 0):=by
 rw[yO hj,yO (f:=fun l=>if l=j then 0 else if f l=f j then (1:Rat) else 0) hi]
 simp only[if_true,if_neg hne,he]
 have:0≤zg n (fun l=>if l=i then 0 else if l=j then 0 else if f l=f j then (1:Rat) else 0):=vv fun i _=>by split<;>(try split)<;>(try split)<;>grind
 grind
theorem mn {j:Nat} (hj:j<d.c):d.fre j<N:=by
 rcases Nat.lt_or_ge (d.fre j) N with h | h
 ·exact h
 ·have h1:=Yd hb h
  have h2:=bA (f:=d.fre) hj
  have h3:=m7 (n:=d.r) (f:=d.bas) (k:=d.fre j)
  grind
theorem lM {i:Nat} (hi:i<d.r):d.bas i<N:=by
 rcases Nat.lt_or_ge (d.bas i) N with h | h
 ·exact h
 ·have h1:=Yd hb h
  have h2:=bA (f:=d.bas) hi
  have h3:=m7 (n:=d.c) (f:=d.fre) (k:=d.bas i)
  grind
theorem nr {i j:Nat} (hi:i<d.c) (hj:j<d.c) (h:d.fre i=d.fre j):i=j:=by
 by_cases e:i=j
 ·exact e
 ·have h1:=ji hb (mn hb hj)
  have h2:=NH (f:=d.fre) hi hj e h
  have h3:=m7 (n:=d.r) (f:=d.bas) (k:=d.fre j)
  grind
theorem lu {i j:Nat} (hi:i<d.r) (hj:j<d.r) (h:d.bas i=d.bas j):i=j:=by
 by_cases e:i=j
 ·exact e
 ·have h1:=ji hb (lM hb hj)
  have h2:=NH (f:=d.bas) hi hj e h
  have h3:=m7 (n:=d.c) (f:=d.fre) (k:=d.bas j)
  grind
theorem v4 {i j:Nat} (hi:i<d.r) (hj:j<d.c):d.fre j≠d.bas i:=fun e=>by
 have h1:=ji hb (lM hb hi)
 have h2:=bA (f:=d.bas) hi
 have h3:=bA (f:=d.fre) hj
 rw[e] at h3
 grind
omit hb in
theorem Rz {n k:Nat} {f:Nat→Nat} (h:∀ j,j<n→f j≠k):zg n (fun j=>if f j=k then (1:Rat) else 0)=0:=zV fun i hi=>if_neg (h i hi)
theorem eZ {k:Nat} (hk:k<N):(∃ j,j<d.c∧d.fre j=k)∨∃ i,i<d.r∧d.bas i=k:=by
 apply Classical.byContradiction
 intro h
 have h1:=ji hb hk
 rw[Rz fun j hj e=>h (.inl ⟨j,hj,e⟩),Rz fun j hj e=>h (.inr ⟨j,hj,e⟩)] at h1
 grind
end
def inB (d:zn) (k:Nat):Prop:=∃ i,i<d.r∧d.bas i=k
def vl (d:zn) (k:Nat):Rat:=zg d.r fun i=>if d.bas i=k then d.b i else 0
def cv (d:zn) (k:Nat):Rat:=zg d.c fun j=>if d.fre j=k then d.cst j else 0
section
variable {d:zn} {N:Nat} (hb:Bij d N)
include hb
theorem cV {i:Nat} (hi:i<d.r):vl d (d.bas i)=d.b i:=by
 unfold vl
 rw[xP hi fun k hk hne=>if_neg fun e=>hne (lu hb hk hi e),if_pos rfl]
omit hb in
theorem k6 {k:Nat} (h:¬ inB d k):vl d k=0:=zV fun i hi=>if_neg fun e=>h ⟨i,hi,e⟩
theorem YA {j:Nat} (hj:j<d.c):cv d (d.fre j)=d.cst j:=by
 unfold cv
 rw[xP hj fun k hk hne=>if_neg fun e=>hne (nr hb hk hj e),if_pos rfl]
theorem S4 {k:Nat} (h:inB d k):cv d k=0:=by
 obtain ⟨i,hi,rfl⟩:=h
 exact zV fun j hj=>if_neg fun e=>v4 hb hi hj e
theorem xX {j:Nat} (hj:j<d.c):¬ inB d (d.fre j):=fun ⟨_,hi,e⟩=>v4 hb hi hj e.symm
theorem lA {k:Nat} (hk:k<N) (h:¬ inB d k):∃ j,j<d.c∧d.fre j=k:=(eZ hb hk).resolve_right h
def ptq (d:zn) (q:Nat) (y:Rat) (k:Nat):Rat:=zg d.r (fun i=>if d.bas i=k then d.b i-d.a i q*y else 0)+(if d.fre q=k then y else 0)
theorem gF {q i:Nat} {y:Rat} (hq:q<d.c) (hi:i<d.r):ptq d q y (d.bas i)=d.b i-d.a i q*y:=by
 unfold ptq
 rw[xP hi fun k hk hne=>if_neg fun e=>hne (lu hb hk hi e),if_pos rfl,if_neg (v4 hb hi hq)]
 grind
theorem vc {q j:Nat} {y:Rat} (hq:q<d.c) (hj:j<d.c):ptq d q y (d.fre j)=if j=q then y else 0:=by
 unfold ptq
 rw[zV fun i hi=>if_neg fun e=>v4 hb hi hj e.symm]
 by_cases e:j=q
 ·subst e; simp; grind
 ·rw[if_neg e,if_neg fun h=>e (nr hb hj hq h.symm)]; grind
theorem rB {q:Nat} {y:Rat} (hq:q<d.c):sol d (ptq d q y):=by
 intro i hi
 rw[gF hb hq hi,xP hq (fun j hj hne=>by rw[vc hb hq hj,if_neg hne]; grind),vc hb hq hq,if_pos rfl]
theorem bL {q:Nat} {y:Rat} (hq:q<d.c):obj d (ptq d q y)=d.v+d.cst q*y:=by
 unfold obj
 rw[xP hq (fun j hj hne=>by rw[vc hb hq hj,if_neg hne]; grind),vc hb hq hq,if_pos rfl]
theorem k8:sol d (vl d):=by
 intro i hi
 rw[cV hb hi,zV fun j hj=>by rw[k6 (xX hb hj)]; grind]
 grind
theorem cW:obj d (vl d)=d.v:=by
 unfold obj
 rw[zV fun j hj=>by rw[k6 (xX hb hj)]; grind]
 grind
theorem R2 {x:Nat→Rat}:obj d x=d.v+zg N fun k=>cv d k*x k:=by
 have:=hb fun k=>cv d k*x k
 rw[this,zV (n:=d.r) fun i hi=>by rw[S4 hb ⟨i,hi,rfl⟩]; grind]
 unfold obj
 rw[zu (g:=fun j=>cv d (d.fre j)*x (d.fre j)) fun j hj=>by rw[YA hb hj]]
 grind
end
theorem lt_or_le (a b:Rat):a<b∨b≤a:=by
 by_cases h:a<b
 ·exact .inl h
 ·exact .inr (by grind)
theorem fK {a:Rat} (h:0<a):0<1/a:=by
 have h1:a*(1/a)=1:=by grind
 rcases lt_or_le 0 (1/a) with h2 | h2
 ·exact h2
 ·exfalso
  have:0≤a*(-(1/a)):=Rat.mul_nonneg (by grind) (by grind)
  grind
def mU (d:zn) (p q:Nat):Prop:=p<d.r∧q<d.c∧0<d.cst q∧(∀ j,j<d.c→0<d.cst j→d.fre q≤d.fre j)∧0<d.a p q ∧
 ∀ i,i<d.r→0<d.a i q→d.b p*d.a i q≤d.b i*d.a p q∧(d.b p*d.a i q=d.b i*d.a p q→d.bas p≤d.bas i)
def feas (d:zn):Prop:=∀ i,i<d.r→0≤d.b i
theorem Ls {d:zn} {p q:Nat} (hp:p<d.r) (hf:feas d) (ha:0<d.a p q) (hr:∀ i,i<d.r→0<d.a i q→d.b p*d.a i q≤d.b i*d.a p q):feas (pivot d p q):=by
 have hi:=fK ha
 intro i hir
 simp only[pivot] at hir ⊢
 by_cases e:i=p
 ·rw[if_pos e]; exact Rat.mul_nonneg (hf p hp) (by grind)
 ·rw[if_neg e]
  have h0:0≤d.b p*(1/d.a p q):=Rat.mul_nonneg (hf p hp) (by grind)
  by_cases h:0<d.a i q
  ·have h1:=hr i hir h
   have h2:0≤(d.b i*d.a p q-d.b p*d.a i q)*(1/d.a p q):=Rat.mul_nonneg (by grind) (by grind)
   have h3:(d.b i*d.a p q-d.b p*d.a i q)*(1/d.a p q)=d.b i-d.a i q*(d.b p*(1/d.a p q)):=by grind
   rwa [h3] at h2
  ·have h1:0≤(- d.a i q)*(d.b p*(1/d.a p q)):=Rat.mul_nonneg (by grind) h0
   have:=hf i hir
   grind
theorem mU.feas {d:zn} {p q:Nat} (h:mU d p q) (hf:feas d):feas (pivot d p q) :=
 Ls h.1 hf h.2.2.2.2.1 fun i hi ha=>(h.2.2.2.2.2 i hi ha).1
theorem mU.v_le {d:zn} {p q:Nat} (h:mU d p q) (hf:LP.feas d):d.v≤(pivot d p q).v:=by
 have hi:=fK h.2.2.2.2.1
 have h0:0≤d.cst q*(d.b p*(1/d.a p q)):=Rat.mul_nonneg (by have:=h.2.2.1; grind) (Rat.mul_nonneg (hf p h.1) (by grind))
 simp only[pivot]
 grind
theorem mU.v_eq {d:zn} {p q:Nat} (h:mU d p q) (hv:(pivot d p q).v=d.v):d.b p=0:=by
 have hi:=fK h.2.2.2.2.1
 have hc:=h.2.2.1
 simp only[pivot] at hv
 have e:d.cst q*(d.b p*(1/d.a p q))=0:=by grind
 have h1:d.b p*(1/d.a p q)=0:=by grind
 grind
theorem abX {d:zn} {p q:Nat} (h:d.b p=0) (k:Nat):vl (pivot d p q) k=vl d k:=by
 unfold vl
 simp only[pivot]
 refine zu fun i _=>?_
 by_cases e:i=p
 ·subst e
  simp only[h,upd,if_true]
  have:(0:Rat)*(1/d.a i q)=0:=by grind
  rw[this]
  split<;>split<;>rfl
 ·simp only[h,upd,if_neg e]
  have:d.b i-d.a i q*(0*(1/d.a p q))=d.b i:=by grind
  rw[this]
theorem core {d d':zn} {N p q q':Nat} (hb:Bij d N) (hb':Bij d' N) (ho:∀ x,sol d x→obj d x=obj d' x) (hv:d.v=d'.v) (hB:mU d p q)
  (hq':q'<d'.c) (ht:d'.fre q'=d.bas p) (hc':0<d'.cst q') (hm':∀ j,j<d'.c→0<d'.cst j→d'.fre q'≤d'.fre j)
  (hs:d.fre q<d.bas p) (hr:∀ k,inB d k→¬ inB d' k→k≤d.bas p∧vl d k=0) (hp0:d.b p=0) (_hf:feas d):False:=by
 obtain ⟨hp,hq,hc,hmin,ha,hrat⟩:=hB
 have key:∀ y:Rat,d.cst q*y=cv d' (d.fre q)*y+(zg d.r (fun i=>cv d' (d.bas i)*d.b i)-zg d.r (fun i=>cv d' (d.bas i)*d.a i q)*y):=fun y=>by
  have h1:=ho _ (rB hb hq (y:=y))
  rw[bL hb hq,R2 hb',hb (fun k=>cv d' k*ptq d q y k)] at h1
  rw[xP hq (fun j hj hne=>by rw[vc hb hq hj,if_neg hne]; grind),vc hb hq hq,if_pos rfl] at h1
  rw[zu (g:=fun i=>cv d' (d.bas i)*d.b i-cv d' (d.bas i)*d.a i q*y) fun i hi=>by rw[gF hb hq hi]; grind] at h1
  rw[sV,cN] at h1
  grind
 have k0:=key 0
 have k1:=key 1
 have neg_of:∀ {k:Nat},k<d.bas p→k<N→cv d' k≤0:=fun {k} hk hkN=>by
  rcases lt_or_le 0 (cv d' k) with h | h
  ·exfalso
   by_cases hin:inB d' k
   ·rw[S4 hb' hin] at h; grind
   ·obtain ⟨j,hj,rfl⟩:=lA hb' hkN hin
    rw[YA hb' hj] at h
    have:=hm' j hj h
    omega
  ·exact h
 have c1:=neg_of hs (mn hb hq)
 have c2:zg d.r (fun i=>cv d' (d.bas i)*d.a i q)<0:=by grind
 obtain ⟨i,hi,hneg⟩:=Xz c2
 have hnin:¬ inB d' (d.bas i):=fun h=>by rw[S4 hb' h] at hneg; grind
 obtain ⟨h1,h2⟩:=hr _ ⟨i,hi,rfl⟩ hnin
 rw[cV hb hi] at h2
 have hne:d.bas i≠d.bas p:=fun e=>by
  have e2:=lu hb hi hp e
  subst e2
  rw[← ht,YA hb' hq'] at hneg
  have:0<d'.cst q'*d.a i q:=Rat.mul_pos hc' ha
  grind
 have hlt:d.bas i<d.bas p:=by omega
 have c3:=neg_of hlt (lM hb hi)
 have c4:0<d.a i q:=by
  rcases lt_or_le 0 (d.a i q) with h | h
  ·exact h
  ·exfalso
   have:0≤(- cv d' (d.bas i))*(- d.a i q):=Rat.mul_nonneg (by grind) (by grind)
   grind
 have:=(hrat i hi c4).2 (by rw[h2,hp0]; grind)
 omega
structure Run (D:Nat→zn) (pp qq:Nat→Nat) (K N:Nat):Prop where
 bij:Bij (D 0) N
 feas:feas (D 0)
 step:∀ k,k<K→mU (D k) (pp k) (qq k)∧D (k+1)=pivot (D k) (pp k) (qq k)
section
variable {D:Nat→zn} {pp qq:Nat→Nat} {K N:Nat} (h:Run D pp qq K N)
include h
theorem Run.bijs:∀ k,k≤K→Bij (D k) N
 | 0,_=>h.bij
 | k+1,hk=>by
  obtain ⟨h1,h2⟩:=h.step k (by omega)
  rw[h2]
  exact Tv h1.1 h1.2.1 (Run.bijs k (by omega))
theorem Run.feass:∀ k,k≤K→LP.feas (D k)
 | 0,_=>h.feas
 | k+1,hk=>by
  obtain ⟨h1,h2⟩:=h.step k (by omega)
  rw[h2]
  exact h1.feas (Run.feass k (by omega))
theorem Run.same {i:Nat} {x:Nat→Rat}:∀ j,i≤j→j≤K→((sol (D i) x↔sol (D j) x)∧(sol (D i) x→obj (D i) x=obj (D j) x)):=by
 intro j hij
 induction j with
 | zero =>
   intro _; have:i=0:=by omega
   subst this; exact ⟨Iff.rfl,fun _=>rfl⟩
 | succ j ih =>
  intro hj
  by_cases e:i=j+1
  ·subst e; exact ⟨Iff.rfl,fun _=>rfl⟩
  ·obtain ⟨g1,g2⟩:=ih (by omega) (by omega)
   obtain ⟨h1,h2⟩:=h.step j (by omega)
   have ha:(D j).a (pp j) (qq j)≠0:=by have:=h1.2.2.2.2.1; grind
   rw[h2]
   exact ⟨g1.trans (mN h1.1 h1.2.1 ha).symm,fun hx=>(g2 hx).trans (Tr h1.1 h1.2.1 ha (g1.1 hx)).symm⟩
theorem Run.v_le {i:Nat}:∀ j,i≤j→j≤K→(D i).v≤(D j).v:=by
 intro j hij
 induction j with
 | zero =>
   intro _; have:i=0:=by omega
   subst this; grind
 | succ j ih =>
  intro hj
  by_cases e:i=j+1
  ·subst e; grind
  ·have g:=ih (by omega) (by omega)
   obtain ⟨h1,h2⟩:=h.step j (by omega)
   have:=h1.v_le (h.feass j (by omega))
   rw[← h2] at this
   grind
abbrev en (D:Nat→zn) (qq:Nat→Nat) (m:Nat):Nat:=(D m).fre (qq m)
abbrev lv (D:Nat→zn) (pp:Nat→Nat) (m:Nat):Nat:=(D m).bas (pp m)
theorem Run.next {m k:Nat} (hm:m<K):inB (D (m+1)) k↔(k=en D qq m∨(inB (D m) k∧k≠lv D pp m)):=by
 obtain ⟨h1,h2⟩:=h.step m hm
 have hb:=h.bijs m (by omega)
 rw[h2]
 constructor
 ·rintro ⟨i,hi,e⟩
  simp only[pivot,upd] at hi e
  by_cases hip:i=pp m
  ·rw[if_pos hip] at e; exact .inl e.symm
  ·rw[if_neg hip] at e
   refine .inr ⟨⟨i,hi,e⟩,fun e2=>hip (lu hb hi h1.1 (e.trans e2))⟩
 ·rintro (rfl | ⟨⟨i,hi,rfl⟩,hne⟩)
  ·exact ⟨pp m,h1.1,by simp[pivot,upd]⟩
  ·refine ⟨i,hi,?_⟩
   have:i≠pp m:=fun e=>hne (by rw[e])
   simp[pivot,upd,this]
theorem Run.en_free {m:Nat} (hm:m<K):¬ inB (D m) (en D qq m):=xX (h.bijs m (by omega)) (h.step m hm).1.2.1
omit h in
theorem Run.lv_basic {m:Nat} (h:Run D pp qq K N) (hm:m<K):inB (D m) (lv D pp m):=⟨pp m,(h.step m hm).1.1,rfl⟩
theorem Run.stay_free {k i j:Nat} (hj:j≤K) (hne:∀ m,i≤m→m<j→en D qq m≠k):∀ x y,i≤x→x≤y→y≤j→¬ inB (D x) k→¬ inB (D y) k:=by
 intro x y hx hxy
 induction y with
 | zero =>
   intro _ hf; have:x=0:=by omega
   subst this; exact hf
 | succ y ih =>
  intro hy hf
  by_cases e:x=y+1
  ·subst e; exact hf
  ·have g:=ih (by omega) (by omega) hf
   rw[h.next (by omega)]
   rintro (e2 | ⟨e2,_⟩)
   ·exact hne y (by omega) (by omega) e2.symm
   ·exact g e2
theorem Run.stay_basic {k i j:Nat} (hj:j≤K) (hne:∀ m,i≤m→m<j→lv D pp m≠k):∀ x y,i≤x→x≤y→y≤j→inB (D x) k→inB (D y) k:=by
 intro x y hx hxy
 induction y with
 | zero =>
   intro _ hf; have:x=0:=by omega
   subst this; exact hf
 | succ y ih =>
  intro hy hf
  by_cases e:x=y+1
  ·subst e; exact hf
  ·have g:=ih (by omega) (by omega) hf
   rw[h.next (by omega)]
   exact .inr ⟨g,fun e2=>hne y (by omega) (by omega) e2.symm⟩
theorem Run.enters {k i j x y:Nat} (hj:j≤K) (hij:inB (D i) k↔inB (D j) k) (hx:i≤x∧x≤j) (hy:i≤y∧y≤j) (h1:inB (D x) k) (h2:¬ inB (D y) k):∃ m,i≤m∧m<j∧en D qq m=k:=by
 apply Classical.byContradiction
 intro hno
 have hne:∀ m,i≤m→m<j→en D qq m≠k:=fun m a b e=>hno ⟨m,a,b,e⟩
 have f1:=h.stay_free hj hne y j hy.1 hy.2 (Nat.le_refl _) h2
 have f2:¬ inB (D i) k:=fun e=>f1 (hij.1 e)
 exact h.stay_free hj hne i x (Nat.le_refl _) hx.1 hx.2 f2 h1
theorem Run.leaves {k i j x y:Nat} (hj:j≤K) (hij:inB (D i) k↔inB (D j) k) (hx:i≤x∧x≤j) (hy:i≤y∧y≤j) (h1:inB (D x) k) (h2:¬ inB (D y) k):∃ m,i≤m∧m<j∧lv D pp m=k:=by
 apply Classical.byContradiction
 intro hno
 have hne:∀ m,i≤m→m<j→lv D pp m≠k:=fun m a b e=>hno ⟨m,a,b,e⟩
 have f1:=h.stay_basic hj hne x j hx.1 hx.2 (Nat.le_refl _) h1
 have f2:inB (D i) k:=hij.2 f1
 exact h2 (h.stay_basic hj hne i y (Nat.le_refl _) hy.1 hy.2 f2)
omit h in
theorem MP (f:Nat→Nat) (i:Nat):∀ j,i<j→∃ m,i≤m∧m<j∧∀ m',i≤m'→m'<j→f m'≤f m:=by
 intro j
 induction j with
 | zero=>intro hj; omega
 | succ j ih =>
  intro hj
  by_cases e:i=j
  ·subst e; exact ⟨i,Nat.le_refl _,by omega,fun m' a b=>by
    have:m'=i:=by omega
    rw[this]
    exact Nat.le_refl _⟩
  ·obtain ⟨m,a,b,g⟩:=ih (by omega)
   by_cases hlt:f m≤f j
   ·refine ⟨j,by omega,by omega,fun m' a' b'=>?_⟩
    by_cases e2:m'=j
    ·rw[e2]; exact Nat.le_refl _
    ·exact Nat.le_trans (g m' a' (by omega)) hlt
   ·refine ⟨m,a,by omega,fun m' a' b'=>?_⟩
    by_cases e2:m'=j
    ·rw[e2]; omega
    ·exact g m' a' (by omega)
theorem Run.no_repeat {i j:Nat} (hij:i<j) (hj:j≤K) (hB:∀ k,inB (D i) k↔inB (D j) k):False:=by
 have bi:=h.bijs i (by omega)
 have bj:=h.bijs j hj
 have hvij:(D i).v=(D j).v:=by
  have s1:=k8 bi
  have s2:=(h.same j (by omega) hj (i:=i)).2 s1
  rw[cW bi] at s2
  rw[s2]
  unfold obj
  rw[zV fun l hl=>by rw[k6 fun e=>xX bj hl ((hB _).1 e)]; grind]
  grind
 have hv:∀ m,i≤m→m≤j→(D m).v=(D i).v:=fun m a b=>by
  have g1:=h.v_le m a (by omega)
  have g2:=h.v_le j b hj
  grind
 have hdeg:∀ m,i≤m→m<j→(D m).b (pp m)=0:=fun m a b=>by
  obtain ⟨h1,h2⟩:=h.step m (by omega)
  apply h1.v_eq
  rw[← h2,hv (m+1) (by omega) (by omega),hv m a (by omega)]
 have hvl:∀ k m,i≤m→m≤j→vl (D m) k=vl (D i) k:=fun k m a=>by
  induction m with
  | zero =>
    intro _; have:i=0:=by omega
    rw[this]
  | succ m ih =>
   intro b
   by_cases e:i=m+1
   ·rw[e]
   ·rw[(h.step m (by omega)).2,abX (hdeg m (by omega) (by omega)),ih (by omega) (by omega)]
 obtain ⟨e,e1,e2,emax⟩:=MP (en D qq) i j hij
 have hfr:=h.en_free (m:=e) (by omega)
 have hin:inB (D (e+1)) (en D qq e):=(h.next (by omega)).2 (.inl rfl)
 obtain ⟨l,l1,l2,hl⟩:=h.leaves hj (hB (en D qq e)) (x:=e+1) (y:=e) ⟨by omega,by omega⟩ ⟨by omega,by omega⟩ hin hfr
 have hBl:=(h.step l (by omega)).1
 have hBe:=(h.step e (by omega)).1
 have hobj:∀ x,sol (D l) x→obj (D l) x=obj (D e) x:=fun x hx=>by
  rcases Nat.le_total l e with hle | hle
  ·exact (h.same e hle (by omega) (i:=l)).2 hx
  ·exact ((h.same l hle (by omega) (i:=e)).2 ((h.same l hle (by omega) (i:=e)).1.2 hx)).symm
 refine core (h.bijs l (by omega)) (h.bijs e (by omega)) hobj (by rw[hv l l1 (by omega),hv e e1 (by omega)]) hBl hBe.2.1 hl.symm hBe.2.2.1 hBe.2.2.2.1 ?_ ?_ (hdeg l l1 l2) (h.feass l (by omega))
 ·have g:=emax l l1 l2
  have hne:en D qq l≠en D qq e:=fun e3=>by
   have:=h.en_free (m:=l) (by omega)
   rw[e3,← hl] at this
   exact this (h.lv_basic (by omega))
  rw[show (D l).bas (pp l)=en D qq e from hl]
  simp only[en] at g hne ⊢
  omega
 ·intro k hk1 hk2
  obtain ⟨m,m1,m2,rfl⟩:=h.enters hj (hB k) (x:=l) (y:=e) ⟨l1,by omega⟩ ⟨e1,by omega⟩ hk1 hk2
  rw[show (D l).bas (pp l)=en D qq e from hl]
  refine ⟨emax m m1 m2,?_⟩
  rw[hvl _ l l1 (by omega),← hvl _ e e1 (by omega)]
  exact k6 hk2
end
def code (d:zn):Nat→Nat
 | 0=>0
 | n+1=>2*code d n+(if (List.range d.r).any (fun i=>d.bas i == n)=true then 1 else 0)
theorem qC {d:zn} {n:Nat}:(List.range d.r).any (fun i=>d.bas i == n)=true↔inB d n:=by
 simp[inB]
theorem Nu {d:zn}:∀ n,code d n<2^n
 | 0=>by simp[code]
 | n+1=>by have:=Nu (d:=d) n; simp only[code,Nat.pow_succ]; split<;>omega
theorem code_inj {d d':zn}:∀ n,code d n=code d' n→∀ k,k<n→(inB d k↔inB d' k)
 | 0,_,k,hk=>by omega
 | n+1,he,k,hk=>by
  simp only[code] at he
  have h1:code d n=code d' n:=by split at he<;>split at he<;>omega
  by_cases e:k=n
  ·subst e
   rw[← qC,← qC]
   rw[h1] at he
   cases h2:(List.range d.r).any (fun i=>d.bas i == k)<;>cases h3:(List.range d'.r).any (fun i=>d'.bas i == k)<;>simp only[h2,h3,Bool.false_eq_true,if_true,if_false] at he ⊢<;>omega
  ·exact code_inj n h1 k (by omega)
theorem abo:∀ (M K:Nat) (f:Nat→Nat),(∀ k,k<K→f k<M)→(∀ i j,i<j→j<K→f i≠f j)→K≤M:=by
 intro M
 induction M with
 | zero=>intro K f h _; rcases K with _ | K; exact Nat.le_refl _; exact absurd (h 0 (by omega)) (by omega)
 | succ M ih =>
  intro K f h hne
  rcases K with _ | K
  ·omega
  ·-- the last one is moved out of the way
   have:K≤M:=by
    refine ih K (fun k=>if f k=M then f K else f k) (fun k hk=>?_) (fun i j hij hj=>?_)
    ·have h1:=h k (by omega)
     have h2:=h K (by omega)
     have h3:=hne k K hk (by omega)
     by_cases e:f k=M
     ·simp only[e,if_true]; omega
     ·simp only[e,if_false]; omega
    ·have g1:=hne i j hij (by omega)
     have g2:=hne i K (by omega) (by omega)
     have g3:=hne j K hj (by omega)
     by_cases e1:f i=M<;>by_cases e2:f j=M<;>simp only[e1,e2,if_true,if_false]<;>omega
   omega
theorem Run.le {D:Nat→zn} {pp qq:Nat→Nat} {K N:Nat} (h:Run D pp qq K N):K<2^N:=by
 have:=abo (2^N) (K+1) (fun k=>code (D k) N) (fun k _=>Nu N) (fun i j hij hj e=>by
  refine h.no_repeat hij (by omega) fun k=>?_
  by_cases hk:k<N
  ·exact code_inj N e k hk
  ·constructor
   ·rintro ⟨i',hi',rfl⟩; exact absurd (lM (h.bijs i (by omega)) hi') hk
   ·rintro ⟨i',hi',rfl⟩; exact absurd (lM (h.bijs j (by omega)) hi') hk)
 omega
def sz (K:Nat) (q:Rat):Prop:=q.num.natAbs≤2^K∧q.den≤2^K
theorem zM {K L:Nat} {q:Rat} (h:sz K q) (hl:K≤L):sz L q :=
 ⟨Nat.le_trans h.1 (Nat.pow_le_pow_right (by omega) hl),Nat.le_trans h.2 (Nat.pow_le_pow_right (by omega) hl)⟩
theorem Mo {K:Nat} {n:Int} {d:Nat} (hd:d≠0) (h1:n.natAbs≤2^K) (h2:d≤2^K):sz K (Rat.normalize n d hd):=by
 rw[Rat.normalize_eq]
 exact ⟨Nat.le_trans (Int.natAbs_ediv_le_natAbs _ _) h1,Nat.le_trans (Nat.div_le_self _ _) h2⟩
theorem y8 {K:Nat}:sz K 0:=⟨Nat.zero_le _,Nat.pow_pos (by omega)⟩
theorem v6 {K:Nat}:sz K 1:=⟨Nat.pow_pos (by omega),Nat.pow_pos (by omega)⟩
theorem yG {K L:Nat} {a b:Rat} (ha:sz K a) (hb:sz L b):sz (K+L) (a*b):=by
 rw[Rat.mul_def]
 refine Mo _ ?_ ?_
 ·rw[Int.natAbs_mul,Nat.pow_add]; exact Nat.mul_le_mul ha.1 hb.1
 ·rw[Nat.pow_add]; exact Nat.mul_le_mul ha.2 hb.2
theorem cP {K L:Nat} {a b:Rat} (ha:sz K a) (hb:sz L b):sz (K+L+1) (a+b):=by
 rw[Rat.add_def]
 refine Mo _ ?_ ?_
 ·refine Nat.le_trans (Int.natAbs_add_le _ _) ?_
  rw[Int.natAbs_mul,Int.natAbs_mul,Nat.pow_succ,Nat.pow_add]
  have h1:=Nat.mul_le_mul ha.1 hb.2
  have h2:=Nat.mul_le_mul hb.1 ha.2
  rw[Nat.mul_comm (2^L)] at h2
  simp only[Int.natAbs_natCast]
  omega
 ·rw[Nat.pow_succ,Nat.pow_add]
  have:=Nat.mul_le_mul ha.2 hb.2
  omega
theorem sW {K:Nat} {a:Rat} (ha:sz K a):sz K (-a):=by
 unfold sz
 rw[Rat.neg_num,Rat.neg_den,Int.natAbs_neg]
 exact ha
theorem pU {K L:Nat} {a b:Rat} (ha:sz K a) (hb:sz L b):sz (K+L+1) (a-b):=by
 rw[Rat.sub_eq_add_neg]; exact cP ha (sW hb)
theorem QW {K:Nat} {a:Rat} (ha:sz K a):sz K (1/a):=by
 have:1/a=a⁻¹:=by grind
 rw[this]
 unfold sz
 rw[Rat.num_inv,Rat.den_inv]
 constructor
 ·rw[Int.natAbs_mul,Int.natAbs_natCast,Int.natAbs_sign]
  have:=ha.2
  split<;>omega
 ·split
  ·exact Nat.pow_pos (by omega)
  ·exact ha.1
structure szD (K:Nat) (d:zn):Prop where
 a:∀ i j,i<d.r→j<d.c→sz K (d.a i j)
 b:∀ i,i<d.r→sz K (d.b i)
 cst:∀ j,j<d.c→sz K (d.cst j)
 v:sz K d.v
theorem Z1 {K L:Nat} {d:zn} (h:szD K d) (hl:K≤L):szD L d :=
 ⟨fun i j hi hj=>zM (h.a i j hi hj) hl,fun i hi=>zM (h.b i hi) hl,fun j hj=>zM (h.cst j hj) hl,zM h.v hl⟩
theorem G9 {K:Nat} {d:zn} {p q:Nat} (hp:p<d.r) (hq:q<d.c) (h:szD K d):szD (4*K+1) (pivot d p q):=by
 have hi:=QW (h.a p q hp hq)
 constructor
 ·intro i j hir hjc
  simp only[pivot] at hir hjc ⊢
  split<;>split
  ·exact zM hi (by omega)
  ·exact zM (yG (h.a p j hp hjc) hi) (by omega)
  ·exact zM (sW (yG (h.a i q hir hq) hi)) (by omega)
  ·exact zM (pU (h.a i j hir hjc) (yG (h.a i q hir hq) (yG (h.a p j hp hjc) hi))) (by omega)
 ·intro i hir
  simp only[pivot] at hir ⊢
  split
  ·exact zM (yG (h.b p hp) hi) (by omega)
  ·exact zM (pU (h.b i hir) (yG (h.a i q hir hq) (yG (h.b p hp) hi))) (by omega)
 ·intro j hjc
  simp only[pivot] at hjc ⊢
  split
  ·exact zM (sW (yG (h.cst q hq) hi)) (by omega)
  ·exact zM (pU (h.cst j hjc) (yG (h.cst q hq) (yG (h.a p j hp hjc) hi))) (by omega)
 ·simp only[pivot]
  exact zM (cP h.v (yG (h.cst q hq) (yG (h.b p hp) hi))) (by omega)
structure Same (d e:zn) (N:Nat):Prop where
 bd:Bij d N
 be:Bij e N
 sol:∀ x,sol d x↔sol e x
 obj:∀ x,LP.sol d x→obj d x=obj e x
theorem Same.refl {d:zn} {N:Nat} (h:Bij d N):Same d d N:=⟨h,h,fun _=>Iff.rfl,fun _ _=>rfl⟩
theorem Same.symm {d e:zn} {N:Nat} (h:Same d e N):Same e d N:=⟨h.be,h.bd,fun x=>(h.sol x).symm,fun x hx=>(h.obj x ((h.sol x).2 hx)).symm⟩
theorem Same.trans {d e f:zn} {N:Nat} (h:Same d e N) (k:Same e f N):Same d f N :=
 ⟨h.bd,k.be,fun x=>(h.sol x).trans (k.sol x),fun x hx=>(h.obj x hx).trans (k.obj x ((h.sol x).1 hx))⟩
theorem Same.pivot {d:zn} {N p q:Nat} (h:Bij d N) (hp:p<d.r) (hq:q<d.c) (ha:d.a p q≠0):Same (pivot d p q) d N :=
 ⟨Tv hp hq h,h,fun _=>mN hp hq ha,fun _ hx=>Tr hp hq ha ((mN hp hq ha).1 hx)⟩
def far (d:zn) (f:Nat→Nat):Nat→Nat
 | 0=>0
 | n+1=>far d f n+(if (List.range d.r).any (fun i=>d.bas i == f n)=true then 0 else 1)
theorem K7 {d:zn} {f:Nat→Nat}:∀ n,far d f n≤n
 | 0=>Nat.le_refl _
 | n+1=>by have:=K7 (d:=d) (f:=f) n; simp only[far]; split<;>omega
theorem Rj {d:zn} {f:Nat→Nat}:∀ n,far d f n=0→∀ i,i<n→inB d (f i)
 | 0,_,i,hi=>by omega
 | n+1,h,i,hi=>by
  simp only[far] at h
  by_cases e:i=n
  ·subst e
   apply qC.1
   cases h2:(List.range d.r).any (fun j=>d.bas j == f i)
   ·rw[h2] at h; simp at h
   ·rfl
  ·exact Rj n (by omega) i (by omega)
theorem NC {d:zn} {f:Nat→Nat}:∀ n,far d f n≠0→∃ i,i<n∧¬ inB d (f i)
 | 0,h=>absurd rfl h
 | n+1,h=>by
  by_cases e:inB d (f n)
  ·have h2:=qC.2 e
   simp only[far,h2,if_true] at h
   obtain ⟨i,hi,hf⟩:=NC n (by omega)
   exact ⟨i,by omega,hf⟩
  ·exact ⟨n,by omega,e⟩
theorem NE {d:zn} {f:Nat→Nat} {p k:Nat} (hk:inB d k) (hp:¬ inB d (f p)):∀ n,far d (upd f p k) n+(if p<n then 1 else 0)=far d f n
 | 0=>by simp[far]
 | n+1=>by
  have ih:=NE (d:=d) (f:=f) (p:=p) (k:=k) hk hp n
  by_cases e:p=n
  ·subst e
   have h1:=qC.2 hk
   have h2:(List.range d.r).any (fun i=>d.bas i == f p)=false:=by
    cases h:(List.range d.r).any (fun i=>d.bas i == f p)
    ·rfl
    ·exact absurd (qC.1 h) hp
   simp only[far,upd,if_true,h1,h2,Bool.false_eq_true,if_false] at ih ⊢
   have:(upd f p k)=fun i=>if i=p then k else f i:=rfl
   simp only[Nat.lt_irrefl,if_false] at ih
   have e2:¬ p<p:=by omega
   simp only[show p<p+1 by omega,if_true]
   omega
  ·have e3:upd f p k n=f n:=by simp[upd,Ne.symm e]
   simp only[far,e3]
   have:(p<n+1)↔(p<n):=by omega
   simp only[this]
   omega
section
variable {d e:zn} {N:Nat} (h:Same d e N)
include h
theorem Same.entries {K:Nat} (hB:∀ k,inB e k→inB d k) (hB2:∀ k,inB d k→inB e k) (hs:szD K d):szD K e:=by
 have hF:∀ j,j<e.c→∃ j',j'<d.c∧d.fre j'=e.fre j:=fun j hj=>lA h.bd (mn h.be hj) fun hin=>xX h.be hj (hB2 _ hin)
 have hR:∀ i,i<e.r→∃ i',i'<d.r∧d.bas i'=e.bas i:=fun i hi=>hB _ ⟨i,hi,rfl⟩
 have hpt:∀ j j' y,j<e.c→j'<d.c→d.fre j'=e.fre j→∀ k,k<N→¬ inB d k→ptq e j y k=ptq d j' y k:=fun j j' y hj hj' ejj k hk hnk=>by
  obtain ⟨l,hl,rfl⟩:=lA h.bd hk hnk
  obtain ⟨l',hl',el⟩:=lA h.be hk fun hin=>hnk (hB _ hin)
  rw[vc h.bd hj' hl,← el,vc h.be hj hl']
  by_cases e1:l'=j
  ·subst e1
   rw[if_pos rfl,if_pos (nr h.bd hl hj' (by rw[ejj,el]))]
  ·rw[if_neg e1,if_neg fun e2=>e1 (by subst e2; exact nr h.be hl' hj (by rw[el,ejj]))]
 -- the point of 'e' is the point of 'd'
 have key:∀ j j' y i i',j<e.c→j'<d.c→d.fre j'=e.fre j→i<e.r→i'<d.r→d.bas i'=e.bas i→e.b i-e.a i j*y=d.b i'-d.a i' j'*y:=fun j j' y i i' hj hj' ejj hi hi' eii=>by
  have s1:=(h.sol _).2 (rB h.be hj (y:=y))
  have s2:=s1 i' hi'
  rw[eii,gF h.be hj hi] at s2
  rw[s2]
  rw[zu (g:=fun l=>d.a i' l*ptq d j' y (d.fre l)) fun l hl=>by rw[hpt j j' y hj hj' ejj _ (mn h.bd hl) (xX h.bd hl)]]
  rw[xP hj' (fun l hl hne=>by rw[vc h.bd hj' hl,if_neg hne]; grind),vc h.bd hj' hj',if_pos rfl]
 have keyo:∀ j j' y,j<e.c→j'<d.c→d.fre j'=e.fre j→e.v+e.cst j*y=d.v+d.cst j'*y:=fun j j' y hj hj' ejj=>by
  have s1:=(h.sol _).2 (rB h.be hj (y:=y))
  have s2:=h.obj _ s1
  rw[bL h.be hj] at s2
  rw[← s2]
  unfold LP.obj
  rw[zu (g:=fun l=>d.cst l*ptq d j' y (d.fre l)) fun l hl=>by rw[hpt j j' y hj hj' ejj _ (mn h.bd hl) (xX h.bd hl)]]
  rw[xP hj' (fun l hl hne=>by rw[vc h.bd hj' hl,if_neg hne]; grind),vc h.bd hj' hj',if_pos rfl]
 have hvl:∀ k,k<N→vl e k=0∨inB d k:=fun k hk=>by
  by_cases hin:inB e k
  ·exact .inr (hB _ hin)
  ·exact .inl (k6 hin)
 have svl:=(h.sol _).2 (k8 h.be)
 have z:∀ l,l<d.c→vl e (d.fre l)=0:=fun l hl=>k6 fun hin=>xX h.bd hl (hB _ hin)
 constructor
 ·intro i j hi hj
  obtain ⟨i',hi',ei⟩:=hR i hi
  obtain ⟨j',hj',ej⟩:=hF j hj
  have k0:=key j j' 0 i i' hj hj' ej hi hi' ei
  have k1:=key j j' 1 i i' hj hj' ej hi hi' ei
  have:e.a i j=d.a i' j':=by grind
  rw[this]; exact hs.a i' j' hi' hj'
 ·intro i hi
  obtain ⟨i',hi',ei⟩:=hR i hi
  have s2:=svl i' hi'
  rw[ei,cV h.be hi,zV fun l hl=>by rw[z l hl]; grind] at s2
  have:e.b i=d.b i':=by grind
  rw[this]; exact hs.b i' hi'
 ·intro j hj
  obtain ⟨j',hj',ej⟩:=hF j hj
  have k0:=keyo j j' 0 hj hj' ej
  have k1:=keyo j j' 1 hj hj' ej
  have:e.cst j=d.cst j':=by grind
  rw[this]; exact hs.cst j' hj'
 ·have s2:=h.obj _ svl
  rw[cW h.be] at s2
  unfold LP.obj at s2
  rw[zV fun l hl=>by rw[z l hl]; grind] at s2
  have:e.v=d.v:=by grind
  rw[this]; exact hs.v
theorem Same.exchange {i:Nat} (hi:i<e.r) (hn:¬ inB d (e.bas i)):∃ j,j<e.c∧e.a i j≠0∧inB d (e.fre j):=by
 apply Classical.byContradiction
 intro hno
 obtain ⟨q,hq,eq⟩:=lA h.bd (lM h.be hi) hn
 have key:∀ y:Rat,y=e.b i:=fun y=>by
  have s1:=(h.sol _).1 (rB h.bd hq (y:=y)) i hi
  rw[← eq,vc h.bd hq hq,if_pos rfl] at s1
  rw[zV fun j hj=>?_] at s1
  ·grind
  ·by_cases ha:e.a i j=0
   ·rw[ha]; grind
   ·have hnf:¬ inB d (e.fre j):=fun hin=>hno ⟨j,hj,ha,hin⟩
    obtain ⟨l,hl,el⟩:=lA h.bd (mn h.be hj) hnf
    rw[← el,vc h.bd hq hl,if_neg fun e2=>v4 h.be hi hj (by rw[← el,e2,eq])]
    grind
 have k0:=key 0
 have k1:=key 1
 grind
end
def grow (K:Nat):Nat→Nat
 | 0=>K
 | n+1=>4*grow K n+1
theorem mq {K:Nat} {m n:Nat} (h:m≤n):grow K m≤grow K n:=by
 induction n with
 | zero =>
   have:m=0:=by omega
   rw[this]; exact Nat.le_refl _
 | succ n ih =>
  by_cases e:m=n+1
  ·rw[e]; exact Nat.le_refl _
  ·have:=ih (by omega)
   simp only[grow]; omega
theorem Same.size {d:zn} {N K:Nat} (hs:szD K d):∀ n (e:zn),Same d e N→e.r=d.r→e.c=d.c→far d e.bas e.r≤n→szD (grow K n) e:=by
 intro n
 induction n with
 | zero =>
  intro e h hr hc hn
  have hB:∀ k,inB e k→inB d k:=fun k ⟨i,hi,ek⟩=>by
   have:=Rj _ (Nat.le_zero.1 hn) i hi
   rwa [ek] at this
  refine h.entries hB (fun k hk=>?_) hs
  -- as many basic variables in both
  classical
  apply Classical.byContradiction
  intro hnk
  have hkN:k<N:=by obtain ⟨i,hi,rfl⟩:=hk; exact lM h.bd hi
  have c1:zg N (fun x=>if inB d x then (1:Rat) else 0)=zg d.r (fun _=>1):=by
   rw[h.bd fun x=>if inB d x then (1:Rat) else 0,zV fun j hj=>if_neg (xX h.bd hj),zu (n:=d.r) (g:=fun _=>1) fun i hi=>if_pos ⟨i,hi,rfl⟩]
   grind
  have c2:zg N (fun x=>if inB e x then (1:Rat) else 0)=zg e.r (fun _=>1):=by
   rw[h.be fun x=>if inB e x then (1:Rat) else 0,zV fun j hj=>if_neg (xX h.be hj),zu (n:=e.r) (g:=fun _=>1) fun i hi=>if_pos ⟨i,hi,rfl⟩]
   grind
  rw[hr,← c1] at c2
  rw[yO hkN,yO (f:=fun x=>if inB d x then (1:Rat) else 0) hkN,if_neg hnk,if_pos hk] at c2
  have:zg N (fun j=>if j=k then 0 else if inB e j then (1:Rat) else 0)≤zg N (fun j=>if j=k then 0 else if inB d j then (1:Rat) else 0):=lG fun j _=>by
   by_cases e1:j=k
   ·rw[if_pos e1,if_pos e1]; grind
   ·rw[if_neg e1,if_neg e1]
    by_cases e2:inB e j
    ·rw[if_pos e2,if_pos (hB _ e2)]; grind
    ·rw[if_neg e2]; split<;>grind
  grind
 | succ n ih =>
  intro e h hr hc hn
  by_cases h0:far d e.bas e.r≤n
  ·exact Z1 (ih e h hr hc h0) (mq (by omega))
  ·obtain ⟨i,hi,hni⟩:=NC e.r (by omega:far d e.bas e.r≠0)
   obtain ⟨j,hj,ha,hin⟩:=h.exchange hi hni
   have hS:=h.trans (Same.pivot h.be hi hj ha).symm
   have hfar:=NE (f:=e.bas) hin hni e.r
   rw[if_pos hi] at hfar
   have:=ih (LP.pivot e i j) hS hr hc (by simp only[LP.pivot]; omega)
   have h2:=G9 (p:=i) (q:=j) (d:=LP.pivot e i j) hi hj this
   rwa [aP ha] at h2
open Classical in
theorem ND {d:zn} {f:Nat→Nat}:∀ n,((far d f n:Nat):Rat)=zg n fun i=>if inB d (f i) then 0 else 1
 | 0=>rfl
 | n+1=>by
  have ih:=ND (d:=d) (f:=f) n
  simp only[far,zg]
  rw[← ih]
  by_cases e:inB d (f n)
  ·rw[if_pos (qC.2 e),if_pos e]; simp; grind
  ·rw[if_neg (fun h=>e (qC.1 h)),if_neg e]; simp
theorem TN:∀ n,zg n (fun _=>1)=((n:Nat):Rat)
 | 0=>rfl
 | n+1=>by simp only[zg]; rw[TN n]; simp
open Classical in
theorem Same.far_c {d e:zn} {N:Nat} (h:Same d e N):far d e.bas e.r≤d.c:=by
 have h1:=ND (d:=d) (f:=e.bas) e.r
 have h2:zg N (fun k=>if inB d k then (0:Rat) else 1)=zg e.c (fun j=>if inB d (e.fre j) then 0 else 1)+zg e.r (fun i=>if inB d (e.bas i) then 0 else 1):=h.be fun k=>if inB d k then (0:Rat) else 1
 have h3:zg N (fun k=>if inB d k then (0:Rat) else 1)=zg d.c (fun j=>if inB d (d.fre j) then 0 else 1)+zg d.r (fun i=>if inB d (d.bas i) then 0 else 1):=h.bd fun k=>if inB d k then (0:Rat) else 1
 rw[zV (n:=d.r) fun i hi=>if_pos ⟨i,hi,rfl⟩,zu (n:=d.c) (g:=fun _=>1) fun j hj=>if_neg (xX h.bd hj),TN] at h3
 have h4:0≤zg e.c (fun j=>if inB d (e.fre j) then (0:Rat) else 1):=by
  have:=lG (n:=e.c) (f:=fun _=>(0:Rat)) (g:=fun j=>if inB d (e.fre j) then (0:Rat) else 1) fun j _=>by split<;>grind
  rwa [zV fun _ _=>rfl] at this
 have h5:((far d e.bas e.r:Nat):Rat)≤((d.c:Nat):Rat):=by grind
 exact Rat.natCast_le_natCast.1 h5
theorem Same.size_t {d e:zn} {N K t:Nat} (hs:szD K d) (h:Same d e N) (hr:e.r=d.r) (hc:e.c=d.c) (ht:d.r≤t∨d.c≤t):szD (grow K t) e :=
 Same.size hs t e h hr hc (by
  rcases ht with ht | ht
  ·exact Nat.le_trans (K7 _) (by rw[hr]; exact ht)
  ·exact Nat.le_trans h.far_c ht)
theorem agQ (n m:Nat) (g:Nat→Rat):zg (n+m) g=zg n g+zg m (fun i=>g (n+i)):=by
 induction m with
 | zero=>simp only[Nat.add_zero,zg]; grind
 | succ m ih=>rw[← Nat.add_assoc]; simp only[zg]; rw[ih]; grind
section
variable (n m:Nat) (A:Nat→Nat→Rat) (bb gg:Nat→Rat)
def dG:zn:=⟨m,n,A,bb,gg,0,fun i=>n+i,fun j=>j⟩
def dA:zn:=⟨m,n+1,fun i j=>if j<n then A i j else -1,bb,fun j=>if j<n then 0 else -1,0,fun i=>n+i,fun j=>if j<n then j else n+m⟩
def xu (u:Nat→Rat) (k:Nat):Rat:=if k<n then u k else bb (k-n)-zg n fun j=>A (k-n) j*u j
end
section
variable {n m:Nat} {A:Nat→Nat→Rat} {bb gg:Nat→Rat}
theorem KP:Bij (dG n m A bb gg) (n+m):=fun g=>agQ n m g
theorem aaP:Bij (dA n m A bb) (n+m+1):=fun g=>by
 simp only[dA,zg]
 rw[agQ,if_neg (Nat.lt_irrefl n),zu (n:=n) (f:=fun j=>g (if j<n then j else n+m)) (g:=g) fun i hi=>by rw[if_pos hi]]
 grind
theorem XI {u:Nat→Rat} {k:Nat} (h:k<n):xu n A bb u k=u k:=if_pos h
theorem SA {u:Nat→Rat} {i:Nat}:xu n A bb u (n+i)=bb i-zg n fun j=>A i j*u j:=by
 unfold xu
 rw[if_neg (by omega),Nat.add_sub_cancel_left]
theorem abY {u:Nat→Rat}:sol (dG n m A bb gg) (xu n A bb u):=by
 intro i hi
 simp only[dG] at hi ⊢
 rw[SA]
 congr 1
 exact zu fun j hj=>by rw[XI hj]
theorem Xo {x:Nat→Rat} (h:sol (dG n m A bb gg) x) {i:Nat} (hi:i<m):x (n+i)=bb i-zg n fun j=>A i j*x j:=h i hi
theorem Y4 {x:Nat→Rat}:obj (dG n m A bb gg) x=zg n fun j=>gg j*x j:=by
 simp only[obj,dG]; grind
theorem Nx {d:zn} (h:Same d (dG n m A bb gg) (n+m)) (u:Nat→Rat):zg n (fun j=>gg j*u j)=d.v+zg n (fun k=>cv d k*u k)+zg m (fun i=>cv d (n+i)*(bb i-zg n fun j=>A i j*u j)):=by
 have h1:=h.obj _ ((h.sol _).2 (abY (u:=u)))
 rw[Y4,R2 h.bd,agQ] at h1
 rw[zu (n:=n) (f:=fun j=>gg j*xu n A bb u j) (g:=fun j=>gg j*u j) fun j hj=>by rw[XI hj],
  zu (n:=n) (f:=fun k=>cv d k*xu n A bb u k) (g:=fun k=>cv d k*u k) fun j hj=>by rw[XI hj],
  zu (n:=m) (g:=fun i=>cv d (n+i)*(bb i-zg n fun j=>A i j*u j)) fun i hi=>by rw[SA]] at h1
 grind
theorem KV {d:zn} (h:Same d (dG n m A bb gg) (n+m)):zg m (fun i=>-cv d (n+i)*bb i)=d.v:=by
 have h1:=Nx h fun _=>0
 rw[zV fun j _=>by grind,zV (n:=n) (f:=fun k=>cv d k*0) fun j _=>by grind,
  zu (n:=m) (g:=fun i=>cv d (n+i)*bb i) fun i _=>by rw[zV fun j _=>by grind]; grind] at h1
 rw[zu (g:=fun i=>-(cv d (n+i)*bb i)) fun i _=>by grind,nO]
 grind
theorem Ek {d:zn} (h:Same d (dG n m A bb gg) (n+m)) {j:Nat} (hj:j<n):zg m (fun i=>-cv d (n+i)*A i j)=gg j-cv d j:=by
 have h1:=Nx h fun k=>if k=j then 1 else 0
 have h2:=KV h
 rw[xP hj fun i _ hne=>by rw[if_neg hne]; grind,xP (f:=fun k=>cv d k*if k=j then 1 else 0) hj fun i _ hne=>by rw[if_neg hne]; grind,
  zu (n:=m) (g:=fun i=>-(-cv d (n+i)*bb i)+-cv d (n+i)*A i j) fun i _=>by
   rw[xP hj fun l _ hne=>by rw[if_neg hne]; grind]
   rw[if_pos rfl]; grind,Z0,nO] at h1
 simp only[if_true] at h1
 grind
theorem mF {d:zn} {N:Nat} (_hb:Bij d N) (hf:feas d) (k:Nat):0≤vl d k:=by
 refine vv fun i hi=>?_
 split
 ·exact hf i hi
 ·grind
theorem jr {d:zn} (hc:∀ j,j<d.c→d.cst j≤0) (k:Nat):cv d k≤0:=by
 have:0≤zg d.c fun j=>-(if d.fre j=k then d.cst j else 0):=vv fun j hj=>by
  split
  ·have:=hc j hj; grind
  ·grind
 rw[nO] at this
 unfold cv
 grind
theorem cz {x:Nat→Rat} (h:sol (dG n m A bb gg) x) (hx:∀ k,0≤x k) {i:Nat} (hi:i<m):zg n (fun j=>A i j*x j)≤bb i:=by
 have:=Xo h hi
 have:=hx (n+i)
 grind
structure Opt (n m:Nat) (A:Nat→Nat→Rat) (bb gg:Nat→Rat) (x y:Nat→Rat) (v:Rat):Prop where
 x0:∀ k,0≤x k
 row:∀ i,i<m→zg n (fun j=>A i j*x j)≤bb i
 y0:∀ i,0≤y i
 col:∀ j,j<n→gg j≤zg m (fun i=>y i*A i j)
 vx:zg n (fun j=>gg j*x j)=v
 vy:zg m (fun i=>y i*bb i)=v
theorem abm {d:zn} (h:Same d (dG n m A bb gg) (n+m)) (hf:feas d) (hc:∀ j,j<d.c→d.cst j≤0):Opt n m A bb gg (vl d) (fun i=>-cv d (n+i)) d.v:=by
 have s1:=(h.sol _).1 (k8 h.bd)
 refine ⟨mF h.bd hf,fun i hi=>cz s1 (mF h.bd hf) hi,fun i=>by have:=jr hc (n+i); grind,fun j hj=>?_,?_,KV h⟩
 ·rw[Ek h hj]; have:=jr hc j; grind
 ·have:=h.obj _ (k8 h.bd)
  rw[cW h.bd,Y4] at this
  exact this.symm
def j5 (d:zn) (q k:Nat):Rat:=zg d.r (fun i=>if d.bas i=k then-d.a i q else 0)+(if d.fre q=k then 1 else 0)
theorem bR {d:zn} {q k:Nat}:j5 d q k=ptq d q 1 k-ptq d q 0 k:=by
 unfold j5 ptq
 rw[zu (g:=fun i=>(if d.bas i=k then d.b i-d.a i q*1 else 0)-(if d.bas i=k then d.b i-d.a i q*0 else 0)) fun i _=>by split<;>grind,sV]
 split<;>grind
structure Unb (n m:Nat) (A:Nat→Nat→Rat) (bb gg:Nat→Rat) (x ray:Nat→Rat):Prop where
 x0:∀ k,0≤x k
 row:∀ i,i<m→zg n (fun j=>A i j*x j)≤bb i
 r0:∀ k,0≤ray k
 rr:∀ i,i<m→zg n (fun j=>A i j*ray j)≤0
 up:0<zg n (fun j=>gg j*ray j)
theorem abW {d:zn} (h:Same d (dG n m A bb gg) (n+m)) (hf:feas d) {q:Nat} (hq:q<d.c) (hc:0<d.cst q) (ha:∀ i,i<d.r→d.a i q≤0):Unb n m A bb gg (vl d) (j5 d q):=by
 have s0:=(h.sol _).1 (k8 h.bd)
 have s1:=(h.sol _).1 (rB h.bd hq (y:=1))
 have s2:=(h.sol _).1 (rB h.bd hq (y:=0))
 have r0:∀ k,0≤j5 d q k:=fun k=>by
  unfold j5
  have:0≤zg d.r (fun i=>if d.bas i=k then-d.a i q else 0):=vv fun i hi=>by
   split
   ·have:=ha i hi; grind
   ·grind
  split<;>grind
 refine ⟨mF h.bd hf,fun i hi=>cz s0 (mF h.bd hf) hi,r0,fun i hi=>?_,?_⟩
 ·have e1:=Xo s1 hi
  have e2:=Xo s2 hi
  have e3:=r0 (n+i)
  rw[bR,e1,e2] at e3
  rw[zu (g:=fun j=>A i j*ptq d q 1 j-A i j*ptq d q 0 j) fun j _=>by rw[bR]; grind,sV]
  grind
 ·have e1:=h.obj _ (rB h.bd hq (y:=1))
  have e2:=h.obj _ (rB h.bd hq (y:=0))
  rw[bL h.bd hq,Y4] at e1 e2
  rw[zu (g:=fun j=>gg j*ptq d q 1 j-gg j*ptq d q 0 j) fun j _=>by rw[bR]; grind,sV]
  grind
theorem abF {x:Nat→Rat} (h:sol (dA n m A bb) x) {i:Nat} (hi:i<m):x (n+i)=bb i-zg n (fun j=>A i j*x j)+x (n+m):=by
 have:=h i hi
 simp only[dA,zg] at this
 rw[if_neg (Nat.lt_irrefl n),if_neg (Nat.lt_irrefl n),zu (n:=n) (g:=fun j=>A i j*x j) fun j hj=>by rw[if_pos hj,if_pos hj]] at this
 grind
theorem Ux {x:Nat→Rat} (h:∀ i,i<m→x (n+i)=bb i-zg n (fun j=>A i j*x j)+x (n+m)):sol (dA n m A bb) x:=by
 intro i hi
 have:=h i hi
 simp only[dA,zg]
 rw[if_neg (Nat.lt_irrefl n),if_neg (Nat.lt_irrefl n),zu (n:=n) (g:=fun j=>A i j*x j) fun j hj=>by rw[if_pos hj,if_pos hj]]
 grind
theorem JT {x:Nat→Rat}:obj (dA n m A bb) x=- x (n+m):=by
 simp only[obj,dA,zg]
 rw[if_neg (Nat.lt_irrefl n),if_neg (Nat.lt_irrefl n),zV fun j hj=>by rw[if_pos hj]; grind]
 grind
structure Inf (n m:Nat) (A:Nat→Nat→Rat) (bb:Nat→Rat) (y:Nat→Rat):Prop where
 y0:∀ i,0≤y i
 col:∀ j,j<n→0≤zg m (fun i=>y i*A i j)
 vy:zg m (fun i=>y i*bb i)<0
theorem abd {d:zn} (h:Same d (dA n m A bb) (n+m+1)) (hc:∀ j,j<d.c→d.cst j≤0) (hv:d.v<0):Inf n m A bb (fun i=>-cv d (n+i)):=by
 have key:∀ u:Nat→Rat,0=d.v+zg n (fun k=>cv d k*u k)+zg m (fun i=>cv d (n+i)*(bb i-zg n fun j=>A i j*u j)):=fun u=>by
  have hx:∀ i,i<m→(fun k=>if k=n+m then 0 else xu n A bb u k) (n+i)=bb i-zg n (fun j=>A i j*(fun k=>if k=n+m then 0 else xu n A bb u k) j)+(fun k=>if k=n+m then 0 else xu n A bb u k) (n+m):=fun i hi=>by
   simp only[if_true]
   rw[if_neg (by omega),SA,zu (n:=n) (f:=fun j=>A i j*if j=n+m then 0 else xu n A bb u j) (g:=fun j=>A i j*u j) fun j hj=>by rw[if_neg (by omega),XI hj]]
   grind
  have h1:=h.obj _ ((h.sol _).2 (Ux (x:=fun k=>if k=n+m then 0 else xu n A bb u k) hx))
  rw[JT,R2 h.bd] at h1
  simp only[zg,if_true] at h1
  rw[agQ,zu (n:=n) (f:=fun k=>cv d k*if k=n+m then 0 else xu n A bb u k) (g:=fun k=>cv d k*u k) fun j hj=>by rw[if_neg (by omega),XI hj],
   zu (n:=m) (g:=fun i=>cv d (n+i)*(bb i-zg n fun j=>A i j*u j)) fun i hi=>by rw[if_neg (by omega),SA]] at h1
  grind
 have hvy:zg m (fun i=>-cv d (n+i)*bb i)=d.v:=by
  have h1:=key fun _=>0
  rw[zV (n:=n) (f:=fun k=>cv d k*0) fun j _=>by grind,
   zu (n:=m) (g:=fun i=>cv d (n+i)*bb i) fun i _=>by rw[zV fun j _=>by grind]; grind] at h1
  rw[zu (g:=fun i=>-(cv d (n+i)*bb i)) fun i _=>by grind,nO]
  grind
 refine ⟨fun i=>by have:=jr hc (n+i); grind,fun j hj=>?_,by rw[hvy]; exact hv⟩
 have h1:=key fun k=>if k=j then 1 else 0
 rw[xP (f:=fun k=>cv d k*if k=j then 1 else 0) hj fun i _ hne=>by rw[if_neg hne]; grind,
  zu (n:=m) (g:=fun i=>-(-cv d (n+i)*bb i)+-cv d (n+i)*A i j) fun i _=>by
   rw[xP hj fun l _ hne=>by rw[if_neg hne]; grind]
   rw[if_pos rfl]; grind,Z0,nO] at h1
 simp only[if_true] at h1
 have:=jr hc j
 grind
theorem wB {x y:Nat→Rat} (hx:∀ j,j<n→0≤x j) (hr:∀ i,i<m→zg n (fun j=>A i j*x j)≤bb i) (hy:∀ i,i<m→0≤y i) (hc:∀ j,j<n→gg j≤zg m (fun i=>y i*A i j)) :
  zg n (fun j=>gg j*x j)≤zg m (fun i=>y i*bb i):=by
 have h1:zg n (fun j=>gg j*x j)≤zg n (fun j=>zg m (fun i=>y i*A i j)*x j):=lG fun j hj=>by
  have:=Rat.mul_nonneg (show 0≤zg m (fun i=>y i*A i j)-gg j by have:=hc j hj; grind) (hx j hj)
  grind
 have h2:zg m (fun i=>y i*zg n (fun j=>A i j*x j))≤zg m (fun i=>y i*bb i):=lG fun i hi=>by
  have:=Rat.mul_nonneg (hy i hi) (show 0≤bb i-zg n (fun j=>A i j*x j) by have:=hr i hi; grind)
  grind
 have h3:zg n (fun j=>zg m (fun i=>y i*A i j)*x j)=zg m (fun i=>y i*zg n (fun j=>A i j*x j)):=by
  rw[zu (n:=n) (g:=fun j=>zg m (fun i=>y i*A i j*x j)) fun j _=>by rw[cN],TM]
  exact zu fun i _=>by rw[← eJ]; exact zu fun j _=>by grind
 grind
end
end Go.LP

namespace Go.Proofs.Ytbgnkodhpbkdoaa
open Go Go.Am Go.Dig Go.LP
theorem Jx {K x:Nat} (h:x≤2^K):(zf x).length≤K/32+1:=zJ.2 (by
 have:B^(K/32+1)=2^(32*(K/32+1)):=by rw[show B=2^32 from rfl,← Nat.pow_mul]
 rw[this]
 exact Nat.lt_of_le_of_lt h (Nat.pow_lt_pow_right (by omega) (by omega)))
theorem wW {K:Nat} {q:Rat} (h:sz K q):(zf q.num.natAbs).length≤K/32+1∧(zf q.den).length≤K/32+1:=⟨Jx h.1,Jx h.2⟩
theorem abB (s:Bool) (N:Nat):sg (!s) N=-sg s N:=by cases s<;>simp[sg]
theorem Zp (q:Rat):mkRat (sg (decide (q.num<0)) q.num.natAbs) q.den=q:=by rw[mD,Rat.mkRat_self]
theorem B0 (q:Rat):xr (!decide (q.num<0)) q.num.natAbs q.den=yw (-q):=by
 rw[sD q.den_nz,abB,← Rat.neg_mkRat,Zp]
theorem Bw (p q:Rat) (h:q≠0):xr (!(decide (p.num<0) == decide (q.num<0))) (p.num.natAbs*q.den) (p.den*q.num.natAbs)=yw (p/q):=by
 have hq:q.num.natAbs≠0:=fun e=>h (Rat.num_eq_zero.1 (by omega))
 have hd:p.den*q.num.natAbs≠0:=Nat.mul_ne_zero p.den_nz hq
 rw[sD hd]
 congr 1
 have e1:=mD p.num
 have e2:=mD q.num
 have e3:=Zp p
 have e4:=Zp q
 have hx:p/q=mkRat (sg (decide (p.num<0)) p.num.natAbs) p.den*(Rat.divInt (q.den:Int) (sg (decide (q.num<0)) q.num.natAbs)):=by
  rw[e3,e2,Rat.div_def,Rat.inv_def]
 rw[hx]
 generalize p.num.natAbs=x at *
 generalize q.num.natAbs=y at *
 generalize decide (p.num<0)=s at *
 generalize decide (q.num<0)=t at *
 have hy:(y:Int)≠0:=by omega
 cases t
 ·have:Rat.divInt (q.den:Int) (sg false y)=mkRat q.den y:=rfl
  rw[this,Rat.mkRat_mul_mkRat]
  congr 1
  cases s<;>simp[sg,Int.neg_mul]
 ·have:Rat.divInt (q.den:Int) (sg true y)=mkRat (-q.den) y:=by
   rw[show sg true y=-(y:Int) from rfl,Rat.divInt_neg']; rfl
  rw[this,Rat.mkRat_mul_mkRat]
  congr 1
  cases s<;>simp[sg,Int.neg_mul,Int.mul_neg]
section
variable {K:Nat} {p q:Rat} (hK:K≤137438953472) (hp:sz K p) (hq:sz K q)
include hK hp
theorem RT:zc Try.prog qy [yw p] (yw (-p)):=by
 have h1:=wW hp
 rw[← B0]
 exact JS (by omega) (by omega) p.den_nz
include hq
theorem ES:zc Try.prog w8 [yw p,yw q] (yw (p*q)):=by
 have h1:=wW hp
 have h2:=wW hq
 rw[← NV]
 exact Lc (by omega) (by omega) (by omega) (by omega) p.den_nz q.den_nz
theorem SF:zc Try.prog uq [yw p,yw q] (yw (p+q)):=by
 have h1:=wW hp
 have h2:=wW hq
 rw[← P5]
 exact Ms (by omega) (by omega) (by omega) (by omega) p.den_nz q.den_nz
theorem Ch:zc Try.prog qz [yw p,yw q] (yw (p-q)):=by
 have k1:=RT hK hq
 have k2:=SF hK hp (sW hq)
 rw[Rat.sub_eq_add_neg]
 obtain ⟨a,ha⟩:∃ a,a=p+-q:=⟨_,rfl⟩
 obtain ⟨b,hb⟩:∃ b,b=-q:=⟨_,rfl⟩
 rw[← ha] at k2 ⊢
 rw[← hb] at k1 k2
 refine zG A8 (by simp) ?_
 simp[Nc]
 refine za k1 (by simp) (by simp) ?_
 simp
 refine za k2 (by simp) (by simp) ?_
 simp[N4]
end
def wa (p q:Rat):Int:=if p<q then -1 else if q<p then 1 else 0
def xm (q:Rat):Int:=if q=0 then 0 else if q<0 then -1 else 1
theorem mc {q:Rat}:q.num<0↔q<0:=by
 have:=Rat.lt_iff q 0
 simpa using this.symm
theorem Bj (p q:Rat):wa p q=if p.num*q.den<q.num*p.den then -1 else if q.num*p.den<p.num*q.den then 1 else 0:=by
 unfold wa
 simp only[Rat.lt_iff]
theorem Bk (p q:Rat):(if decide (p.num<0)=decide (q.num<0) then (if decide (p.num<0)=true then yW (q.num.natAbs*p.den) (p.num.natAbs*q.den) else yW (p.num.natAbs*q.den) (q.num.natAbs*p.den))
  else if decide (p.num<0)=true then -1 else 1)=wa p q:=by
 have d1:(0:Int)<p.den:=by have:=p.den_pos; omega
 have d2:(0:Int)<q.den:=by have:=q.den_pos; omega
 rw[Bj]
 unfold yW
 have a1:((p.num.natAbs*q.den:Nat):Int)=(p.num.natAbs:Int)*q.den:=Int.natCast_mul _ _
 have a2:((q.num.natAbs*p.den:Nat):Int)=(q.num.natAbs:Int)*p.den:=Int.natCast_mul _ _
 by_cases h1:p.num<0<;>by_cases h2:q.num<0
 ·have e1:(p.num.natAbs:Int)=-p.num:=by omega
  have e2:(q.num.natAbs:Int)=-q.num:=by omega
  rw[e1,Int.neg_mul] at a1
  rw[e2,Int.neg_mul] at a2
  simp only[h1,h2,if_true,decide_true]
  generalize p.num*q.den=x at *
  generalize q.num*p.den=y at *
  repeat' split
  all_goals first | rfl | omega
 ·have m1:p.num*q.den<0:=Int.mul_neg_of_neg_of_pos h1 d2
  have m2:0≤q.num*p.den:=Int.mul_nonneg (by omega) (by omega)
  simp only[h1,h2,decide_true,decide_false,Bool.true_eq_false,if_false,if_true]
  rw[if_pos (by omega)]
 ·have m1:0≤p.num*q.den:=Int.mul_nonneg (by omega) (by omega)
  have m2:q.num*p.den<0:=Int.mul_neg_of_neg_of_pos h2 d1
  simp only[h1,h2,decide_true,decide_false,Bool.false_eq_true,if_false]
  rw[if_neg (by omega),if_pos (by omega)]
 ·have e1:(p.num.natAbs:Int)=p.num:=by omega
  have e2:(q.num.natAbs:Int)=q.num:=by omega
  rw[e1] at a1
  rw[e2] at a2
  simp only[h1,h2,decide_false,if_true,Bool.false_eq_true,if_false]
  generalize p.num*q.den=x at *
  generalize q.num*p.den=y at *
  repeat' split
  all_goals first | rfl | omega
theorem GD {q:Rat}:zc Try.prog wE [yw q] (iv (xm q)):=by
 unfold xm yw
 refine zG Cj (by simp) ?_
 by_cases h0:q=0
 ·subst h0
  simp[gX,f9,yt]
 ·have hn:q.num.natAbs≠0:=fun e=>h0 (Rat.num_eq_zero.1 (by omega))
  have hl0:¬ zf q.num.natAbs=[]:=by rw[yH]; exact hn
  have hl:¬ (zf q.num.natAbs).length=0:=by rw[List.length_eq_zero_iff]; exact hl0
  have hli:¬ ((zf q.num.natAbs).length:Int)=0:=by omega
  by_cases h1:q<0
  ·have h2:=mc.2 h1
   simp[gX,f9,h0,h1,hl,h2]
  ·have h2:¬ q.num<0:=fun h=>h1 (mc.1 h)
   simp[gX,f9,h0,h1,hl,h2]
theorem F4 {K:Nat} {p q:Rat} (hK:K≤137438953472) (hp:sz K p) (hq:sz K q):zc Try.prog tD [yw p,yw q] (iv (wa p q)):=by
 have h1:=wW hp
 have h2:=wW hq
 rw[← Bk]
 have l1:=va h1.1 h2.2
 have l2:=va h2.1 h1.2
 have kx:=aE (s:=decide (p.num<0)) (t:=decide (q.num<0)) (N:=p.num.natAbs) (D:=p.den) (M:=q.num.natAbs) (E:=q.den) (by omega) (by omega) (by omega) (by omega)
 have k1:=ml (m1:=.plain) (m2:=.plain) (zq (p.num.natAbs*q.den)) (zq (q.num.natAbs*p.den)) (by omega) (by omega)
 have k2:=ml (m1:=.plain) (m2:=.plain) (zq (q.num.natAbs*p.den)) (zq (p.num.natAbs*q.den)) (by omega) (by omega)
 simp only[zL] at k1 k2
 unfold yw
 generalize p.num.natAbs*q.den=x at *
 generalize q.num.natAbs*p.den=y at *
 generalize decide (p.num<0)=s at *
 generalize decide (q.num<0)=t at *
 refine zG A4 (by simp) ?_
 by_cases hst:s=t
 ·have e:(s == t)=true:=by simp[hst]
  rw[if_pos hst]
  simp[XU,xD vB,e]
  refine za kx (by simp) (by simp) ?_
  cases s
  ·simp
   refine za k1 (by simp) (by simp) ?_
   simp[bN]
  ·simp
   refine za k2 (by simp) (by simp) ?_
   simp[bN]
 ·have e:(s == t)=false:=by simp[hst]
  rw[if_neg hst]
  cases s<;>simp[XU,xD vB,e,bN]
def vfr (s:Bool) (a c:List Nat):Bool :=
 decide (a=zf (val a))&&decide (c=zf (val c))&&!decide (c=[])&&!(s&&decide (a=[]))&&(Nat.gcd (val a) (val c) == 1)
theorem Cv (q:Rat):vfr (decide (q.num<0)) (zf q.num.natAbs) (zf q.den)=true:=by
 have h1:¬ q.den=0:=q.den_nz
 have h2:Nat.gcd q.num.natAbs q.den=1:=q.reduced
 have h3:¬ (q.num<0∧q.num.natAbs=0):=by omega
 simp only[vfr,zL,yH,h1,h2,beq_self_eq_true,decide_true,Bool.true_and,Bool.and_true,decide_false,Bool.not_false,Bool.not_eq_true',Bool.and_eq_false_iff,decide_eq_false_iff_not]
 by_cases hn:q.num<0
 ·right; omega
 ·left; exact hn
theorem aax {s:Bool} {a c:List Nat} (h:vfr s a c=true):∃ q:Rat,s=decide (q.num<0)∧a=zf q.num.natAbs∧c=zf q.den:=by
 simp only[vfr,Bool.and_eq_true,beq_iff_eq,decide_eq_true_eq,Bool.not_eq_true',decide_eq_false_iff_not,Bool.and_eq_false_iff] at h
 obtain ⟨⟨⟨⟨h1,h2⟩,h3⟩,h4⟩,h5⟩:=h
 have hc:val c≠0:=fun e=>h3 (by rw[h2,e,yt])
 have hs:(sg s (val a)).natAbs=val a:=by unfold sg; split<;>omega
 refine ⟨⟨sg s (val a),val c,hc,by rw[hs]; exact h5⟩,?_,?_,h2⟩
 ·show s=decide (sg s (val a)<0)
  cases s
  ·simp[sg]
  ·have:val a≠0:=fun e=>by
    rcases h4 with h4 | h4
    ·cases h4
    ·exact h4 (by rw[h1,e,yt])
   simp[sg]; omega
 ·show a=zf (sg s (val a)).natAbs
  rw[hs]; exact h1
theorem aaX {ox oy:Operand} {s b:Bool} {K:AV→Option zb→Prop} :
  yi Try.prog .eql vZ ox oy [.agg [bv s,bv b],.agg [bv true,bv true]] K=K (bv (s&&b)) none:=by
 rw[Rc Zv Zs Ze (xs:=[.bool s,.bool b]) (ys:=[.bool true,.bool true]) rfl rfl rfl rfl]
 cases s<;>cases b<;>rfl
theorem Ke {s:Bool} {a c:List Nat} {m1 m2:Am.Mode} (ha:ok a) (hc:ok c) (hna:a.length<17179869184) (hnc:c.length<17179869184) (f1:stm m1=m1) (f2:stm m2=m2) :
  zc Try.prog t6 [.agg [bv s,nl m1 a,nl m2 c]] (bv (vfr s a c)):=by
 have k1:=Za (m:=m1) ha (by omega)
 have k2:=Za (m:=m2) hc (by omega)
 have kg:=Tg (m1:=m1) (m2:=m2) ha hc (by omega) (by omega) f1 f2
 have kf:=rp (x:=1) (by decide)
 have hvc:c≠[]→c=zf (val c)→val c≠0:=fun h e h0=>h (by rw[e,h0,yt])
 have hgl:c≠[]→c=zf (val c)→(zf (Nat.gcd (val a) (val c))).length<17179869184:=fun h e=>by
  have h1:val c<B^c.length:=by
   have:=zJ (x:=val c) (n:=c.length)
   rw[← this,← e]; exact Nat.le_refl _
  exact Nat.lt_of_le_of_lt (zJ.2 (Nat.lt_of_le_of_lt (Nat.gcd_le_right _ (Nat.pos_of_ne_zero (hvc h e))) h1)) hnc
 have kc:(zf (Nat.gcd (val a) (val c))).length<17179869184→zc Try.prog qB [nD (Nat.gcd (val a) (val c)),nD 1] (iv (yW (Nat.gcd (val a) (val c)) 1)):=fun h=>by
  have:=ml (m1:=.plain) (m2:=.plain) (zq (Nat.gcd (val a) (val c))) (zq 1) (by omega) (by rw[show zf 1=[1] by decide +kernel]; decide)
  simp only[zL] at this
  exact this
 unfold vfr
 generalize Nat.gcd (val a) (val c)=g at *
 generalize val a=x at *
 generalize hy:val c=y at *
 have hkk:zc Try.prog gQ [.agg [bv s,nl m1 a,nl m2 c]] (.agg [bv s,bv (decide (a=[]))]):=by
  refine zG Ka (by simp) ?_
  simp[Yi,Xa]
 have hcl:c=[]→c.length=0:=fun h=>by rw[h]; rfl
 have hcl':c≠[]→¬ c.length=0:=fun h h'=>h (List.length_eq_zero_iff.1 h')
 generalize d1:decide (a=zf x)=b1 at *
 generalize d2:decide (c=zf y)=b2 at *
 refine zG Fc (by simp) ?_
 simp[UY]
 refine za k1 (by simp[f1]) (by simp) ?_
 cases b1
 ·simp[mw]
 simp
 refine za k2 (by simp[f2]) (by simp) ?_
 cases b2
 ·simp[mw]
 by_cases e3:c=[]
 ·simp[e3,mw]
 simp[e3]
 refine za hkk (by simp[f1,f2]) (by simp) ?_
 have hg:=hgl e3 (of_decide_eq_true d2)
 have hfin:decide (yW g 1=0)=(g == 1):=by
  have h2:yW g 1=0↔g=1:=by unfold yW; split<;>(try split)<;>omega
  simp only[h2]
  by_cases h1:g=1<;>simp[h1]
 generalize decide (a=[])=z at *
 cases s<;>cases z
 all_goals simp[aaX,mw]
 all_goals
  refine za kg (by simp[f1,f2]) (by simp) ?_
  simp
  refine za kf (by simp) (by simp) ?_
  simp
  refine za (kc hg) (by simp) (by simp) ?_
  simp[← hfin]
abbrev E1:AV:=.list 0 .full []
theorem dY {sz:Nat} {m:Am.Mode} {rows:List (List AV)} (h:stm m=m):AV.imp (.list sz m rows) (.list sz .plain rows):=by
 cases m with
 | plain=>exact AV.imp.refl
 | full=>exact x5
 | own l=>cases h
def ag8 (xs ys:List AV):Prop:=xs.length=ys.length∧∀ (i:Nat) x y,xs[i]?=some x→ys[i]?=some y→AV.imp x y
theorem ny:ag8 [] []:=⟨rfl,fun i x y h=>by simp at h⟩
theorem yn {x y:AV} {xs ys:List AV} (h:AV.imp x y) (hs:ag8 xs ys):ag8 (x::xs) (y::ys) :=
 ⟨by simp[hs.1],fun i a b ha hb=>by
  cases i with
  | zero=>simp only[List.getElem?_cons_zero,Option.some.injEq] at ha hb; subst ha hb; exact h
  | succ i=>simp only[List.getElem?_cons_succ] at ha hb; exact hs.2 i a b ha hb⟩
theorem Jq {xs:List AV}:ag8 xs xs:=⟨rfl,fun i x y h h'=>by rw[h] at h'; cases h'; exact AV.imp.refl⟩
theorem rt {α:Type} {l:List α} {i:Nat} (h:i<l.length):l[i]?=some l[i]:=by simp[h]
theorem bu {xs ys:List AV} (h:ag8 xs ys):AV.imp (.agg xs) (.agg ys):=fun I w v hv=>by
 cases hv with
 | agg _ vs hs h1 hc =>
  refine .agg _ vs (by rw[hs,h.1]) h1 fun i c hi=>?_
  have:i<xs.length:=by rw[h.1]; exact (List.getElem?_eq_some_iff.1 hi).1
  exact h.2 i _ c (rt this) hi _ _ _ (hc i _ (rt this))
theorem aje {xs ys:List AV} (h:ag8 xs ys):AV.imp (.tuple xs) (.tuple ys):=fun I w v hv=>by
 cases hv with
 | tuple _ vs hs hc =>
  refine .tuple _ vs (by rw[hs,h.1]) fun i c hi=>?_
  have:i<xs.length:=by rw[h.1]; exact (List.getElem?_eq_some_iff.1 hi).1
  exact h.2 i _ c (rt this) hi _ _ _ (hc i _ (rt this))
def EJ (xs ys:List (List AV)):Prop:=xs.length=ys.length∧∀ (i:Nat) x y,xs[i]?=some x→ys[i]?=some y→ag8 x y
theorem EI {sz:Nat} {m:Am.Mode} {xs ys:List (List AV)} (hm:stm m=m) (h:EJ xs ys):AV.imp (.list sz m xs) (.list sz .plain ys):=fun I w v hv=>by
 have hv:=dY hm I w v hv
 cases hv with
 | listNil _ _ a cap _ _ =>
  have:ys=[]:=List.eq_nil_of_length_eq_zero (by rw[← h.1]; rfl)
  subst this
  exact .listNil _ _ _ _ (fun h=>by cases h) (fun _ h=>by cases h)
 | list _ _ _ b o cap g hcap hm' ho hrow hcell hc =>
  have get:∀ (i:Nat) r,ys[i]?=some r→∃ r0,xs[i]?=some r0∧ag8 r0 r:=fun i r hi=>by
   have:i<xs.length:=by rw[h.1]; exact (List.getElem?_eq_some_iff.1 hi).1
   exact ⟨xs[i],rt this,h.2 i _ r (rt this) hi⟩
  rw[h.1]
  refine .list _ _ _ b o cap g (by rw[← h.1]; exact hcap) (fun h=>by cases h) (fun _ h=>by cases h) (fun i r hi=>?_) (fun i r j c hi hj=>?_) fun i r j c hi hj=>?_
  ·obtain ⟨r0,h1,h2⟩:=get i r hi
   rw[← h2.1]; exact hrow i r0 h1
  ·obtain ⟨r0,h1,h2⟩:=get i r hi
   have hj0:j<r0.length:=by rw[h2.1]; exact (List.getElem?_eq_some_iff.1 hj).1
   exact hcell i r0 j _ h1 (rt hj0)
  ·obtain ⟨r0,h1,h2⟩:=get i r hi
   have hj0:j<r0.length:=by rw[h2.1]; exact (List.getElem?_eq_some_iff.1 hj).1
   exact h2.2 j _ c (rt hj0) hj _ _ _ (hc i r0 j _ h1 (rt hj0))
noncomputable def apc (tok sz:Nat) (rows:List (List AV)):AV:=if rows.length=0 then E1 else .list sz (.own tok) rows
noncomputable def plc (sz:Nat) (rows:List (List AV)):AV:=if rows.length=0 then E1 else .list sz .plain rows
section
variable {tok sz l k:Nat} {rows:List (List AV)}
theorem lr (h:rows.length=0):apc tok sz rows=E1:=if_pos h
theorem sf (h:¬ rows.length=0):apc tok sz rows=.list sz (.own tok) rows:=if_neg h
@[simp] theorem aeh:rf (apc tok sz rows)=true:=by unfold apc; split<;>rfl
@[simp] theorem ac0:strip (apc tok sz rows)=plc sz rows:=by unfold apc plc; split<;>rfl
@[simp] theorem ac1:cellsOf (apc tok sz rows)=some [apc tok sz rows]:=by unfold apc; split<;>rfl
@[simp] theorem D4 {σ:Nat→Option zb}:wu σ (apc tok sz rows)=some (plc sz rows):=by unfold apc plc; split<;>rfl
@[simp] theorem adm:zT k (apc tok sz rows)=false:=by unfold apc; split<;>rfl
theorem af0 (h:¬ tok=l):dg l (apc tok sz rows)=apc tok sz rows:=by
 unfold apc
 split
 ·simp
 ·simp only[dg]; rw[if_neg h]
@[simp] theorem ac2:cellsOf (plc sz rows)=some [plc sz rows]:=by unfold plc; split<;>rfl
@[simp] theorem aeT:rf (plc sz rows)=true:=by unfold plc; split<;>rfl
@[simp] theorem ade:strip (plc sz rows)=plc sz rows:=by unfold plc; split<;>rfl
@[simp] theorem aeS:dg l (plc sz rows)=plc sz rows:=by unfold plc; split<;>simp
@[simp] theorem adI:zT k (plc sz rows)=false:=by unfold plc; split<;>rfl
theorem Ur {rows':List (List AV)} (h:EJ rows rows'):AV.imp (plc sz rows) (.list sz .plain rows'):=by
 unfold plc
 split
 ·rename_i h0
  have:rows'=[]:=List.eq_nil_of_length_eq_zero (by rw[← h.1]; exact h0)
  subst this
  exact AV.imp_nil rfl
 ·exact EI rfl h
end
@[simp] theorem ac5 {tok sz:Nat} {rows:List (List AV)} {K:AV→Option zb→Prop}:nZ false K (apc tok sz rows)=K (.val (.int .i64 rows.length)) none:=by
 unfold apc; split
 ·rename_i h; rw[h]; simp[nZ]
 ·simp[nZ]
theorem aij {tok sz i:Nat} {rows:List (List AV)} {K:AV→Option zb→Prop} (h:i<rows.length):qL sz [apc tok sz rows,iv i] K=K (.ro rows[i]) none:=by
 have h0:¬ rows.length=0:=by omega
 rw[sf h0]
 have h1:(i:Int)<rows.length:=by omega
 simp[qL,h1,h]
theorem air {sz i:Nat} {m:Am.Mode} {rows:List (List AV)} {K:AV→Option zb→Prop} (h:i<rows.length):qL sz [.list sz m rows,iv i] K=K (.ro rows[i]) none:=by
 have h1:(i:Int)<rows.length:=by omega
 simp[qL,h1,h]
theorem afY {rows:List (List AV)}:EJ rows rows:=⟨rfl,fun i x y h h'=>by rw[h] at h'; cases h'; exact Jq⟩
theorem vM {f:FuncId} {xs ys:List AV} {r:AV} (h:zc Try.prog f ys r) (hi:ag8 xs ys):zc Try.prog f xs r:=fun I vs w h1 h2 h3 =>
 h I vs w h1 (by rw[h2,hi.1]) fun i y hy=>by
  have hx:i<xs.length:=by rw[hi.1]; exact (List.getElem?_eq_some_iff.1 hy).1
  exact hi.2 i _ y (rt hx) hy _ _ _ (h3 i _ (rt hx))
theorem ajW {a a':AV} (h:AV.imp a a'):ag8 [a] [a']:=yn h ny
theorem YI {a a' b b':AV} (h:AV.imp a a') (h2:AV.imp b b'):ag8 [a,b] [a',b']:=yn h (yn h2 ny)
theorem bz {a a' b b' c c':AV} (h:AV.imp a a') (h2:AV.imp b b') (h3:AV.imp c c'):ag8 [a,b,c] [a',b',c']:=yn h (yn h2 (yn h3 ny))
theorem EX (q:Rat):frA (!decide (q.num<0)&&decide (q.num.natAbs≠0)) q.num.natAbs q.den=yw (-q):=by
 unfold yw
 rw[Rat.neg_num,Rat.neg_den,Int.natAbs_neg]
 have:(!decide (q.num<0)&&decide (q.num.natAbs≠0))=decide (-q.num<0):=by
  by_cases h:q.num<0
  ·have h2:¬ -q.num<0:=by omega
   simp[h]; omega
  ·by_cases h0:q.num.natAbs=0
   ·have h2:¬ -q.num<0:=by omega
    simp[h0]; omega
   ·have h2:-q.num<0:=by omega
    simp[h,h0]; omega
 rw[this]
theorem Rp {n:Int} (h1:-9223372036854775808≤n) (h2:n<9223372036854775808):zc Try.prog f4 [iv n] (yw n):=by
 rw[← NI]; exact Pr h1 h2
theorem F3 (p q:Rat):xm (p-q)=wa p q:=by
 unfold xm wa
 by_cases h1:p<q
 ·have:¬ p-q=0:=by grind
  have h2:p-q<0:=by grind
  simp[h1,this,h2]
 ·by_cases h3:q<p
  ·have:¬ p-q=0:=by grind
   have h2:¬ p-q<0:=by grind
   simp[h1,h3,this,h2]
  ·have:p-q=0:=by grind
   simp[h1,h3,this]
theorem TH {q:Rat}:zc Try.prog qf [yw q] (iv (xm q)):=by
 unfold xm yw
 refine zG Cp (by simp) ?_
 by_cases h0:q=0
 ·subst h0
  simp[fb,ef,yt]
 ·have hn:q.num.natAbs≠0:=fun e=>h0 (Rat.num_eq_zero.1 (by omega))
  have hl0:¬ zf q.num.natAbs=[]:=by rw[yH]; exact hn
  have hl:¬ (zf q.num.natAbs).length=0:=by rw[List.length_eq_zero_iff]; exact hl0
  have hli:¬ ((zf q.num.natAbs).length:Int)=0:=by omega
  by_cases h1:q<0
  ·have h2:=mc.2 h1
   simp[fb,ef,h0,h1,h2]
  ·have h2:¬ q.num<0:=fun h=>h1 (mc.1 h)
   simp[fb,ef,h0,h1,hl,h2]
section
variable {K:Nat} {p q:Rat} (hK:K≤137438953472) (hp:sz K p) (hq:sz K q)
include hK hp
theorem EY:zc Try.prog c6 [yw p] (yw (-p)):=by
 have h1:=wW hp
 rw[← EX]
 exact B1 (by omega) (by omega)
include hq
theorem ET:zc Try.prog ll [yw p,yw q] (yw (p*q)):=by
 have h1:=wW hp
 have h2:=wW hq
 rw[← NV]
 exact ER (by omega) (by omega) (by omega) (by omega) p.den_nz q.den_nz
theorem SH:zc Try.prog s9 [yw p,yw q] (yw (p+q)):=by
 have h1:=wW hp
 have h2:=wW hq
 rw[← P5]
 exact FB (by omega) (by omega) (by omega) (by omega) p.den_nz q.den_nz
theorem QV:zc Try.prog gd [yw p,yw q] (yw (p-q)):=by
 have k1:=EY hK hq
 have k2:=SH hK hp (sW hq)
 rw[Rat.sub_eq_add_neg]
 obtain ⟨a,ha⟩:∃ a,a=p+-q:=⟨_,rfl⟩
 obtain ⟨b,hb⟩:∃ b,b=-q:=⟨_,rfl⟩
 rw[← ha] at k2 ⊢
 rw[← hb] at k1 k2
 refine zG aaj (by simp) ?_
 simp[Nl]
 refine za k1 (by simp) (by simp) ?_
 simp
 refine za k2 (by simp) (by simp) ?_
 simp[Ma]
theorem F5:zc Try.prog gc [yw p,yw q] (iv (wa p q)):=by
 have k1:=QV hK hp hq
 have k2:=TH (q:=p-q)
 rw[F3] at k2
 generalize wa p q=c at *
 obtain ⟨a,ha⟩:∃ a,a=p-q:=⟨_,rfl⟩
 rw[← ha] at k1 k2
 refine zG aaf (by simp) ?_
 simp[Ni]
 refine za k1 (by simp) (by simp) ?_
 simp
 refine za k2 (by simp) (by simp) ?_
 simp[N7]
end
theorem Zk:zf 1=[1]:=by decide +kernel
theorem Kf {s:Bool} {a c:List Nat} {m1 m2:Am.Mode} (ha:ok a) (hc:ok c) (hna:a.length<17179869184) (hnc:c.length<17179869184) (f1:stm m1=m1) (f2:stm m2=m2) :
  zc Try.prog jb [.agg [bv s,nl m1 a,nl m2 c]] (bv (vfr s a c)):=by
 have k1:=TQ (m:=m1) ha (by omega)
 have k2:=TQ (m:=m2) hc (by omega)
 have kg:a=zf (val a)→c=zf (val c)→zc Try.prog ge [nl m1 a,nl m2 c] (nD (Nat.gcd (val a) (val c))):=fun h1 h2=>by
  have:=NF (A:=val a) (D:=val c) (by rw[← h1]; omega) (by rw[← h2]; omega)
  unfold nD at this
  rw[← h1,← h2] at this
  exact kI (dX this (dY f1)) (dY f2)
 have ha0:a=[]→val a=0:=fun h=>by rw[h]; rfl
 have hc1:c=zf (val c)→((val c == 1)=decide (c=[1])):=fun h=>by
  by_cases h1:val c=1
  ·rw[h1,Zk] at h; rw[h1,decide_eq_true h]; rfl
  ·have:¬ c=[1]:=fun e=>h1 (by rw[e]; rfl)
   simp[h1,this]
 have hgd:∀ g,(g == 1)=decide (zf g=[1]):=fun g=>by
  by_cases h1:g=1
  ·subst h1; simp[Zk]
  ·have:¬ zf g=[1]:=fun e=>h1 (ft (by rw[e,Zk]))
   simp[h1,this]
 have hone:∀ l:List Nat,(decide (l=[1]))=(decide (l.length=1)&&decide (l[0]?=some 1)):=fun l=>by
  match l with
  | []=>rfl
  | [z]=>simp
  | _::_::_=>simp
 unfold vfr
 generalize hx:val a=x at *
 generalize hy:val c=y at *
 generalize hg:Nat.gcd x y=g at *
 have hcl':c≠[]→¬ c.length=0:=fun h h'=>h (List.length_eq_zero_iff.1 h')
 generalize d1:decide (a=zf x)=b1 at *
 generalize d2:decide (c=zf y)=b2 at *
 refine zG Fi (by simp) ?_
 simp[U3]
 refine za k1 (by simp[f1]) (by simp) ?_
 cases b1
 ·simp[wy]
 simp
 refine za k2 (by simp[f2]) (by simp) ?_
 cases b2
 ·simp[wy]
 by_cases e3:c=[]
 ·simp[e3,wy]
 by_cases e4:a=[]
 ·have hx0:=ha0 e4
  rw[hx0,Nat.gcd_zero_left] at hg
  have hg1:=hc1 (of_decide_eq_true d2)
  rw[hg] at hg1
  rw[hg1]
  match c,e3 with
  | [z],_ =>
   cases s
   ·by_cases hz:z=1
    ·subst hz; simp[e4,wy]
    ·have hz':¬ (z:Int)=1:=by omega
     simp[e4,hz,hz',wy]
   ·simp[e4,wy]
  | z::z2::l,_ =>
   have hl:¬ ((l.length:Int)+1+1=1):=by omega
   have hl2:¬ ((l.length:Int)+1+1=0):=by omega
   cases s<;>simp[e4,hl,hl2,wy]
 ·have kg':=kg (of_decide_eq_true d1) (of_decide_eq_true d2)
  rw[hgd g]
  have hl0:¬ (a.length:Int)=0:=by
   have:a.length≠0:=fun h=>e4 (List.length_eq_zero_iff.1 h)
   omega
  simp[e3,e4]
  refine za kg' (by simp[f1,f2]) (by simp) ?_
  match hl:zf g with
  | []=>simp[hl,wy]
  | [z] =>
   by_cases hz:z=1
   ·subst hz; simp[hl,wy]
   ·have hz':¬ (z:Int)=1:=by omega
    simp[hl,hz,hz',wy]
  | z::z2::l =>
   have hl2:¬ ((l.length:Int)+1+1=1):=by omega
   simp[hl,hl2,wy]
section
variable {K:Nat} {p q:Rat}
theorem sQ:zc Try.prog wE [fq q] (iv (xm q)):=by rw[← w9]; exact GD
theorem qS {n:Int} (h1:-9223372036854775808≤n) (h2:n<9223372036854775808):zc Try.prog f4 [iv n] (fq n):=by rw[← w9]; exact Rp h1 h2
theorem Qx:zc Try.prog qf [fq q] (iv (xm q)):=by rw[← w9]; exact TH
variable (hK:K≤137438953472) (hp:sz K p) (hq:sz K q)
include hK hp
theorem Sr:zc Try.prog qy [fq p] (fq (-p)):=by simp only[← w9]; exact RT hK hp
include hq
theorem lf:zc Try.prog w8 [fq p,fq q] (fq (p*q)):=by simp only[← w9]; exact ES hK hp hq
theorem ba:zc Try.prog uq [fq p,fq q] (fq (p+q)):=by simp only[← w9]; exact SF hK hp hq
theorem Xy:zc Try.prog qz [fq p,fq q] (fq (p-q)):=by simp only[← w9]; exact Ch hK hp hq
theorem CL:zc Try.prog ll [fq p,fq q] (fq (p*q)):=by simp only[← w9]; exact ET hK hp hq
theorem Sd:zc Try.prog s9 [fq p,fq q] (fq (p+q)):=by simp only[← w9]; exact SH hK hp hq
theorem acV:zc Try.prog gd [fq p,fq q] (fq (p-q)):=by simp only[← w9]; exact QV hK hp hq
theorem fk:zc Try.prog tD [fq p,fq q] (iv (wa p q)):=by simp only[← w9]; exact F4 hK hp hq
theorem Cy:zc Try.prog gc [fq p,fq q] (iv (wa p q)):=by simp only[← w9]; exact F5 hK hp hq
end
noncomputable def fZ (f:Nat→Rat) (k n:Nat):List (List AV):=(List.range n).map fun j=>if j<k then fr (f j) else zz
noncomputable def fR (f:Nat→Rat) (n:Nat):List (List AV):=(List.range n).map fun j=>fr (f j)
noncomputable abbrev fL (f:Nat→Rat) (n:Nat):AV:=.list 3 .plain (fR f n)
@[simp] theorem YF {f:Nat→Rat} {n:Nat}:(fR f n).length=n:=by simp[fR]
@[simp] theorem aa0 {f:Nat→Rat} {k n:Nat}:(fZ f k n).length=n:=by simp[fZ]
theorem YE {f:Nat→Rat} {n i:Nat} (h:i<n):(fR f n)[i]?=some (fr (f i)):=by simp[fR,h]
theorem Rh {f:Nat→Rat} {k n i:Nat} (h:i<n) (hk:i<k):(fZ f k n)[i]?=some (fr (f i)):=by simp[fZ,h,hk]
theorem X7 {f:Nat→Rat} {k n i:Nat} (h:i<n) (hk:¬ i<k):(fZ f k n)[i]?=some zz:=by simp[fZ,h,hk]
@[simp] theorem adT {f:Nat→Rat} {n i:Nat} {h:i<(fR f n).length}:(fR f n)[i]=fr (f i):=by simp[fR]
@[simp] theorem adV {f:Nat→Rat} {n k:Nat} {h:k<(fZ f k n).length}:(fZ f k n)[k]=zz:=by simp[fZ]
theorem yI {f g:Nat→Rat} {n:Nat} (h:∀ i,i<n→f i=g i):fR f n=fR g n:=by
 unfold fR
 exact List.map_congr_left fun i hi=>by rw[h i (by simpa using hi)]
theorem tu {f:Nat→Rat} {n i:Nat} {x:Rat}:(fR f n).set i (fr x)=fR (upd f i x) n:=by
 apply List.ext_getElem?
 intro j
 rw[List.getElem?_set]
 by_cases hij:i=j
 ·subst hij
  rw[if_pos rfl,YF]
  by_cases hi:i<n
  ·rw[if_pos hi,YE hi]; simp[upd]
  ·rw[if_neg hi]; simp[fR,hi]
 ·rw[if_neg hij]
  by_cases hj:j<n
  ·rw[YE hj,YE hj]; simp[upd,Ne.symm hij]
  ·simp[fR,hj]
theorem kD {f:Nat→Rat} {k n:Nat} (hk:k<n):(fZ f k n).set k (fr (f k))=fZ f (k+1) n:=by
 apply List.ext_getElem?
 intro j
 rw[List.getElem?_set]
 by_cases hij:k=j
 ·subst hij
  rw[if_pos rfl,aa0,if_pos hk,Rh hk (by omega)]
 ·rw[if_neg hij]
  by_cases hj:j<n
  ·by_cases hjk:j<k
   ·rw[Rh hj hjk,Rh hj (by omega)]
   ·rw[X7 hj hjk,X7 hj (by omega)]
  ·simp[fZ,hj]
theorem nn {f:Nat→Rat} {n:Nat}:List.replicate n zz=fZ f 0 n:=by
 apply List.ext_getElem?
 intro j
 by_cases h:j<n
 ·rw[X7 h (by omega)]; simp[h]
 ·simp[fZ,h]
theorem nk {f:Nat→Rat} {n:Nat}:fZ f n n=fR f n:=by
 unfold fZ fR
 exact List.map_congr_left fun i hi=>by rw[if_pos (by simpa using hi)]
theorem nj {f:Nat→Rat} {n:Nat}:fR f (n+1)=fR f n++[fr (f n)]:=by simp[fR,List.range_succ]
theorem K6 {f:Nat→Rat} {n:Nat} {g:List AV→Bool} (h:∀ q,g (fr q)=true):(fR f n).all g=true :=
 List.all_eq_true.2 fun r hr=>by
  obtain ⟨j,_,rfl⟩:=List.mem_map.1 hr
  exact h _
theorem YG {f:Nat→Rat} {n:Nat} {g:List AV→List AV} (h:∀ q,g (fr q)=fr q):(fR f n).map g=fR f n :=
 yK fun r hr=>by
  obtain ⟨j,_,rfl⟩:=List.mem_map.1 hr
  exact h _
@[simp] theorem ae9 {f:Nat→Rat} {n:Nat}:xB (fR f n)=true:=K6 fun _=>CD
@[simp] theorem afa {f:Nat→Rat} {n:Nat}:zQ (fR f n)=fR f n:=YG fun _=>Rm
@[simp] theorem ae8 {f:Nat→Rat} {n l:Nat}:zU l (fR f n)=fR f n:=YG fun _=>ack
@[simp] theorem aew {f:Nat→Rat} {n l:Nat} {e:zb}:((fR f n).map fun r=>r.map (frz l e))=fR f n:=YG fun _=>gy
@[simp] theorem CC {f:Nat→Rat} {n a b:Nat}:((fR f n).map fun r=>r.map (rn a b))=fR f n:=YG fun _=>Sj
@[simp] theorem aex {f:Nat→Rat} {n M:Nat}:((fR f n).all fun r=>r.all (Am.low M))=true:=K6 fun _=>aa4
theorem jP {k:Nat}:∀ {rows:List (List AV)},(∀ r∈rows,wM k r=false)→yN k rows=false
 | [],_=>rfl
 | r::rows,h=>by simp[yN,h r (by simp),jP (rows:=rows) fun r hr=>h r (by simp[hr])]
@[simp] theorem aez {f:Nat→Rat} {n k:Nat}:yN k (fR f n)=false:=jP fun r hr=>by
 obtain ⟨j,_,rfl⟩:=List.mem_map.1 hr
 exact aa5
@[simp] theorem aey {f:Nat→Rat} {n:Nat}:(fR f n=[])=(n=0):=by
 rw[← List.length_eq_zero_iff,YF]
@[simp] theorem adU {f:Nat→Rat} {n:Nat}:(fR f n).take n=fR f n:=List.take_of_length_le (by simp)
@[simp] theorem aev {f:Nat→Rat} {n k:Nat}:((fR f n).any fun r=>r.any (qw k))=false :=
 List.any_eq_false.2 fun r hr=>by
  obtain ⟨j,_,rfl⟩:=List.mem_map.1 hr
  simp
theorem vu {q:Rat}:xm q=0↔q=0:=by
 unfold xm; split
 ·simp[*]
 ·rename_i h; split<;>simp[h]
theorem ug {q:Rat}:xm q<0↔q<0:=by
 unfold xm; split
 ·rename_i h; subst h; simp
 ·split<;>simp[*]
theorem nM {q:Rat}:0<xm q↔0<q:=by
 unfold xm; split
 ·rename_i h; subst h; simp
 ·rename_i h
  split
  ·rename_i h2; simp; grind
  ·rename_i h2; simp; grind
theorem qJ {p q:Rat}:wa p q<0↔p<q:=by
 unfold wa; split
 ·simp[*]
 ·split<;>simp[*]
theorem nf {p q:Rat}:0<wa p q↔q<p:=by
 unfold wa; split
 ·simp; grind
 ·split<;>simp[*]
theorem aho {p q:Rat}:wa p q=0↔p=q:=by
 unfold wa; split
 ·simp; grind
 ·split
  ·simp; grind
  ·simp; grind
def mR (g:Nat→List AV) (n:Nat):List (List AV):=(List.range n).map g
section
variable {g h:Nat→List AV} {n i:Nat}
@[simp] theorem vP:(mR g n).length=n:=by simp[mR]
theorem tw (hi:i<n):(mR g n)[i]?=some (g i):=by simp[mR,hi]
@[simp] theorem ru {hi:i<(mR g n).length}:(mR g n)[i]=g i:=by simp[mR]
theorem wq (e:∀ i,i<n→g i=h i):mR g n=mR h n:=List.map_congr_left fun i hi=>e i (by simpa using hi)
theorem YX {x:List AV}:(mR g n).set i x=mR (upd g i x) n:=by
 apply List.ext_getElem?
 intro j
 rw[List.getElem?_set]
 by_cases hij:i=j
 ·subst hij
  rw[if_pos rfl,vP]
  by_cases hi:i<n
  ·rw[if_pos hi,tw hi]; simp[upd]
  ·rw[if_neg hi]; simp[mR,hi]
 ·rw[if_neg hij]
  by_cases hj:j<n
  ·rw[tw hj,tw hj]; simp[upd,Ne.symm hij]
  ·simp[mR,hj]
theorem bF:mR g (n+1)=mR g n++[g n]:=by simp[mR,List.range_succ]
theorem mr {f:List AV→Bool} (h:∀ i,f (g i)=true):(mR g n).all f=true :=
 List.all_eq_true.2 fun r hr=>by
  obtain ⟨j,_,rfl⟩:=List.mem_map.1 hr
  exact h _
theorem wS {f:List AV→List AV} (h:∀ i,f (g i)=g i):(mR g n).map f=mR g n :=
 yK fun r hr=>by
  obtain ⟨j,_,rfl⟩:=List.mem_map.1 hr
  exact h _
theorem gA {k:Nat} (h:∀ i,wM k (g i)=false):yN k (mR g n)=false:=jP fun r hr=>by
 obtain ⟨j,_,rfl⟩:=List.mem_map.1 hr
 exact h _
end
structure RF where
 s:Bool
 a:List Nat
 c:List Nat
def RF.fine (x:RF):Prop:=ok x.a∧ok x.c∧x.a.length<17179869184∧x.c.length<17179869184
def RF.v (x:RF):Bool:=vfr x.s x.a x.c
def RF.of (q:Rat):RF:=⟨decide (q.num<0),zf q.num.natAbs,zf q.den⟩
noncomputable def h0 (x:RF):AV:=Classical.choose (r8 (bv x.s))
noncomputable def h1 (x:RF):AV:=Classical.choose (r8 (nl .plain x.a))
noncomputable def h2 (x:RF):AV:=Classical.choose (r8 (nl .plain x.c))
theorem pF (x:RF):h0 x=bv x.s:=Classical.choose_spec (r8 _)
theorem pG (x:RF):h1 x=nl .plain x.a:=Classical.choose_spec (r8 _)
theorem pH (x:RF):h2 x=nl .plain x.c:=Classical.choose_spec (r8 _)
noncomputable def hr (x:RF):List AV:=[h0 x,h1 x,h2 x]
@[simp] theorem ad1 (x:RF):[h0 x,h1 x,h2 x]=hr x:=rfl
noncomputable abbrev hq (x:RF):AV:=.agg (hr x)
theorem Sk (q:Rat):h0 (RF.of q)=f0 q:=by rw[pF,n8]; rfl
theorem Sl (q:Rat):h1 (RF.of q)=f1 q:=by rw[pG,n9]; rfl
theorem Sm (q:Rat):h2 (RF.of q)=f2 q:=by rw[pH,ma]; rfl
theorem CG (q:Rat):hr (RF.of q)=fr q:=by unfold hr fr; rw[Sk,Sl,Sm]
theorem m6 (x:RF):hr x=[bv x.s,nl .plain x.a,nl .plain x.c]:=by unfold hr; rw[pF,pG,pH]
section
variable {x:RF} {l k a b M:Nat} {e:zb}
@[simp] theorem aff:rf (h0 x)=true:=by rw[pF]; rfl
@[simp] theorem adw:strip (h0 x)=h0 x:=by rw[pF]; rfl
@[simp] theorem afe:dg l (h0 x)=h0 x:=by rw[pF]; simp
@[simp] theorem aeB:frz l e (h0 x)=h0 x:=by rw[pF]; rfl
@[simp] theorem afg:rn a b (h0 x)=h0 x:=by rw[pF]; rfl
@[simp] theorem aeC:Am.low M (h0 x)=true:=by rw[pF]; rfl
@[simp] theorem adX:zT k (h0 x)=false:=by rw[pF]; rfl
@[simp] theorem aeD:qw k (h0 x)=false:=by rw[pF]; rfl
@[simp] theorem afi:rf (h1 x)=true:=by rw[pG]; rfl
@[simp] theorem adx:strip (h1 x)=h1 x:=by rw[pG]; rfl
@[simp] theorem afh:dg l (h1 x)=h1 x:=by rw[pG]; simp
@[simp] theorem aeE:frz l e (h1 x)=h1 x:=by rw[pG]; rfl
@[simp] theorem afj:rn a b (h1 x)=h1 x:=by rw[pG]; rfl
@[simp] theorem aeF:Am.low M (h1 x)=true:=by rw[pG]; rfl
@[simp] theorem adY:zT k (h1 x)=false:=by rw[pG]; rfl
@[simp] theorem aeG:qw k (h1 x)=false:=by rw[pG]; rfl
@[simp] theorem afl:rf (h2 x)=true:=by rw[pH]; rfl
@[simp] theorem ady:strip (h2 x)=h2 x:=by rw[pH]; rfl
@[simp] theorem afk:dg l (h2 x)=h2 x:=by rw[pH]; simp
@[simp] theorem aeH:frz l e (h2 x)=h2 x:=by rw[pH]; rfl
@[simp] theorem afm:rn a b (h2 x)=h2 x:=by rw[pH]; rfl
@[simp] theorem aeI:Am.low M (h2 x)=true:=by rw[pH]; rfl
@[simp] theorem adZ:zT k (h2 x)=false:=by rw[pH]; rfl
@[simp] theorem aeJ:qw k (h2 x)=false:=by rw[pH]; rfl
@[simp] theorem abb:(hr x).length=3:=by simp[m6]
@[simp] theorem aco:(hr x).all rf=true:=by rw[m6]; simp
@[simp] theorem EG:(hr x).map strip=hr x:=by rw[m6]; simp
@[simp] theorem afr:(hr x).map (dg l)=hr x:=by rw[m6]; simp
@[simp] theorem aeL:wM k (hr x)=false:=by rw[m6]; simp
@[simp] theorem ac7:zP (hr x) 0 (some 3)=some (hq x):=by rw[fG abb aco,EG]
@[simp] theorem ab2 {y:AV}:zP (y::hr x) 1 (some 3)=some (hq x):=by
 simp only[zP,hr,List.length_cons,List.length_nil,List.drop_succ_cons,List.drop_zero,List.take]
 simp
@[simp] theorem adg {y z w:AV}:splice [y,z,w] 0 (hr x)=hr x:=by rw[m6]; simp[splice]
end
theorem bt {x:RF} (h:x.fine):zc Try.prog t6 [hq x] (bv x.v):=by
 unfold hq; rw[m6]; exact Ke h.1 h.2.1 h.2.2.1 h.2.2.2 rfl rfl
theorem EE {x:RF} (h:x.fine):zc Try.prog jb [hq x] (bv x.v):=by
 unfold hq; rw[m6]; exact Kf h.1 h.2.1 h.2.2.1 h.2.2.2 rfl rfl
noncomputable def hR (f:Nat→RF) (n:Nat):List (List AV):=mR (fun j=>hr (f j)) n
noncomputable abbrev hL (f:Nat→RF) (n:Nat):AV:=.list 3 .plain (hR f n)
section
variable {f:Nat→RF} {n i k:Nat}
@[simp] theorem aeK:(hR f n).length=n:=vP
@[simp] theorem ad0 {hi:i<(hR f n).length}:(hR f n)[i]=hr (f i):=ru
@[simp] theorem afn:xB (hR f n)=true:=mr fun _=>by simp
@[simp] theorem afo:zQ (hR f n)=hR f n:=wS fun _=>by simp
theorem jx {g:Nat→Rat} (h:∀ j,j<n→f j=RF.of (g j)):hR f n=fR g n:=wq fun j hj=>by rw[h j hj,CG]
end
@[simp] theorem afH {x:RF}:(hr x)[0]?=some (h0 x):=rfl
@[simp] theorem afI {x:RF}:(hr x)[1]?=some (h1 x):=rfl
@[simp] theorem afJ {x:RF}:(hr x)[2]?=some (h2 x):=rfl
@[simp] theorem afp {x:RF} {h:1<(hr x).length}:(hr x)[1]=h1 x:=rfl
@[simp] theorem afq {x:RF} {h:2<(hr x).length}:(hr x)[2]=h2 x:=rfl
noncomputable def Xr (s t:Bool) (a c a' c':List Nat) (k:Nat):St :=
 {env:=[(2,.ptr 2 0),(3,.ptr 3 0),(5,iv k)],sto:=[(2,.var [bv s,nl .plain a,nl .plain c]),(3,.var [bv t,nl .plain a',nl .plain c'])]}
noncomputable def Xs (s t:Bool) (a c a' c':List Nat) (k:Nat):St :=
 {env:=[(2,.ptr 2 0),(3,.ptr 3 0),(6,iv k)],sto:=[(2,.var [bv s,nl .plain a,nl .plain c]),(3,.var [bv t,nl .plain a',nl .plain c'])]}
theorem YO {a b:List Nat} (hl:a.length=b.length) (h:∀ j,j<a.length→a[j]?=b[j]?):a=b:=by
 apply List.ext_getElem?
 intro j
 by_cases hj:j<a.length
 ·exact h j hj
 ·rw[List.getElem?_eq_none (by omega),List.getElem?_eq_none (by omega)]
theorem Qr {s t:Bool} {a c a' c':List Nat} (hn:a.length<4611686018427387904) (hm:c.length<4611686018427387904) :
  zc Try.prog qe [.agg [bv s,nl .plain a,nl .plain c],.agg [bv t,nl .plain a',nl .plain c']] (bv (decide (s=t∧a=a'∧c=c'))):=by
 refine zG Co (by simp) ?_
 by_cases e1:s=t
 rotate_left
 ·have e1':(s == t)=false:=by simp[e1]
  rw[decide_eq_false fun h=>e1 h.1]
  simp[lV,xD vB,e1',qu]
 subst e1
 by_cases e2:a.length=a'.length
 rotate_left
 ·have e2':¬ (a.length:Int)=a'.length:=by omega
  rw[decide_eq_false fun h=>e2 (by rw[h.2.1])]
  simp[lV,xD vB,e2',qu]
 have e2':(a.length:Int)=a'.length:=by omega
 by_cases e3:c.length=c'.length
 rotate_left
 ·have e3':¬ (c.length:Int)=c'.length:=by omega
  rw[decide_eq_false fun h=>e3 (by rw[h.2.2])]
  simp[lV,xD vB,e2,e3',qu]
 have e3':(c.length:Int)=c'.length:=by omega
 simp[lV,xD vB,e2,e3]
 refine zB (Xr s s a c a' c') (fun k=>∀ j,j<k→a[j]?=a'[j]?) a.length (by simp[Xr]) (fun j hj=>by omega) (fun k hk hI=>?_) (fun hI0=>?_)
 ·have e:(k:Int)<a.length:=by omega
  have w:=zC (k:=k) (by omega)
  have hk':k<a'.length:=by omega
  have e':(k:Int)<a'.length:=by omega
  by_cases h:a[k]=a'[k]
  ·have h':(a[k]:Int)=a'[k]:=by rw[h]
   simp[nV,Xr,e,hk,hk',e',h,w]
   intro j hj
   by_cases ej:j=k
   ·subst ej; simp[hk,hk',h]
   ·exact hI j (by omega)
  ·have h':¬ (a[k]:Int)=a'[k]:=by omega
   rw[decide_eq_false (p:=a=a') fun h2=>h (by simp only[h2])]
   simp[nV,Xr,e,hk,hk',e',h',qu]
 ·have hae:=YO e2 hI0
  subst hae
  simp[nV,Xr,aA]
  refine zB (Xs s s a c a c') (fun k=>∀ j,j<k→c[j]?=c'[j]?) c.length (by simp[Xs]) (fun j hj=>by omega) (fun k hk hI=>?_) (fun hI1=>?_)
  ·have e:(k:Int)<c.length:=by omega
   have w:=zC (k:=k) (by omega)
   have hk':k<c'.length:=by omega
   have e':(k:Int)<c'.length:=by omega
   by_cases h:c[k]=c'[k]
   ·have h':(c[k]:Int)=c'[k]:=by rw[h]
    simp[nW,Xs,e,hk,hk',e',h,w]
    intro j hj
    by_cases ej:j=k
    ·subst ej; simp[hk,hk',h]
    ·exact hI j (by omega)
   ·have h':¬ (c[k]:Int)=c'[k]:=by omega
    rw[decide_eq_false (p:=c=c') fun h2=>h (by simp only[h2])]
    simp[nW,Xs,e,hk,hk',e',h',qu]
  ·have hce:=YO e3 hI1
   subst hce
   simp[nW,Xs,az,qu]
theorem TF {p q:Rat}:(decide (p.num<0)=decide (q.num<0)∧zf p.num.natAbs=zf q.num.natAbs∧zf p.den=zf q.den)↔p=q:=by
 constructor
 ·rintro ⟨h1,h2,h3⟩
  have h2:=ft h2
  have h3:=ft h3
  have h1:=decide_eq_decide.1 h1
  exact Rat.ext (by omega) h3
 ·rintro rfl; exact ⟨rfl,rfl,rfl⟩
theorem aby {K:Nat} {p q:Rat} (hK:K≤137438953472) (hp:sz K p):zc Try.prog qe [fq p,fq q] (bv (decide (p=q))):=by
 obtain ⟨l1,l2⟩:=wW hp
 have h:=Qr (s:=decide (p.num<0)) (t:=decide (q.num<0)) (a:=zf p.num.natAbs) (c:=zf p.den) (a':=zf q.num.natAbs) (c':=zf q.den) (by omega) (by omega)
 unfold fq
 rw[tf,tf]
 rw[show decide (p=q)=decide (decide (p.num<0)=decide (q.num<0)∧zf p.num.natAbs=zf q.num.natAbs∧zf p.den=zf q.den) from decide_eq_decide.2 TF.symm]
 exact h
theorem G6 {L n:Nat} {f:Nat→Rat} (h:∀ i,i<n→sz L (f i)):sz (n*(L+1)) (zg n f):=by
 induction n with
 | zero=>exact y8
 | succ n ih =>
  have:=cP (ih fun i hi=>h i (by omega)) (h n (by omega))
  rw[Nat.succ_mul,← Nat.add_assoc]
  exact this
theorem qX {L n N:Nat} {f:Nat→Rat} (h:∀ i,i<n→sz L (f i)) (hn:n≤N):sz (N*(L+1)) (zg n f):=zM (G6 h) (Nat.mul_le_mul_right _ hn)
theorem XK:zc Try.prog f4 [iv 0] (fq 0):=qS (n:=0) (by decide) (by decide)
theorem qP {K:Nat} {q:Rat} (hK:K≤137438953472) (h:sz K q):(RF.of q).fine:=by
 obtain ⟨l1,l2⟩:=wW h
 exact ⟨zq _,zq _,by simp only[RF.of]; omega,by simp only[RF.of]; omega⟩
@[simp] theorem afE {q:Rat}:(fr q)[0]?=some (f0 q):=rfl
@[simp] theorem afb {q:Rat} {h:0<(fr q).length}:(fr q)[0]=f0 q:=rfl
@[simp] theorem afF {q:Rat}:(fr q)[1]?=some (f1 q):=rfl
@[simp] theorem afG {q:Rat}:(fr q)[2]?=some (f2 q):=rfl
@[simp] theorem afc {q:Rat} {h:1<(fr q).length}:(fr q)[1]=f1 q:=rfl
@[simp] theorem afd {q:Rat} {h:2<(fr q).length}:(fr q)[2]=f2 q:=rfl
theorem ahx (q:Rat):(RF.of q).v=true:=Cv q
theorem JK {q:Rat} {x:AV}:x∈fr q↔(x=f0 q∨x=f1 q∨x=f2 q):=by simp[fr,-qQ]
theorem afM {P:Program} {f:FuncId} {xs:List AV} {s:St} {dst:Option Nat} {K:St→Prop} (h:afN P f xs s fun r s'=>s'.base=s.base∧K (s'.put dst r)):uF P f xs s dst K:=h
def KZ (f:FuncId) (ds:List Nat) (s:St) (d:Option Nat) (K:St→Prop) (xs:List AV):Prop :=
 sE s.sto s.base ds∧∀ D:List Nat,afN Try.prog f xs {s with env:=del D s.env} fun r s'=>∃ A:St,s'={A with env:=del D A.env}∧A.base=s.base∧sE A.sto A.base ds∧K (A.put d r)
def aaW (f:FuncId) (xs:List Opd) (s:St) (d:Option Nat) (K:St→Prop):Prop :=
 ∀ D:List Nat,(∀ x∈xs,ev (s.mask D) x=ev s x)→afN Try.prog f (xs.map (ev s)) (s.mask D) fun r s'=>∃ A:St,s'=A.mask D∧A.base=s.base∧(∀ e,lk s.sto (s.base+e)=none→lk A.sto (s.base+e)=none)∧K (A.put d r)
@[simp] theorem ada {f:FuncId} {ds:List Nat} {xs:List Opd} {d:Option Nat} {os:List zi} {s:St} {KS:St→Prop} :
  zj Try.prog (⟨d,.callM f ds,xs,none⟩::os) s KS=(yM Try.prog f=true∧(KZ f ds s d (kP Try.prog os KS) (xs.map (ev s))∨aaW f xs s d (kP Try.prog os KS))):=propext Iff.rfl
theorem vO {M:Nat} {n:Int}:Am.low M (iv n)=true:=rfl
theorem uJ {M:Nat} {b:Bool}:Am.low M (bv b)=true:=rfl
theorem y7 {M k off:Nat}:Am.low M (.ptr k off)=decide (k<M):=rfl
theorem Pd {P:Program} {f:FuncId} {xs args:List AV} {s:St} {r:AV} {K:AV→St→Prop} (h:zc P f args r) (hs:yD (wu (lk s.sto)) xs=some args)
  (hp:xs.any sH=true→pf r=true) (hK:K r s):afN P f xs s K:=by
 intro F a w I β lam hI vs hv hR
 obtain ⟨hl,hg⟩:=fO hs
 have done:∀ (J:Nat→Nat→Prop),(∀ b o,J b o→b<w.heap.size)→(∀ i x,args[i]?=some x→R0 J w x (vs.getD i undef)) →
   (∀ (w':World) (v:Value),R0 (fun b o=>(J b o∨w.heap.size≤b)∧b<w'.heap.size) w' r v→w.heap.size≤w'.heap.size→R0 (fun b o=>I b o∨(w.heap.size≤b∧b<w'.heap.size)) w' r v) →
   Calls P f vs w fun e w'=>∃ v,e=.returned v∧∃ r s' I' β' lam',K r s'∧Inv F s'.look (lk s'.sto) I' β' lam' a w'∧R I' w' β' lam' r v:=by
  intro J hJ hJR hres
  refine Calls.mono (h J vs w hJ (by omega) hJR) fun e w' ⟨v,he,hb,hr⟩=>⟨v,he,r,s,fun b o=>I b o∨(w.heap.size≤b∧b<w'.heap.size),β,lam,hK,?_,.base (hres w' v hr hb.size)⟩
  exact hI.grow hb (fun _ _ h=>.inl h) (fun _ _ h=>h)
 by_cases href:xs.any sH=true
 ·refine done (Seen I β lam) (fun b o h=>?_) (fun i x hi=>?_) (fun w' v hr _=>CN hr (hp href))
  ·rcases h with h | h
   ·exact hI.Isub _ _ h
   ·rcases h with ⟨k,h⟩ | ⟨l,p,cap,sz,h,h0⟩
    ·exact (hI.bnew _ _ h).2.1
    ·exact hI.hlm _ _ _ _ _ h h0
  ·obtain ⟨x',hx',hsn⟩:=hg i x hi
   exact (lF hI.hread hI.usto hsn (hR i x' hx')).1
 ·refine done I hI.Isub (fun i x hi=>?_) (fun w' v hr hle=>hr.mono (fun b o hb=>?_) (fun _ _ _ _ h=>h))
  ·obtain ⟨x',hx',hsn⟩:=hg i x hi
   refine (lF hI.hread hI.usto hsn (hR i x' hx')).2 ?_
   have:=List.any_eq_false.1 (by simpa using href) x' (List.mem_iff_getElem?.2 ⟨i,hx'⟩)
   simpa using this
  ·rcases hb.1 with h | h
   ·exact .inl h
   ·exact .inr ⟨h,hb.2⟩
theorem Rd {f:FuncId} {ds:List Nat} {xs args:List AV} {s:St} {d:Option Nat} {r:AV} {K:St→Prop} {Q:Prop} (h:zc Try.prog f args r) (hf:sE s.sto s.base ds) (hs:yD (wu (lk s.sto)) xs=some args)
  (hp:xs.any sH=true→pf r=true) (hK:K (s.put d r)):KZ f ds s d K xs∨Q :=
 .inl ⟨hf,fun _=>Pd h hs hp ⟨s,rfl,rfl,hf,hK⟩⟩
section
variable {K:Nat} {p q:Rat} (hK:K≤137438953472) (hp:sz K p) (hq:sz K q)
include hK hp hq
theorem Ef (h:q≠0):zc Try.prog li [yw p,yw q] (.tuple [yw (p/q),iv 0]):=by
 have h1:=wW hp
 have h2:=wW hq
 have hq0:q.num.natAbs≠0:=fun e=>h (Rat.num_eq_zero.1 (by omega))
 rw[← Bw p q h]
 have l1:=va h1.1 h2.2
 have l2:=va h1.2 h2.1
 have k1:=sN (m1:=.plain) (m2:=.plain) (zq p.num.natAbs) (zq q.den) (by omega) (by omega) (by omega) rfl rfl
 have k2:=sN (m1:=.plain) (m2:=.plain) (zq p.den) (zq q.num.natAbs) (by omega) (by omega) (by omega) rfl rfl
 simp only[zL] at k1 k2
 have k:=YY (neg:=!(decide (p.num<0) == decide (q.num<0))) (N:=p.num.natAbs*q.den) (D:=p.den*q.num.natAbs) (by omega) (by omega) (Nat.mul_ne_zero p.den_nz hq0)
 unfold yw
 generalize p.num.natAbs=a at *
 generalize q.num.natAbs=b at *
 generalize decide (p.num<0)=s at *
 generalize decide (q.num<0)=t at *
 unfold xr at *
 generalize a*q.den/Nat.gcd (a*q.den) (p.den*b)=x at *
 generalize p.den*b/Nat.gcd (a*q.den) (p.den*b)=y at *
 refine zG A5 (by simp) ?_
 simp[P9,xD vB]
 refine za k1 (by simp) (by simp) ?_
 simp
 refine za k2 (by simp) (by simp) ?_
 simp
 refine za k (by simp) (by simp) ?_
 simp[N1]
theorem CA (h:q≠0):zc Try.prog li [fq p,fq q] (.tuple [fq (p/q),iv 0]):=by simp only[← w9]; exact Ef hK hp hq h
end
def elm (l:Nat→Rat) (f:Rat) (c:Nat) (pr:Nat→Rat) (j:Nat):Rat:=(if j=c then 0 else l j)-f*pr j
noncomputable def cD (l pr:Nat→Rat) (n c:Nat) (b pb f:Rat) (k:Nat):St :=
 {env:=[(2,iv c),(3,fL pr n),(6,.ptr 6 0),(9,.ptr 9 0),(11,.ptr 11 0),(12,.ptr 12 0),(13,.sl 27 3 0 n),(28,fL l n),(29,iv n),(30,iv k)],
  sto:=[(6,.var (fr b)),(9,.var (fr pb)),(11,.var zz),(12,.var (fr f)),(27,.arr 3 (fZ (elm l f c pr) k n))]}
theorem ju {n c K:Nat} {l pr:Nat→Rat} {b pb:Rat} (hn:n<1000000) (hc:c<n) (hK:K≤30000000000) (hl:∀ j,j<n→sz K (l j)) (hp:∀ j,j<n→sz K (pr j)) (hb:sz K b) (hpb:sz K pb) :
  zc Try.prog rY [fL l n,fq b,iv c,fL pr n,fq pb] (.tuple [fL (elm l (l c) c pr) n,fq (b-l c*pb)]):=by
 obtain ⟨f,hf⟩:∃ f,l c=f:=⟨_,rfl⟩
 have szf:sz K f:=by rw[← hf]; exact hl c hc
 rw[hf]
 have e0:(c:Int)<n:=by omega
 have ks:=sQ (q:=f)
 have k1:=lf (by omega) szf hpb
 have k2:=Xy (K:=K+K) (by omega) (zM hb (by omega)) (yG szf hpb)
 refine zG T8 (by simp) ?_
 simp[eY,e0,hc,hf]
 refine za ks (by simp) (by simp) ?_
 by_cases h0:f=0
 ·have h1:xm f=0:=vu.2 h0
  have h2:fR (elm l f c pr) n=fR l n:=yI fun j hj=>by
   unfold elm
   rw[h0]
   split
   ·rename_i e; subst e; rw[hf,h0]; grind
   ·grind
  have h3:b-f*pb=b:=by rw[h0]; grind
  simp[h1,mM,h2,h3]
 ·have h1:¬ xm f=0:=fun h=>h0 (vu.1 h)
  simp[h1,eMk]
  refine ⟨by omega,by omega,?_⟩
  rw[nn (f:=elm l f c pr)]
  refine zB (cD l pr n c b pb f) (fun _=>True) n (by simp[cD]) trivial (fun k hk _=>?_) (fun _=>?_)
  ·have e:(k:Int)<n:=by omega
   have w:=zC (k:=k) (by omega)
   have hs:=kD (f:=elm l f c pr) hk
   have g1:=lf (by omega) szf (hp k hk)
   have g2:=Sr (K:=K+K) (by omega) (yG szf (hp k hk))
   have g3:=sQ (q:=pr k)
   have g4:=Xy (K:=K+K) (by omega) (zM (hl k hk) (by omega)) (yG szf (hp k hk))
   by_cases hkc:k=c
   ·subst hkc
    have ev:elm l f k pr k=-(f*pr k):=by unfold elm; rw[if_pos rfl]; grind
    rw[ev] at hs
    simp[tc,cD,e,hk]
    refine za g1 (by simp) (by simp) ?_
    simp
    refine za g2 (by simp) (by simp) ?_
    simp[hk,w,hs,cD]
   ·have ec:¬ (k:Int)=c:=by omega
    have ev:elm l f c pr k=l k-f*pr k:=by unfold elm; rw[if_neg hkc]
    rw[ev] at hs
    simp[tc,cD,e,hk,ec]
    refine za g3 (by simp) (by simp) ?_
    by_cases hz:pr k=0
    ·have z1:xm (pr k)=0:=vu.2 hz
     have z2:l k-f*pr k=l k:=by rw[hz]; grind
     rw[z2] at hs
     simp[z1,hk,w,hs,cD]
    ·have z1:¬ xm (pr k)=0:=fun h=>hz (vu.1 h)
     simp[z1,hk]
     refine za g1 (by simp) (by simp) ?_
     simp
     refine za g4 (by simp) (by simp) ?_
     simp[hk,w,hs,cD]
  ·simp[tc,km,mM,cD,nk]
   refine za k1 (by simp) (by simp) ?_
   simp
   refine za k2 (by simp) (by simp) ?_
   simp
def nR (f:Nat→Nat) (n:Nat):List (List AV):=mR (fun i=>[iv (f i)]) n
noncomputable def cR (a:Nat→Nat→Rat) (cl:Nat→Nat) (n:Nat):List (List AV):=mR (fun i=>[fL (a i) (cl i)]) n
section
variable {f:Nat→Nat} {a:Nat→Nat→Rat} {cl:Nat→Nat} {n i k:Nat} {e:zb}
@[simp] theorem aeN:(nR f n).length=n:=vP
@[simp] theorem aej:(cR a cl n).length=n:=vP
@[simp] theorem ad5 {hi:i<(nR f n).length}:(nR f n)[i]=[iv (f i)]:=ru
@[simp] theorem adO {hi:i<(cR a cl n).length}:(cR a cl n)[i]=[fL (a i) (cl i)]:=ru
theorem JR {x:Nat}:(nR f n).set i [iv x]=nR (upd f i x) n:=by
 unfold nR
 rw[YX]
 exact wq fun j _=>by unfold upd; split<;>rfl
theorem Kz {x:Nat→Rat} {l:Nat}:(cR a cl n).set i [fL x l]=cR (upd a i x) (upd cl i l) n:=by
 unfold cR
 rw[YX]
 exact wq fun j _=>by unfold upd; split<;>rfl
theorem SR {a':Nat→Nat→Rat} {cl':Nat→Nat} (h:∀ i,i<n→cl i=cl' i∧∀ j,j<cl i→a i j=a' i j):cR a cl n=cR a' cl' n :=
 wq fun i hi=>by
  obtain ⟨h1,h2⟩:=h i hi
  rw[← h1,show fL (a i) (cl i)=fL (a' i) (cl i) from congrArg _ (yI h2)]
@[simp] theorem aeM:((nR f n).map fun r=>r.map (frz k e))=nR f n:=wS fun _=>rfl
@[simp] theorem aei:((cR a cl n).map fun r=>r.map (frz k e))=cR a cl n:=wS fun _=>by simp
@[simp] theorem afs:zU k (nR f n)=nR f n:=wS fun _=>by simp
@[simp] theorem aeY:zU k (cR a cl n)=cR a cl n:=wS fun _=>by simp
@[simp] theorem aeO:yN k (nR f n)=false:=gA fun _=>by simp
@[simp] theorem aek:yN k (cR a cl n)=false:=gA fun _=>by simp
@[simp] theorem aft:xB (nR f n)=true:=mr fun _=>by simp
@[simp] theorem aeZ:xB (cR a cl n)=true:=mr fun _=>by simp
@[simp] theorem afu:zQ (nR f n)=nR f n:=wS fun _=>by simp
@[simp] theorem ae0:zQ (cR a cl n)=cR a cl n:=wS fun _=>by simp
end
def rest (ρ:List (Nat × zb)):Prop:=∀ p∈ρ,(p.1<1000∨(3000≤p.1∧p.1<4000))∧sL 1000 p.2=true
def far (k:Nat):Bool:=decide ((1000≤k∧k<3000)∨4000≤k)
section
variable {ρ:List (Nat × zb)} {l:List (Nat × zb)} {k:Nat} {e:zb}
theorem bS (h:rest ρ) (hk:far k=true):lk ρ k=none:=by
 have hk:(1000≤k∧k<3000)∨4000≤k:=of_decide_eq_true hk
 cases hl:lk ρ k with
 | none=>rfl
 | some e=>have:=(h _ (YP hl)).1; simp at this; omega
theorem kJ {_l':List (Nat × zb)} (h:lk ρ k=none):lk (ρ++l) k=lk l k:=by
 induction ρ with
 | nil=>rfl
 | cons p ρ ih =>
  obtain ⟨m,x⟩:=p
  simp only[lk,List.cons_append] at h ⊢
  split at h
  ·cases h
  ·rename_i hne; rw[if_neg hne]; exact ih h
theorem rlk (h:rest ρ) (hk:far k=true):lk (ρ++l) k=lk l k:=kJ (_l':=[]) (bS h hk)
theorem rpt (h:rest ρ) (hk:far k=true):pt (ρ++l) k e=ρ++pt l k e:=by
 have:=bS h hk
 clear h
 induction ρ with
 | nil=>rfl
 | cons p ρ ih =>
  obtain ⟨m,x⟩:=p
  simp only[lk] at this
  split at this
  ·cases this
  ·rename_i hne; simp only[List.cons_append,pt]; rw[if_neg hne,ih this]
theorem gw {D:List Nat}:del D (ρ++l)=del D ρ++del D l:=by
 induction ρ with
 | nil=>rfl
 | cons p ρ ih =>
  obtain ⟨m,x⟩:=p
  simp only[List.cons_append,del]
  split
  ·exact ih
  ·rw[ih]; rfl
theorem acE {D:List Nat} (h:rest ρ) (hD:D.all far=true):del D ρ=ρ:=by
 induction ρ with
 | nil=>rfl
 | cons p ρ ih =>
  obtain ⟨m,x⟩:=p
  simp only[del]
  have h1:=(h (m,x) (by simp)).1
  have:D.elem m=false:=by
   cases hc:D.elem m with
   | false=>rfl
   | true=>have:=List.all_eq_true.1 hD m (by simpa using hc); simp[far] at this h1; omega
  rw[this,ih fun p hp=>h p (by simp[hp])]; rfl
theorem wb {D:List Nat} (h:rest ρ) (hD:D.all far=true):del D (ρ++l)=ρ++del D l:=by rw[gw,acE h hD]
theorem Qm (h:rest ρ) (hk:1000≤k):xk k ρ=true:=by
 induction ρ with
 | nil=>rfl
 | cons p ρ ih =>
  obtain ⟨m,x⟩:=p
  have h1:=(h (m,x) (by simp)).2
  simp only[xk,JA hk h1,ih fun p hp=>h p (by simp[hp])]; rfl
theorem pJ:xk k (ρ++l)=(xk k ρ&&xk k l):=by
 induction ρ with
 | nil=>rfl
 | cons p ρ ih =>
  obtain ⟨m,x⟩:=p
  simp only[List.cons_append,xk,ih,Bool.and_assoc]
theorem xd (h:rest ρ) (hk:1000≤k):xk k (ρ++l)=xk k l:=by rw[pJ,Qm h hk]; rfl
theorem Dx {e0:zb} (h:rest ρ) (hk:1000≤k):((ρ++l).map fun p=>(p.1,uf k e0 p.2))=ρ++l.map fun p=>(p.1,uf k e0 p.2):=by
 rw[List.map_append]
 congr 1
 exact yK fun p hp=>by rw[RL hk (h p hp).2]
theorem vL {c:List AV}:uf k e (.var c)=.var (c.map (frz k e)):=rfl
theorem sF {n:Nat} {r:List (List AV)}:uf k e (.uarr n r)=.uarr n (r.map fun r=>r.map (frz k e)):=rfl
theorem acL {e0:zb} (h:rest ρ) (hk:1000≤k):(ρ.map fun p=>(p.1,uf k e0 p.2))=ρ:=yK fun p hp=>by rw[RL hk (h p hp).2]
theorem pO (h:rest ρ) (hk:1000≤k):(ρ.map fun p=>(p.1,dgE k p.2))=ρ:=yK fun p hp=>by rw[BN hk (h p hp).2]
end
theorem eno {k:Nat} {f:List (Nat × AV)} (h:yS 2000 f) (hk:2000≤k):rz k f=true:=m9 hk h
theorem ono {k:Nat} {f:List (List (Nat × AV))} (h:yh 2000 f) (hk:2000≤k):pI k f=true:=YV hk h
theorem aaY {k:Nat} {e:zb} {f:List (Nat × AV)} (h:yS 2000 f) (hk:2000≤k):(f.map fun p=>(p.1,frz k e p.2))=f:=Zz hk h
theorem Lg {k:Nat} {e:zb} {f:List (List (Nat × AV))} (h:yh 2000 f) (hk:2000≤k):(f.map fun f=>f.map fun p=>(p.1,frz k e p.2))=f:=EM hk h
theorem edg {k:Nat} {f:List (Nat × AV)} (h:yS 2000 f) (hk:2000≤k):(f.map fun p=>(p.1,dg k p.2))=f:=Uf hk h
theorem odg {k:Nat} {f:List (List (Nat × AV))} (h:yh 2000 f) (hk:2000≤k):(f.map fun f=>f.map fun p=>(p.1,dg k p.2))=f:=NN hk h
noncomputable abbrev tC (n m:Nat) (d:zn):List AV:=[iv n,iv m,.us 1961 1 0 m,.us 1972 3 0 m,fL d.cst d.c,f0 d.v,f1 d.v,f2 d.v,.us 1987 1 0 m,.us 2029 1 0 d.c]
noncomputable def tL (n m:Nat) (d:zn):List (Nat × zb) :=
 [(1015,.var (tC n m d)),(1961,.uarr 1 (cR d.a (fun _=>d.c) m)),(1972,.uarr 3 (fR d.b m)),(1987,.uarr 1 (nR d.bas m)),(2029,.uarr 1 (nR d.fre d.c))]
@[simp] theorem acm {q:Rat} {a b c d e g h:AV}:zP [a,b,c,d,e,f0 q,f1 q,f2 q,g,h] 5 (some 3)=some (fq q):=by
 simp[zP]
def yR (d:zn):Nat→Int
 | 0=>-1
 | k+1=>if 0<d.cst k∧(yR d k<0∨d.fre k<d.fre (yR d k).toNat) then k else yR d k
theorem ni (d:zn):∀ k,-1≤yR d k∧yR d k<k
 | 0=>by simp[yR]
 | k+1=>by have:=ni d k; simp only[yR]; split<;>omega
noncomputable def cE (n m:Nat) (d:zn) (ρ:List (Nat × zb)) (out:List (List (Nat × AV))) (k:Nat):St :=
 {env:=[(0,.ptr 1015 0),(3,iv (yR d k)),(9,.us 2029 1 0 d.c),(10,iv d.c),(11,iv k)],sto:=ρ++tL n m d,out:=out,base:=5000}
theorem Te {n m:Nat} {d:zn} {ρ:List (Nat × zb)} {s:St} {K:AV→St→Prop} (hs:s.sto=ρ++tL n m d) (hρ:rest ρ) (hc:d.c<1000000) (h:K (iv (yR d d.c)) s) :
  afN Try.prog s6 [.ptr 1015 0] s K:=by
 obtain ⟨env,σ,out,base⟩:=s
 simp only at hs
 subst hs
 refine xL 5000 UR (by simp) ?_
 simp[gl,tL,rlk hρ,far]
 refine zB (cE n m d ρ (env::out)) (fun _=>True) d.c (by simp[cE,tL,yR]) trivial (fun k hk _=>?_) (fun _=>?_)
 ·have e:(k:Int)<d.c:=by omega
  have w:=zC (k:=k) (by omega)
  have g3:=sQ (q:=d.cst k)
  obtain ⟨b1,b2⟩:=ni d k
  simp[rH,cE,tL,e,hk,rlk hρ,far]
  refine za g3 (by simp) (by simp) ?_
  by_cases h0:0<d.cst k
  ·have h0':0<xm (d.cst k):=nM.2 h0
   by_cases h1:yR d k<0
   ·have ev:yR d (k+1)=k:=by simp only[yR]; rw[if_pos ⟨h0,.inl h1⟩]
    simp[h0',h1,w,cE,ev,tL]
   ·have b3:(yR d k).toNat<d.c:=by omega
    have b4:(0:Int)≤yR d k:=by omega
    have b5:yR d k<d.c:=by omega
    by_cases h2:d.fre k<d.fre (yR d k).toNat
    ·have ev:yR d (k+1)=k:=by simp only[yR]; rw[if_pos ⟨h0,.inr h2⟩]
     simp[h0',h1,h2,b3,b4,b5,w,cE,ev,tL,rlk hρ,far]
    ·have ev:yR d (k+1)=yR d k:=by simp only[yR]; rw[if_neg fun h=>h.2.elim h1 h2]
     simp[h0',h1,h2,b3,b4,b5,w,cE,ev,tL,rlk hρ,far]
  ·have h0':¬ 0<xm (d.cst k):=fun h=>h0 (nM.1 h)
   have ev:yR d (k+1)=yR d k:=by simp only[yR]; rw[if_neg fun h=>h0 h.1]
   simp[h0',w,cE,ev,tL]
 ·simp[rH,mO,gG,cE]
  exact h
def rat (d:zn) (q i:Nat):Rat:=d.b i/d.a i q
def yg (d:zn) (q:Nat):Nat→Int
 | 0=>-1
 | k+1=>if 0<d.a k q∧(yg d q k<0∨rat d q k<rat d q (yg d q k).toNat∨(rat d q k=rat d q (yg d q k).toNat∧d.bas k≤d.bas (yg d q k).toNat)) then k else yg d q k
theorem nz (d:zn) (q:Nat):∀ k,-1≤yg d q k∧yg d q k<k
 | 0=>by simp[yg]
 | k+1=>by have:=nz d q k; simp only[yg]; split<;>omega
noncomputable def lst (d:zn) (q k:Nat):List AV:=if yg d q k<0 then zz else fr (rat d q (yg d q k).toNat)
@[simp] theorem ad4 {d:zn} {q k j:Nat}:wM j (lst d q k)=false:=by unfold lst; split<;>simp
noncomputable def j8 (n m:Nat) (d:zn) (q:Nat) (ρ:List (Nat × zb)) (out:List (List (Nat × AV))) (k:Nat):St :=
 {env:=[(0,.ptr 1015 0),(1,iv q),(5,iv (yg d q k)),(6,.ptr 5006 0),(15,.us 1961 1 0 m),(16,iv m),(17,iv k)],sto:=ρ++(tL n m d++[(5006,.var (lst d q k))]),out:=out,base:=5000}
theorem Fa {K L:Nat} {a b:Rat} (ha:sz K a) (hb:sz L b):sz (K+L) (a/b):=by
 rw[show a/b=a*(1/b) by grind]
 exact yG ha (QW hb)
theorem RH {n m q L:Nat} {d:zn} {ρ:List (Nat × zb)} {s:St} {K:AV→St→Prop} (hs:s.sto=ρ++tL n m d) (hρ:rest ρ) (hE:yS 2000 s.env) (hO:yh 2000 s.out) (hm:m<1000000) (hq:q<d.c)
  (hL:L≤30000000000) (ha:∀ i,i<m→sz L (d.a i q)) (hb:∀ i,i<m→sz L (d.b i)) (h:K (iv (yg d q m)) s) :
  afN Try.prog rU [.ptr 1015 0,iv q] s K:=by
 obtain ⟨env,σ,out,base⟩:=s
 simp only at hs hE hO
 subst hs
 refine xL 5000 T2 (by simp) ?_
 simp[eS,tL,rlk hρ,rpt hρ,far]
 refine zB (j8 n m d q ρ (env::out)) (fun _=>True) m (by simp[j8,tL,yg,lst]) trivial (fun k hk _=>?_) (fun _=>?_)
 ·have e:(k:Int)<m:=by omega
  have eq:(q:Int)<d.c:=by omega
  have w:=zC (k:=k) (by omega)
  obtain ⟨r1,hr1⟩:∃ r,r=rat d q k:=⟨_,rfl⟩
  obtain ⟨r2,hr2⟩:∃ r,r=rat d q (yg d q k).toNat:=⟨_,rfl⟩
  have g1:=sQ (q:=d.a k q)
  have g2:d.a k q≠0→zc Try.prog li [fq (d.b k),fq (d.a k q)] (.tuple [fq r1,iv 0]):=fun h=>by rw[hr1]; exact CA (by omega) (hb k hk) (ha k hk) h
  obtain ⟨b1,b2⟩:=nz d q k
  have z1:sz (L+L) r1:=by rw[hr1]; exact Fa (hb k hk) (ha k hk)
  have z2:0≤yg d q k→sz (L+L) r2:=fun h=>by rw[hr2]; exact Fa (hb _ (by omega)) (ha _ (by omega))
  simp[qh,j8,tL,e,hk,rlk hρ,far,eq,hq]
  refine za g1 (by simp) (by simp) ?_
  by_cases h0:0<d.a k q
  ·have h0':¬ xm (d.a k q)≤0:=by have:=nM.2 h0; omega
   have h00:d.a k q≠0:=by grind
   simp[h0',rlk hρ,far,e,eq,hk,hq]
   refine za (g2 h00) (by simp) (by simp) ?_
   by_cases h1:yg d q k<0
   ·have ev:yg d q (k+1)=k:=by simp only[yg]; rw[if_pos ⟨h0,.inl h1⟩]
    have ev1:lst d q k=zz:=by unfold lst; rw[if_pos h1]
    have ev2:lst d q (k+1)=fr r1:=by unfold lst; rw[ev,if_neg (by omega),hr1]; rfl
    have h1':¬ 0≤yg d q k:=by omega
    simp[h1',rlk hρ,rpt hρ,wb hρ,xd hρ,eno hE,ono hO,far,j8,tL,ev,ev1,ev2,w]
   ·have h1':0≤yg d q k:=by omega
    have b3:(yg d q k).toNat<m:=by omega
    have b5:yg d q k<m:=by omega
    have ev1:lst d q k=fr r2:=by unfold lst; rw[if_neg h1,hr2]
    have g3:=fk (by omega) z1 (z2 h1')
    simp[h1',rlk hρ,rpt hρ,far,ev1]
    refine za g3 (by simp) (by simp) ?_
    by_cases c1:r1<r2
    ·have ev:yg d q (k+1)=k:=by simp only[yg]; rw[if_pos ⟨h0,.inr (.inl (by rw[← hr1,← hr2]; exact c1))⟩]
     have ev2:lst d q (k+1)=fr r1:=by unfold lst; rw[ev,if_neg (by omega),hr1]; rfl
     have k1:¬ 0<wa r1 r2:=by have:=qJ.2 c1; omega
     have k2:¬ wa r1 r2=0:=by have:=qJ.2 c1; omega
     simp[k1,k2,rlk hρ,rpt hρ,wb hρ,xd hρ,eno hE,ono hO,far,j8,tL,ev,ev2,w]
    ·by_cases c2:r1=r2
     ·have k2:wa r1 r2=0:=aho.2 c2
      have k1:¬ 0<wa r1 r2:=by omega
      by_cases c3:d.bas k≤d.bas (yg d q k).toNat
      ·have ev:yg d q (k+1)=k:=by simp only[yg]; rw[if_pos ⟨h0,.inr (.inr ⟨by rw[← hr1,← hr2]; exact c2,c3⟩)⟩]
       have ev2:lst d q (k+1)=fr r1:=by unfold lst; rw[ev,if_neg (by omega),hr1]; rfl
       have c3':¬ d.bas (yg d q k).toNat<d.bas k:=by omega
       simp[k2,c3',hk,e,b3,b5,h1',rlk hρ,rpt hρ,wb hρ,xd hρ,eno hE,ono hO,far,j8,tL,ev,ev2,w]
      ·have ev:yg d q (k+1)=yg d q k:=by simp only[yg]; rw[if_neg]; rw[← hr1,← hr2]; simp[h1,c1,c3]
       have ev2:lst d q (k+1)=fr r2:=by unfold lst; rw[ev,if_neg (by omega),hr2]
       have c3':d.bas (yg d q k).toNat<d.bas k:=by omega
       simp[k2,c3',hk,e,b3,b5,h1',rlk hρ,wb hρ,xd hρ,eno hE,ono hO,far,j8,tL,ev,ev2,w]
     ·have ev:yg d q (k+1)=yg d q k:=by simp only[yg]; rw[if_neg]; rw[← hr1,← hr2]; simp[h1,c1,c2]
      have ev2:lst d q (k+1)=fr r2:=by unfold lst; rw[ev,if_neg (by omega),hr2]
      have k1:0<wa r1 r2:=nf.2 (by grind)
      simp[k1,rlk hρ,wb hρ,xd hρ,eno hE,ono hO,far,j8,tL,ev,ev2,w]
  ·have h0':xm (d.a k q)≤0:=Int.not_lt.1 fun h=>h0 (nM.1 h)
   have ev:yg d q (k+1)=yg d q k:=by simp only[yg]; rw[if_neg fun h=>h0 h.1]
   have ev2:lst d q (k+1)=lst d q k:=by unfold lst; rw[ev]
   simp[h0',w,j8,ev,ev2,tL,rlk hρ,wb hρ,xd hρ,eno hE,ono hO,far]
 ·simp[qh,lN,db,j8,tL,wb hρ,far,xd hρ,eno hE,ono hO]
  exact h
def kR (d:zn) (p q:Nat):Nat→Rat:=upd (fun j=>d.a p j*(1/d.a p q)) q (1/d.a p q)
def pkD (d:zn) (p q k:Nat):zn :=
 {d with a:=fun i=>if i<k∧i≠p then elm (d.a i) (d.a i q) q (kR d p q) else d.a i,b:=fun i=>if i<k∧i≠p then d.b i-d.a i q*(d.b p*(1/d.a p q)) else d.b i}
theorem Dn {d:zn} {p q:Nat}:pkD d p q 0=d:=by simp[pkD]
theorem Dm {d:zn} {p q:Nat}:pkD d p q (p+1)=pkD d p q p:=by
 simp only[pkD,zn.mk.injEq,true_and,and_true]
 constructor
 ·funext i; by_cases h:i<p
  ·rw[if_pos ⟨by omega,by omega⟩,if_pos ⟨h,by omega⟩]
  ·rw[if_neg (by omega),if_neg (by omega)]
 ·funext i; by_cases h:i<p
  ·rw[if_pos ⟨by omega,by omega⟩,if_pos ⟨h,by omega⟩]
  ·rw[if_neg (by omega),if_neg (by omega)]
theorem Ah {d:zn} {p q i:Nat} (hi:i<d.r):(pivot d p q).a i=(upd (pkD d p q d.r).a p (kR d p q)) i:=by
 funext j
 simp only[pivot,upd,pkD]
 by_cases h:i=p
 ·subst h; simp only[if_true,kR,upd]
 ·simp only[h,hi,if_false,if_true,ne_eq,not_false_eq_true,and_self,elm,kR,upd]
  split<;>grind
theorem Ai {d:zn} {p q i:Nat} (hi:i<d.r):(pivot d p q).b i=(upd (pkD d p q d.r).b p (d.b p*(1/d.a p q))) i:=by
 simp only[pivot,upd,pkD]
 by_cases h:i=p
 ·subst h; simp only[if_true]
 ·simp only[h,hi,if_false,if_true,ne_eq,not_false_eq_true,and_self]
section
variable {d:zn} {p q k:Nat}
@[simp] theorem afy:(pkD d p q k).c=d.c:=rfl
@[simp] theorem afz:(pkD d p q k).r=d.r:=rfl
@[simp] theorem aea:(pkD d p q k).cst=d.cst:=rfl
@[simp] theorem afA:(pkD d p q k).v=d.v:=rfl
@[simp] theorem ad9:(pkD d p q k).bas=d.bas:=rfl
@[simp] theorem aeb:(pkD d p q k).fre=d.fre:=rfl
theorem Gd:(pivot d p q).cst=elm d.cst (d.cst q) q (kR d p q):=by
 funext j
 simp only[pivot,elm,kR,upd]
 split<;>grind
end
noncomputable def QL (n m:Nat) (d:zn) (p q:Nat) (v:Rat) (f:Nat→Rat) (ρ:List (Nat × zb)) (out:List (List (Nat × AV))) (k:Nat):St :=
 {env:=[(0,.ptr 1015 0),(1,iv p),(2,iv q),(6,.ptr 5006 0),(8,.sl 5034 3 0 d.c),(41,fL (d.a p) d.c),(42,iv d.c),(43,iv k)],
  sto:=ρ++(tL n m d++[(5006,.var (fr v)),(5034,.arr 3 (fZ f k d.c))]),out:=out,base:=5000}
noncomputable def UJ (n m:Nat) (d:zn) (p q:Nat) (v:Rat) (f:Nat→Rat) (ρ:List (Nat × zb)) (out:List (List (Nat × AV))) (k:Nat):St :=
 {env:=[(0,.ptr 1015 0),(1,iv p),(2,iv q),(8,fL f d.c),(11,.ptr 5011 0),(72,iv m),(73,iv k)],
  sto:=ρ++(tL n m (pkD d p q k)++[(5011,.var (fr v))]),out:=out,base:=5000}
theorem Qc {n m p q L:Nat} {d:zn} {ρ:List (Nat × zb)} {s:St} {K:AV→St→Prop} (hs:s.sto=ρ++tL n m d) (hρ:rest ρ) (hE:yS 2000 s.env) (hO:yh 2000 s.out) (hm:m<1000000) (hc:d.c<1000000) (hr:d.r=m) (hp:p<m) (hq:q<d.c)
  (hL:L≤10000000000) (hsz:szD L d) (ha0:d.a p q≠0) (h:K (.tuple []) ⟨s.env,ρ++tL n m (pivot d p q),s.out,s.base⟩) :
  afN Try.prog uc [.ptr 1015 0,iv p,iv q] s K:=by
 obtain ⟨env,σ,out,base⟩:=s
 simp only at hs hE hO h
 subst hs
 have ep:(p:Int)<m:=by omega
 have eq:(q:Int)<d.c:=by omega
 have sa:∀ i j,i<m→j<d.c→sz L (d.a i j):=fun i j h1 h2=>hsz.a i j (by omega) h2
 have sb:∀ i,i<m→sz L (d.b i):=fun i h1=>hsz.b i (by omega)
 obtain ⟨inv,hinv⟩:∃ x,1/d.a p q=x:=⟨_,rfl⟩
 have sinv:sz L inv:=by rw[← hinv]; exact QW (sa p q hp hq)
 have one:sz L 1:=by
  have:1≤2^L:=Nat.one_le_two_pow
  exact ⟨this,this⟩
 have g1:zc Try.prog zI [iv 1] (fq 1):=xy (n:=1) (by decide) (by decide)
 have g2:=CA (by omega) one (sa p q hp hq) ha0
 rw[hinv] at g2
 have g3:=lf (by omega) (sb p hp) sinv
 obtain ⟨bnd,hbnd⟩:∃ x,d.b p*inv=x:=⟨_,rfl⟩
 have sbnd:sz (L+L) bnd:=by rw[← hbnd]; exact yG (sb p hp) sinv
 rw[hbnd] at g3
 refine xL 5000 PW (by simp) ?_
 simp[an,tL,rlk hρ,far]
 refine za g1 (by simp) (by simp) ?_
 simp[rlk hρ,far,ep,eq,hp,hq]
 refine za g2 (by simp) (by simp) ?_
 simp[rlk hρ,rpt hρ,far,ep,hp,eMk]
 refine ⟨by omega,by omega,?_⟩
 rw[nn (f:=fun j=>d.a p j*inv)]
 refine zB (QL n m d p q inv (fun j=>d.a p j*inv) ρ (env::out)) (fun _=>True) d.c (by simp[QL,tL]) trivial (fun k hk _=>?_) (fun _=>?_)
 ·have e:(k:Int)<d.c:=by omega
  have w:=zC (k:=k) (by omega)
  have f1:=lf (by omega) (sa p k hp hk) sinv
  have hset:=kD (f:=fun j=>d.a p j*inv) hk
  simp[p8,QL,tL,e,hk,tL,rlk hρ,rpt hρ,far]
  refine za f1 (by simp) (by simp) ?_
  simp[hk,w,hset,QL,tL,rlk hρ,rpt hρ,wb hρ,xd hρ,eno hE,ono hO,far]
 ·have hprow:upd (fun j=>d.a p j*inv) q inv=kR d p q:=by unfold kR; rw[hinv]
  have hset:(fR (fun j=>d.a p j*inv) d.c).set q (fr inv)=fR (kR d p q) d.c:=by rw[tu,hprow]
  have spr:∀ j,j<d.c→sz (L+L) (kR d p q j):=fun j hj=>by
   rw[← hprow]; unfold upd; split
   ·exact zM sinv (by omega)
   ·exact yG (sa p j hp hj) sinv
  generalize hpr:kR d p q=pr at *
  simp[p8,QL,tL,rlk hρ,rpt hρ,wb hρ,xd hρ,eno hE,ono hO,Dx hρ,aaY hE,Lg hO,far,nk,go,hq,eq,ep,hp,hset,xf,vL,sF,vr,rQ]
  refine za g3 (by simp) (by simp) ?_
  simp[rlk hρ,rpt hρ,wb hρ,xd hρ,eno hE,ono hO,far]
  refine zB (UJ n m d p q bnd pr ρ (env::out)) (fun _=>True) m (by simp[UJ,tL,Dn]) trivial (fun k hk _=>?_) (fun _=>?_)
  ·have e:(k:Int)<m:=by omega
   have w:=zC (k:=k) (by omega)
   have pa:(pkD d p q k).a k=d.a k:=by simp[pkD]
   have pb:(pkD d p q k).b k=d.b k:=by simp[pkD]
   have pc:(pkD d p q k).c=d.c:=rfl
   by_cases hkp:k=p
   ·subst hkp
    simp[re,UJ,tL,e,w,Dm]
   ·have ek:¬ (k:Int)=p:=by omega
    have f1:=ju (K:=L+L) (pb:=bnd) hc hq (by omega) (fun j hj=>zM (sa k j hk hj) (by omega)) spr (zM (sb k hk) (by omega)) sbnd
    simp[re,UJ,tL,rlk hρ,far,e,hk,ek,pa,pb]
    refine za f1 (by simp) (by simp) ?_
    have hs1:(cR (pkD d p q k).a (fun _=>d.c) m).set k [fL (elm (d.a k) (d.a k q) q pr) d.c]=cR (pkD d p q (k+1)).a (fun _=>d.c) m:=by
     rw[Kz]
     refine SR fun i hi=>⟨by unfold upd; split<;>rfl,fun j hj=>?_⟩
     by_cases hik:i=k
     ·subst hik
      simp only[upd,if_true,pkD]
      rw[if_pos ⟨by omega,hkp⟩,hpr]
     ·have:(i<k+1)=(i<k):=by simp only[eq_iff_iff]; omega
      simp only[upd,if_neg hik,pkD,this]
    have hs2:(fR (pkD d p q k).b m).set k (fr (d.b k-d.a k q*bnd))=fR (pkD d p q (k+1)).b m:=by
     rw[tu]
     refine yI fun i hi=>?_
     by_cases hik:i=k
     ·subst hik
      simp only[upd,if_true,pkD]
      rw[if_pos ⟨by omega,hkp⟩,hinv,hbnd]
     ·have:(i<k+1)=(i<k):=by simp only[eq_iff_iff]; omega
      simp only[upd,if_neg hik,pkD,this]
    simp[tL,rlk hρ,rpt hρ,far,hs1,hs2,hk,e,w,UJ]
  ·have f1:=ju (K:=L+L) (pb:=bnd) hc hq (by omega) (fun j hj=>zM (hsz.cst j hj) (by omega)) spr (zM hsz.v (by omega)) sbnd
   have f2:=lf (K:=L+L) (by omega) (zM (hsz.cst q hq) (by omega)) sbnd
   have f3:=ba (K:=L+(L+L)) (by omega) (zM hsz.v (by omega)) (yG (hsz.cst q hq) sbnd)
   have e1:(cR (pkD d p q m).a (fun _=>d.c) m).set p [fL pr d.c]=cR (pivot d p q).a (fun _=>d.c) m:=by
    rw[Kz]
    refine SR fun i hi=>⟨by unfold upd; split<;>rfl,fun j hj=>?_⟩
    rw[Ah (by omega),hpr,hr]
   have e2:(fR (pkD d p q m).b m).set p (fr bnd)=fR (pivot d p q).b m:=by
    rw[tu]
    refine yI fun i hi=>?_
    rw[Ai (by omega),hinv,hbnd,hr]
   have e3:(nR d.bas m).set p [iv (d.fre q)]=nR (pivot d p q).bas m:=JR
   have e4:(nR d.fre d.c).set q [iv (d.bas p)]=nR (pivot d p q).fre d.c:=JR
   have e5:elm d.cst (d.cst q) q pr=(pivot d p q).cst:=by rw[Gd,hpr]
   have e6:d.v+d.cst q*bnd=(pivot d p q).v:=by simp only[pivot]; rw[hinv,hbnd]
   have e7:(pivot d p q).c=d.c:=rfl
   rw[e5] at f1
   rw[e6] at f3
   generalize pivot d p q=d' at *
   simp[re,UJ,tL,rlk hρ,rpt hρ,far,gn,hq,eq]
   refine za f1 (by simp) (by simp) ?_
   simp[rlk hρ,rpt hρ,far]
   refine za f2 (by simp) (by simp) ?_
   simp
   refine za f3 (by simp) (by simp) ?_
   simp[rlk hρ,rpt hρ,wb hρ,xd hρ,eno hE,ono hO,far,aS,hp,hq,ep,eq,e1,e2,e3,e4]
   simp only[tL,tC,e7] at h
   exact h
theorem Zl {d:zn}:∀ k,yR d k<0→∀ j,j<k→d.cst j≤0
 | 0,_,j,hj=>by omega
 | k+1,h,j,hj=>by
  simp only[yR] at h
  split at h
  ·omega
  ·rename_i hn
   by_cases e:j=k
   ·subst e
    have:¬ 0<d.cst j:=fun h0=>hn ⟨h0,.inl h⟩
    grind
   ·exact Zl k h j (by omega)
theorem fB {d:zn}:∀ k,0≤yR d k→0<d.cst (yR d k).toNat∧∀ j,j<k→0<d.cst j→d.fre (yR d k).toNat≤d.fre j
 | 0,h=>by simp[yR] at h
 | k+1,h=>by
  have b:=ni d k
  simp only[yR] at h ⊢
  split
  ·rename_i hc
   refine ⟨by simpa using hc.1,fun j hj h0=>?_⟩
   by_cases e:j=k
   ·subst e; simp
   ·by_cases h1:yR d k<0
    ·have:=Zl k h1 j (by omega); grind
    ·have h2:=hc.2.resolve_left h1
     have:=(fB k (by omega)).2 j (by omega) h0
     simp; omega
  ·rename_i hc
   rw[if_neg hc] at h
   obtain ⟨h1,h2⟩:=fB k h
   refine ⟨h1,fun j hj h0=>?_⟩
   by_cases e:j=k
   ·subst e
    have:¬ d.fre j<d.fre (yR d j).toNat:=fun h=>hc ⟨h0,.inr h⟩
    omega
   ·exact h2 j (by omega) h0
theorem Zw {d:zn} {q:Nat}:∀ k,yg d q k<0→∀ i,i<k→d.a i q≤0
 | 0,_,j,hj=>by omega
 | k+1,h,j,hj=>by
  simp only[yg] at h
  split at h
  ·omega
  ·rename_i hn
   by_cases e:j=k
   ·subst e
    have:¬ 0<d.a j q:=fun h0=>hn ⟨h0,.inl h⟩
    grind
   ·exact Zw k h j (by omega)
theorem Zx {d:zn} {q:Nat}:∀ k,0≤yg d q k→0<d.a (yg d q k).toNat q∧∀ i,i<k→0<d.a i q→rat d q (yg d q k).toNat≤rat d q i∧(rat d q (yg d q k).toNat=rat d q i→d.bas (yg d q k).toNat≤d.bas i)
 | 0,h=>by simp[yg] at h
 | k+1,h=>by
  have b:=nz d q k
  simp only[yg] at h ⊢
  split
  ·rename_i hc
   simp only[Int.toNat_natCast]
   refine ⟨hc.1,fun i hi h0=>?_⟩
   by_cases e:i=k
   ·subst e; exact ⟨by grind,fun _=>Nat.le_refl _⟩
   ·by_cases h1:yg d q k<0
    ·have:=Zw k h1 i (by omega); grind
    ·obtain ⟨g1,g2⟩:=(Zx k (by omega)).2 i (by omega) h0
     rcases hc.2 with h2 | h2 | h2
     ·omega
     ·exact ⟨by grind,fun h=>by grind⟩
     ·refine ⟨by grind,fun h=>Nat.le_trans h2.2 (g2 (by grind))⟩
  ·rename_i hc
   rw[if_neg hc] at h
   obtain ⟨h1,h2⟩:=Zx k h
   refine ⟨h1,fun i hi h0=>?_⟩
   by_cases e:i=k
   ·subst e
    have h3:¬ rat d q i<rat d q (yg d q i).toNat:=fun h=>hc ⟨h0,.inr (.inl h)⟩
    refine ⟨by grind,fun h=>?_⟩
    have h4:¬ d.bas i≤d.bas (yg d q i).toNat:=fun h5=>hc ⟨h0,.inr (.inr ⟨h.symm,h5⟩)⟩
    omega
   ·exact h2 i (by omega) h0
theorem Gi {b1 a1 b2 a2:Rat} (h1:0<a1) (h2:0<a2):(b1/a1≤b2/a2↔b1*a2≤b2*a1)∧(b1/a1=b2/a2↔b1*a2=b2*a1):=by
 have e1:b1=b1/a1*a1:=by grind
 have e2:b2=b2/a2*a2:=by grind
 generalize b1/a1=x at *
 generalize b2/a2=y at *
 have hp:0<a1*a2:=Rat.mul_pos h1 h2
 have k1:b2*a1-b1*a2=(y-x)*(a1*a2):=by rw[e1,e2]; grind
 clear e1 e2
 constructor
 ·constructor
  ·intro h
   have:=Rat.mul_nonneg (show 0≤y-x by grind) (show 0≤a1*a2 by grind)
   rw[← k1] at this; grind
  ·intro h
   rcases lt_or_le y x with h3 | h3
   ·have:=Rat.mul_pos (show 0<x-y by grind) hp
    have e:(x-y)*(a1*a2)=-((y-x)*(a1*a2)):=by grind
    rw[e,← k1] at this; grind
   ·exact h3
 ·constructor
  ·intro h
   have:(y-x)*(a1*a2)=0:=by rw[h]; grind
   rw[← k1] at this; grind
  ·intro h
   have h5:(y-x)*(a1*a2)=0:=by rw[← k1]; grind
   rcases Rat.mul_eq_zero.1 h5 with h | h
   ·grind
   ·rw[h] at hp; exact absurd hp (by grind)
def qq' (d:zn):Nat:=(yR d d.c).toNat
def pp' (d:zn):Nat:=(yg d (qq' d) d.r).toNat
def Ub (d:zn):Prop:=0≤yR d d.c∧0≤yg d (qq' d) d.r
theorem fH {d:zn} (h:Ub d):mU d (pp' d) (qq' d):=by
 have b1:=ni d d.c
 have b2:=nz d (qq' d) d.r
 obtain ⟨h1,h2⟩:=h
 obtain ⟨g1,g2⟩:=fB d.c h1
 obtain ⟨g3,g4⟩:=Zx d.r h2
 refine ⟨by unfold pp'; omega,by unfold qq'; omega,g1,g2,g3,fun i hi h0=>?_⟩
 obtain ⟨g5,g6⟩:=g4 i hi h0
 obtain ⟨c1,c2⟩:=Gi (b1:=d.b (pp' d)) (b2:=d.b i) g3 h0
 exact ⟨c1.1 g5,fun h=>g6 (c2.2 h)⟩
def act (d:zn):zn:=pivot d (pp' d) (qq' d)
def yE (d:zn):Nat→zn
 | 0=>d
 | k+1=>act (yE d k)
theorem DE {d:zn} {N:Nat} (hb:Bij d N) (hf:feas d):∃ K,(∀ k,k<K→Ub (yE d k))∧¬ Ub (yE d K):=by
 apply Classical.byContradiction
 intro hno
 have all:∀ k,∀ j,j<k→Ub (yE d j):=by
  intro k
  induction k with
  | zero=>intro j hj; omega
  | succ k ih =>
   intro j hj
   by_cases e:j=k
   ·subst e
    exact Classical.byContradiction fun h=>hno ⟨j,ih,h⟩
   ·exact ih j (by omega)
 have r:Run (yE d) (fun k=>pp' (yE d k)) (fun k=>qq' (yE d k)) (2^N) N:=⟨hb,hf,fun k hk=>⟨fH (all _ k hk),rfl⟩⟩
 have:=r.le
 omega
theorem DF {d:zn} {N K:Nat} (hb:Bij d N) (hf:feas d) (h:∀ k,k<K→Ub (yE d k)):∀ k,k≤K→Same (yE d k) d N∧feas (yE d k)∧(yE d k).r=d.r∧(yE d k).c=d.c:=by
 intro k
 induction k with
 | zero=>intro _; exact ⟨Same.refl hb,hf,rfl,rfl⟩
 | succ k ih =>
  intro hk
  obtain ⟨h1,h2,h3,h4⟩:=ih (by omega)
  have hB:=fH (h k (by omega))
  have ha:(yE d k).a (pp' (yE d k)) (qq' (yE d k))≠0:=by have:=hB.2.2.2.2.1; grind
  exact ⟨(Same.pivot h1.bd hB.1 hB.2.1 ha).trans h1,hB.feas h2,h3,h4⟩
structure Fin (d e:zn) (N:Nat) (x:AV):Prop where
 same:Same e d N
 feas:feas e
 r:e.r=d.r
 c:e.c=d.c
 out:(x=.tuple [iv 0,bv true]∧∀ j,j<e.c→e.cst j≤0)∨∃ q:Nat,x=.tuple [iv q,bv false]∧q<e.c∧0<e.cst q∧∀ i,i<e.r→e.a i q≤0
noncomputable def stOp (n m:Nat) (d:zn) (ρ:List (Nat × zb)) (out:List (List (Nat × AV))) (k:Nat):St :=
 {env:=[(0,.ptr 1015 0)],sto:=ρ++tL n m (yE d k),out:=out,base:=4500}
theorem aO:yM Try.prog s6=true:=by kernel_rfl
theorem Y5:yM Try.prog rU=true:=by kernel_rfl
theorem fV:yM Try.prog uc=true:=by kernel_rfl
def jY (e:zn):AV:=if yR e e.c<0 then .tuple [iv 0,bv true] else .tuple [iv (qq' e),bv false]
theorem aa2 {d e:zn} {N:Nat} (h1:Same e d N) (h2:LP.feas e) (h3:e.r=d.r) (h4:e.c=d.c) (hJe:¬ Ub e):Fin d e N (jY e):=by
 have b1:=ni e e.c
 have b2:=nz e (qq' e) e.r
 refine ⟨h1,h2,h3,h4,?_⟩
 unfold jY
 by_cases g1:yR e e.c<0
 ·rw[if_pos g1]; exact .inl ⟨rfl,Zl _ g1⟩
 ·rw[if_neg g1]
  have g2:yg e (qq' e) e.r<0:=by
   rcases Int.lt_or_le (yg e (qq' e) e.r) 0 with h | h
   ·exact h
   ·exact absurd ⟨by omega,h⟩ hJe
  exact .inr ⟨qq' e,rfl,by unfold qq'; omega,(fB (d:=e) e.c (by omega)).1,Zw _ g2⟩
theorem Tu {N:Nat} {d:zn} (hb:Bij d N) (hf:feas d):∃ e,Fin d e N (jY e)∧∀ {n m L:Nat} {ρ:List (Nat × zb)} {s:St} {K:AV→St→Prop},s.sto=ρ++tL n m d→rest ρ→yS 2000 s.env→yh 2000 s.out→m<1000000→d.c<1000000→d.r=m →
  L≤10000000000→(∀ e,Same e d N→e.r=d.r→e.c=d.c→szD L e)→K (jY e) ⟨s.env,ρ++tL n m e,s.out,s.base⟩ →
  afN Try.prog x7 [.ptr 1015 0] s K:=by
 obtain ⟨J,hJ,hJe⟩:=DE hb hf
 have hrun:=DF hb hf hJ
 obtain ⟨hf1,hf2,hf3,hf4⟩:=hrun J (by omega)
 refine ⟨yE d J,aa2 hf1 hf2 hf3 hf4 hJe,?_⟩
 intro n m L ρ s K hs hρ hE hO hm hc hr hL hsz h
 obtain ⟨env,σ,out,base⟩:=s
 simp only at hs hE hO h
 subst hs
 have hO2:yh 2000 (env::out):=qU.2 ⟨hE,hO⟩
 refine xL 4500 US (by simp) ?_
 simp[gm]
 refine Mu (stOp n m d ρ (env::out)) (fun _=>True) J (by simp[stOp,yE]) trivial (fun k hk _=>?_) (fun _=>?_)
 ·obtain ⟨h1,h2,h3,h4⟩:=hrun k (by omega)
  have hg:=hJ k hk
  have hB:=fH hg
  have b1:=ni (yE d k) (yE d k).c
  have b2:=nz (yE d k) (qq' (yE d k)) (yE d k).r
  have hz:=hsz _ h1 h3 h4
  have ea:yR (yE d k) (yE d k).c=(qq' (yE d k):Nat):=by unfold qq'; have:=hg.1; omega
  have eb:yg (yE d k) (qq' (yE d k)) (yE d k).r=(pp' (yE d k):Nat):=by unfold pp'; have:=hg.2; omega
  have e3:yE d (k+1)=pivot (yE d k) (pp' (yE d k)) (qq' (yE d k)):=rfl
  have hrm:(yE d k).r=m:=by omega
  rw[hrm] at eb
  generalize hd2:yE d (k+1)=d2 at *
  generalize hd1:yE d k=d1 at *
  generalize qq' d1=q at *
  generalize pp' d1=p at *
  have hst1:stOp n m d ρ (env::out) k={env:=[(0,.ptr 1015 0)],sto:=ρ++tL n m d1,out:=env::out,base:=4500}:=by unfold stOp; rw[hd1]
  rw[hst1]
  have nq:¬ ((q:Int)<0):=by omega
  have np:¬ ((p:Int)<0):=by omega
  simp[rI,aO]
  refine afM (Te (s:=⟨_,ρ++tL n m d1,env::out,4500⟩) (d:=d1) (ρ:=ρ) (n:=n) (m:=m) rfl hρ (by omega) ?_)
  rw[ea]
  simp[Y5,nq]
  refine afM (RH (s:=⟨_,ρ++tL n m d1,env::out,4500⟩) (d:=d1) (ρ:=ρ) (n:=n) (m:=m) (L:=L) rfl hρ ?_ hO2 hm hB.2.1 (by omega) (fun i hi=>hz.a i q (by omega) hB.2.1) (fun i hi=>hz.b i (by omega)) ?_)
  ·simp[yo,yy,vO,uJ,y7]
  rw[eb]
  simp[fV,np]
  refine afM (Qc (s:=⟨_,ρ++tL n m d1,env::out,4500⟩) (d:=d1) (ρ:=ρ) (n:=n) (m:=m) (L:=L) rfl hρ ?_ hO2 hm (by omega) hrm (by have:=hB.1; omega) hB.2.1 hL hz (by have:=hB.2.2.2.2.1; grind) ?_)
  ·simp[yo,yy,vO,uJ,y7]
  rw[← e3]
  simp[stOp]
  exact .inl (by rw[hd2])
 ·obtain ⟨h1,h2,h3,h4⟩:=hrun J (by omega)
  have b1:=ni (yE d J) (yE d J).c
  have b2:=nz (yE d J) (qq' (yE d J)) (yE d J).r
  have hz:=hsz _ h1 h3 h4
  have hrm:(yE d J).r=m:=by omega
  generalize hd1:yE d J=d1 at *
  have hst1:stOp n m d ρ (env::out) J={env:=[(0,.ptr 1015 0)],sto:=ρ++tL n m d1,out:=env::out,base:=4500}:=by unfold stOp; rw[hd1]
  rw[hst1]
  simp[rI,aO]
  refine afM (Te (s:=⟨_,ρ++tL n m d1,env::out,4500⟩) (d:=d1) (ρ:=ρ) (n:=n) (m:=m) rfl hρ (by omega) ?_)
  by_cases g1:yR d1 d1.c<0
  ·have hfr:jY d1=.tuple [iv 0,bv true]:=if_pos g1
   rw[hfr] at h
   simp[g1,nH]
   exact h
  ·have hfr:jY d1=.tuple [iv (qq' d1),bv false]:=if_neg g1
   rw[hfr] at h
   have ea:yR d1 d1.c=(qq' d1:Nat):=by unfold qq'; omega
   have g2:yg d1 (qq' d1) d1.r<0:=by
    rcases Int.lt_or_le (yg d1 (qq' d1) d1.r) 0 with h | h
    ·exact h
    ·exact absurd ⟨by omega,h⟩ hJe
   have hq:qq' d1<d1.c:=by unfold qq'; omega
   rw[hrm] at g2
   rw[ea]
   generalize qq' d1=q at *
   have nq:¬ ((q:Int)<0):=by omega
   simp[Y5,nq]
   refine afM (RH (s:=⟨_,ρ++tL n m d1,env::out,4500⟩) (d:=d1) (ρ:=ρ) (n:=n) (m:=m) (L:=L) rfl hρ ?_ hO2 hm hq (by omega) (fun i hi=>hz.a i q (by omega) hq) (fun i hi=>hz.b i (by omega)) ?_)
   ·simp[yo,yy,vO,uJ,y7]
   simp[g2,nH]
   exact h
section
variable {k n:Nat} {c:List AV} {r:List (List AV)}
theorem ww:dgE k (.var c)=.var (c.map (dg k)):=rfl
theorem wm:dgE k (.uarr n r)=.uarr n (zU k r):=rfl
theorem aaZ {k:Nat} {f:List (Nat × AV)} (h:yS 1000 f) (hk:1000≤k):rz k f=true:=m9 hk h
theorem abi {k:Nat} {f:List (List (Nat × AV))} (h:yh 1000 f) (hk:1000≤k):pI k f=true:=YV hk h
theorem dO {k:Nat} {f:List (Nat × AV)} (h:yS 1000 f) (hk:1000≤k):(f.map fun p=>(p.1,dg k p.2))=f:=Uf hk h
theorem cb {k:Nat} {f:List (List (Nat × AV))} (h:yh 1000 f) (hk:1000≤k):(f.map fun f=>f.map fun p=>(p.1,dg k p.2))=f:=NN hk h
theorem Bo:dgE k (.arr n r)=.arr n r:=rfl
end
@[simp] theorem X1 {sz by_ d l sz1 off len sz':Nat} {rows1 rows:List (List AV)} {s:St} {K:St→Prop} (h:lk s.sto l=some (.uarr sz rows1)) :
  yQ sz by_ s (some d) K [.us l sz1 off len,.lit sz' rows]=(sz'=sz∧0<sz∧(len+rows.length)*by_≤140737488355328∧len+rows.length≤9223372036854775807∧sz1=sz∧off=0∧len=rows1.length ∧
   K ({(s.dg l) with sto:=pt (s.dg l).sto l (.uarr sz (zU l (rows1++rows)))}.put (some d) (.us l sz 0 (len+rows.length)))):=by
 simp[yQ,y9,h]
@[simp] theorem acl {x:AV} {q:Rat}:zP (x::fr q) 1 (some 3)=some (fq q):=by
 simp only[zP,fr,List.length_cons,List.length_nil,List.drop_succ_cons,List.drop_zero,List.take]
 simp
abbrev zK:AV:=.list 0 .full []
noncomputable def oR (a:Nat→Nat→Rat) (md:Nat→Am.Mode) (cl:Nat→Nat) (n:Nat):List (List AV):=mR (fun i=>[.list 3 (md i) (fR (a i) (cl i))]) n
def om (i:Nat):Am.Mode:=.own (1000000+i)
noncomputable def pR (A:Nat→Nat→Rat) (bb:Nat→Rat) (n m:Nat):List (List AV):=mR (fun i=>[fL (A i) n,f0 (bb i),f1 (bb i),f2 (bb i)]) m
noncomputable abbrev pA (A:Nat→Nat→Rat) (bb gg:Nat→Rat) (n m:Nat):AV:=.agg [fL gg n,.list 4 .plain (pR A bb n m)]
section
variable {a:Nat→Nat→Rat} {bb:Nat→Rat} {md:Nat→Am.Mode} {cl:Nat→Nat} {n m i k:Nat} {e:zb}
@[simp] theorem aeP:(oR a md cl n).length=n:=vP
@[simp] theorem aeR:(pR a bb n m).length=m:=vP
@[simp] theorem ad7 {hi:i<(oR a md cl n).length}:(oR a md cl n)[i]=[.list 3 (md i) (fR (a i) (cl i))]:=ru
@[simp] theorem ad8 {hi:i<(pR a bb n m).length}:(pR a bb n m)[i]=[fL (a i) n,f0 (bb i),f1 (bb i),f2 (bb i)]:=ru
@[simp] theorem aeQ:yN k (oR a md cl n)=false:=gA fun _=>by simp
@[simp] theorem afv:xB (pR a bb n m)=true:=mr fun _=>by simp
@[simp] theorem afx:zQ (pR a bb n m)=pR a bb n m:=wS fun _=>by simp
end
theorem mu {g h:Nat→List AV} {n:Nat} {f:List AV→List AV} (e:∀ i,i<n→f (g i)=h i):(mR g n).map f=mR h n:=by
 unfold mR
 rw[List.map_map]
 exact List.map_congr_left fun i hi=>e i (by simpa using hi)
@[simp] theorem Le {f:Nat→Nat} {n a b:Nat}:((nR f n).map fun r=>r.map (rn a b))=nR f n:=wS fun _=>rfl
@[simp] theorem afw {a:Nat→Nat→Rat} {bb:Nat→Rat} {n m k l:Nat}:((pR a bb n m).map fun r=>r.map (rn k l))=pR a bb n m:=wS fun _=>by
 simp[rn,rn1]
theorem acv {A:Nat→Nat→Rat} {cl:Nat→Nat} {n k l:Nat} (hk:k<1000000) (hl:n≤l):((oR A om cl n).map fun r=>r.map (rn k (1000000+l)))=oR A om cl n:=mu fun i hi=>by
 have:sw k (1000000+l) (1000000+i)=1000000+i:=by unfold sw; rw[if_neg (by omega),if_neg (by omega)]
 simp[rn,rn1,om,this]
theorem acu {A:Nat→Nat→Rat} {cl:Nat→Nat} {n k:Nat} (hk:k<1000000):zU k (oR A om cl n)=oR A om cl n:=mu fun i hi=>by
 have:¬ 1000000+i=k:=by omega
 simp[om,dg,this]
theorem ahM {k:Nat} {a b:List (List AV)}:zU k (a++b)=zU k a++zU k b:=List.map_append
theorem aj {k:Nat} {a b:List (List AV)}:yN k (a++b)=(yN k a||yN k b):=by
 induction a with
 | nil=>rfl
 | cons r a ih=>simp only[List.cons_append,yN,ih,Bool.or_assoc]
section
variable {a b:Nat}
theorem bT {c:List AV}:rnE a b (.var c)=.var (c.map (rn a b)):=rfl
theorem eh {n:Nat} {r:List (List AV)}:rnE a b (.uarr n r)=.uarr n (r.map fun r=>r.map (rn a b)):=rfl
theorem Qp {k o:Nat}:rn a b (.ptr k o)=.ptr (sw a b k) o:=rfl
theorem Su {k s o l:Nat}:rn a b (.us k s o l)=.us (sw a b k) s o l:=rfl
theorem Xc {v:Value}:rn a b (.val v)=.val v:=rfl
theorem eo {s:Nat} {r:List (List AV)}:rn a b (.list s .plain r)=.list s .plain r:=rfl
theorem Mj {s:Nat} {r:List (List AV)}:rn a b (.list s .full r)=.list s .full r:=rfl
theorem Qo {s l:Nat} {r:List (List AV)}:rn a b (.list s (.own l) r)=.list s (.own (sw a b l)) r:=rfl
end
theorem DB {ρ:List (Nat × zb)} {k l:Nat} (h:rest ρ) (hk:far k=true) (hl:far l=true):(ρ.map fun p=>(sw k l p.1,rnE k l p.2))=ρ:=yK fun p hp=>by
 have hk:(1000≤k∧k<3000)∨4000≤k:=of_decide_eq_true hk
 have hl:(1000≤l∧l<3000)∨4000≤l:=of_decide_eq_true hl
 obtain ⟨h1,h2⟩:=h p hp
 have:sw k l p.1=p.1:=by unfold sw; rw[if_neg (by omega),if_neg (by omega)]
 rw[this,BO (by omega) (by omega) h2]
noncomputable def vh (k:Nat):AV:=if k=0 then zK else .list 3 (.own 2039) (fR (fun _=>0) k)
theorem bp {l k:Nat} (h:¬ l=2039):dg l (vh k)=vh k:=by
 unfold vh
 split
 ·simp
 ·simp only[dg]; rw[if_neg (fun e=>h e.symm)]
theorem Bn {l j k:Nat} (h:¬ l=2039) (hj:¬ j=2039):rn l j (vh k)=vh k:=by
 unfold vh
 split
 ·rfl
 ·simp only[rn,rn1,sw]; rw[if_neg (fun e=>h e.symm),if_neg (fun e=>hj e.symm)]
@[simp] theorem ac3 {l k:Nat}:zT l (vh k)=false:=by unfold vh; split<;>rfl
theorem JQ {f:Nat→Nat} {k:Nat}:nR f k++[[iv (f k)]]=nR f (k+1):=bF.symm
theorem abh {a:Nat→Nat→Rat} {md:Nat→Am.Mode} {cl:Nat→Nat} {k:Nat}:oR a md cl k++[[.list 3 (md k) (fR (a k) (cl k))]]=oR a md cl (k+1):=bF.symm
noncomputable def UH (A:Nat→Nat→Rat) (bb gg:Nat→Rat) (n m:Nat) (ρ:List (Nat × zb)) (out:List (List (Nat × AV))) (k:Nat):St :=
 {env:=[(1,.ptr 1001 0),(3,.ptr 1015 0),(18,iv n),(19,iv k)],
  sto:=ρ++[(1001,.var [fL gg n,.list 4 .plain (pR A bb n m)]),(1015,.var [iv n,iv m,zK,zK,vh k,f0 0,f1 0,f2 0,zK,.us 2029 1 0 k]),(2029,.uarr 1 (nR id k))],out:=out,base:=1000}
noncomputable def LY (A:Nat→Nat→Rat) (bb _gg:Nat→Rat) (n m:Nat) (ρ:List (Nat × zb)) (out:List (List (Nat × AV))) (k:Nat):St :=
 {env:=[(3,.ptr 1015 0),(44,.list 4 .plain (pR A bb n m)),(45,iv m),(46,iv k)],
  sto:=ρ++[(1015,.var [iv n,iv m,.us 1961 1 0 k,.us 1972 3 0 k,vh n,f0 0,f1 0,f2 0,.us 1987 1 0 k,.us 2029 1 0 n]),(2029,.uarr 1 (nR id n)),
   (1961,.uarr 1 (oR A om (fun _=>n) k)),(1972,.uarr 3 (fR bb k)),(1987,.uarr 1 (nR (fun i=>n+i) k))],out:=out,base:=1000}
theorem Px {n m:Nat} {A:Nat→Nat→Rat} {bb gg:Nat→Rat} {ρ:List (Nat × zb)} {s:St} {K:AV→St→Prop} (hs:s.sto=ρ) (hρ:rest ρ) (hE:yS 1000 s.env) (hO:yh 1000 s.out) (hm:m<1000000) (hn:n<1000000)
  (h:K (.ptr 1015 0) ⟨s.env,ρ++[(1015,.var [iv n,iv m,.us 1961 1 0 m,.us 1972 3 0 m,vh n,f0 0,f1 0,f2 0,.us 1987 1 0 m,.us 2029 1 0 n]),(2029,.uarr 1 (nR id n)),
   (1961,.uarr 1 (oR A om (fun _=>n) m)),(1972,.uarr 3 (fR bb m)),(1987,.uarr 1 (nR (fun i=>n+i) m))],s.out,s.base⟩) :
  afN Try.prog ut [pA A bb gg n m] s K:=by
 obtain ⟨env,σ,out,base⟩:=s
 simp only at hs hE hO h
 subst hs
 have g0:zc Try.prog zI [iv 0] (fq 0):=xy (n:=0) (by decide) (by decide)
 have hpt:∀ k e,far k=true→pt σ k e=σ++[(k,e)]:=fun k e hk=>by
  have:=rpt (l:=[]) (e:=e) hρ hk
  simpa using this
 have hlk:∀ k,far k=true→lk σ k=none:=fun k hk=>bS hρ hk
 refine xL 1000 UT (by simp) ?_
 simp[gr,hpt,hlk,rlk hρ,far]
 refine za g0 (by simp) (by simp) ?_
 simp[rlk hρ,rpt hρ,far]
 have hE2:yS 2000 env:=Tm (by omega) hE
 have hO2:yh 2000 out:=JB (by omega) hO
 have hne:∀ k,k≠0→vh k=.list 3 (.own 2039) (fR (fun _=>0) k):=fun k hk=>by unfold vh; rw[if_neg hk]
 have hz:vh 0=zK:=rfl
 refine sj (UH A bb gg n m σ (env::out)) (fun _=>True) n ?_ trivial (fun k hk _=>?_) (fun _=>?_)
 ·refine St.imp.trans (St.imp_tok 2029 1 (by simp[rlk hρ,far])) ?_
  simp[St.dg,pO hρ,dO hE,cb hO,rpt hρ,far,-dgE,ww]
  refine St.imp.trans (St.imp_cell_nil (k:=1015) (j:=9) (l:=2029) (sz:=1) (by simp[rlk hρ,far]; rfl) (by simp; rfl) (by simp[rlk hρ,far])) ?_
  simp[rpt hρ,far,UH,hz]
  exact St.imp.refl
 ·have e:(k:Int)<n:=by omega
  have w:=zC (k:=k) (by omega)
  have hap:nR id k++[[iv k]]=nR id (k+1):=JQ (f:=id)
  have hfp:fR (fun _=>0) k++[fr 0]=fR (fun _=>0) (k+1):=nj.symm
  have hne1:=hne (k+1) (by omega)
  have hcd:∀ l,¬ l=2039→dg l (vh k)=vh k:=fun l h=>bp h
  simp[rJ,UH,e,rlk hρ,rpt hρ,far,pO hρ,dO hE,cb hO,-dgE,ww,wm,hap,hcd]
  refine ⟨by omega,by omega,?_⟩
  refine za g0 (by simp) (by simp) ?_
  by_cases k0:k=0
  ·subst k0
   have w1:IntKind.i64.wrap 1=1:=by decide
   have h1:fR (fun _=>(0:Rat)) 1=[fr 0]:=rfl
   simp[hz,rlk hρ,rpt hρ,far,pO hρ,dO hE,cb hO,-dgE,ww,wm,w1,UH,hne 1 (by omega),h1]
   refine St.imp.trans (St.imp_rn 1039 2039) ?_
   have hr0:=DB (k:=1039) (l:=2039) hρ rfl rfl
   have he:=bE (k:=1039) (by omega) (j:=2039) (by omega) hE
   have ho:=Ug (k:=1039) (by omega) (j:=2039) (by omega) hO
   simp only[St.rn,List.map_append,hr0]
   simp only[List.map_cons,List.map_nil,bT,eh,Qp,Su,Xc,eo,Qo,Mj,Le,MQ,MR,MS,sw,Nat.reduceEqDiff,if_true,if_false,he,ho]
   exact St.imp.refl
  ·simp[hne k k0,rlk hρ,rpt hρ,far,pO hρ,dO hE,cb hO,-dgE,ww,wm,hfp,w,UH,hne1]
   exact ⟨by omega,by omega,St.imp.refl⟩
 ·have hcd:∀ l,¬ l=2039→dg l (vh n)=vh n:=fun l h=>bp h
  simp[rJ,UH,mS,rlk hρ,wb hρ,far,-dgE,xd hρ,aaZ hE,abi hO]
  refine sj (LY A bb gg n m σ (env::out)) (fun _=>True) m ?_ trivial (fun k hk _=>?_) (fun _=>?_)
  ·refine St.imp.trans (St.imp_tok 1961 1 (by simp[rlk hρ,far])) ?_
   simp[St.dg,rpt hρ,far,pO hρ,dO hE,cb hO,-dgE,ww,wm,hcd]
   refine St.imp.trans (St.imp_cell_nil (k:=1015) (j:=2) (l:=1961) (sz:=1) (by simp[rlk hρ,far]; rfl) (by simp; rfl) (by simp[rlk hρ,far])) ?_
   simp[rpt hρ,far]
   refine St.imp.trans (St.imp_tok 1972 3 (by simp[rlk hρ,far])) ?_
   simp[St.dg,rpt hρ,far,pO hρ,dO hE,cb hO,-dgE,ww,wm,hcd]
   refine St.imp.trans (St.imp_cell_nil (k:=1015) (j:=3) (l:=1972) (sz:=3) (by simp[rlk hρ,far]; rfl) (by simp; rfl) (by simp[rlk hρ,far])) ?_
   simp[rpt hρ,far]
   refine St.imp.trans (St.imp_tok 1987 1 (by simp[rlk hρ,far])) ?_
   simp[St.dg,rpt hρ,far,pO hρ,dO hE,cb hO,-dgE,ww,wm,hcd]
   refine St.imp.trans (St.imp_cell_nil (k:=1015) (j:=8) (l:=1987) (sz:=1) (by simp[rlk hρ,far]; rfl) (by simp; rfl) (by simp[rlk hρ,far])) ?_
   simp[rpt hρ,far,LY]
   exact St.imp.refl
  ·have e:(k:Int)<m:=by omega
   have w:=zC (k:=k) (by omega)
   have hau:xM 1 [[zK]] [0] [.list 3 (.own 1059) (fR (A k) n)]=some [[.list 3 (.own 1059) (fR (A k) n)]]:=rfl
   have hd1:∀ l,¬ l=1059→zU l [[.list 3 (.own 1059) (fR (A k) n)]]=[[.list 3 (.own 1059) (fR (A k) n)]]:=fun l h=>by
    have:¬ 1059=l:=fun e=>h e.symm
    simp[zU,dg,this]
   have hfb:fR bb k++[fr (bb k)]=fR bb (k+1):=nj.symm
   have hnb:nR (fun i=>n+i) k++[[iv (n+k:Nat)]]=nR (fun i=>n+i) (k+1):=JQ (f:=fun i=>n+i)
   have hnb':nR (fun i=>n+i) k++[[iv ((n:Int)+k)]]=nR (fun i=>n+i) (k+1):=by rw[← hnb,Int.natCast_add]
   have wn:IntKind.i64.wrap (n+k)=(n:Int)+(k:Int):=by rw[wrap64]<;>omega
   simp[rL,LY,e,hk,rlk hρ,rpt hρ,wb hρ,far,pO hρ,dO hE,cb hO,-dgE,ww,wm,hcd,xd hρ,aaZ hE,abi hO,hau,acu,ahM,hd1,hfb,wn,w,aj]
   refine ⟨by omega,by omega,by omega,by omega,by omega,by omega,by omega,by omega,?_⟩
   refine St.imp.trans (St.imp_rn 1059 (1000000+k)) ?_
   have ho:om k=.own (1000000+k):=rfl
   have hap:=abh (a:=A) (md:=om) (cl:=fun _=>n) (k:=k)
   rw[ho] at hap
   have s1:∀ l,l<1000000→¬ l=1059→sw 1059 (1000000+k) l=l:=fun l h1 h2=>by unfold sw; rw[if_neg h2,if_neg (by omega)]
   have s2:sw 1059 (1000000+k) 1059=1000000+k:=by unfold sw; rw[if_pos rfl]
   have hf:far (1000000+k)=true:=decide_eq_true (by omega)
   have hc:=Bn (l:=1059) (j:=1000000+k) (k:=n) (by omega) (by omega)
   have hr:=acv (A:=A) (cl:=fun _=>n) (n:=k) (k:=1059) (l:=k) (by omega) (Nat.le_refl _)
   have he:=bE (k:=1059) (by omega) (j:=1000000+k) (by omega) hE
   have ho':=Ug (k:=1059) (by omega) (j:=1000000+k) (by omega) hO
   have hq:zU 1987 [[iv ((n:Int)+k)]]=[[iv ((n+k:Nat):Int)]]:=by rw[Int.natCast_add]; rfl
   have hr0:=DB (k:=1059) (l:=1000000+k) hρ rfl hf
   simp only[St.rn,List.map_append,List.map_cons,List.map_nil,hr0,s1,s2,bT,eh,Qp,Su,Xc,eo,Qo,hr,hc,he,ho',Le,CC,MQ,MR,MS,hap,hq,Nat.reduceLT,Nat.reduceEqDiff,not_false_eq_true,Int.natCast_add]
   rw[hnb']
   exact St.imp.refl
  ·simp[rL,LY,mQ,gH,-dgE]
   exact h
noncomputable def QQ (n:Nat) (out:List (List (Nat × AV))) (k:Nat):St:={env:=[(3,.sl 1006 3 0 n),(8,iv n),(9,iv k)],sto:=[(1006,.arr 3 (fZ (fun _=>0) k n))],out:=out,base:=1000}
theorem Pa {n:Nat} {s:St} {K:AV→St→Prop} (hs:s.sto=[]) (hn:n<1000000) (h:K (.sl 1006 3 0 n) ⟨s.env,[(1006,.arr 3 (fR (fun _=>0) n))],s.out,s.base⟩) :
  afN Try.prog sd [iv n] s K:=by
 obtain ⟨env,σ,out,base⟩:=s
 simp only at hs h
 subst hs
 refine xL 1000 TO (by simp) ?_
 simp[dL,eMk]
 refine ⟨by omega,by omega,?_⟩
 rw[nn (f:=fun _=>0)]
 have k0:zc Try.prog zI [iv 0] (fq 0):=xy (n:=0) (by decide) (by decide)
 refine zB (QQ n (env::out)) (fun _=>True) n (by simp[QQ]) trivial (fun k hk _=>?_) (fun _=>?_)
 ·have e:(k:Int)<n:=by omega
  have w:=zC (k:=k) (by omega)
  have hs:=kD (f:=fun _=>0) hk
  simp[sB,QQ,e]
  refine za k0 (by simp) (by simp) ?_
  simp[splice,hk,w,hs,QQ]
 ·simp[sB,ku,cu,QQ,nk]
  exact h
theorem fW:yM Try.prog sd=true:=by kernel_rfl
noncomputable def tR (n m:Nat) (d:zn):AV:=.ro [iv n,iv m,.list 1 .plain (cR d.a (fun _=>d.c) m),fL d.b m,fL d.cst d.c,f0 d.v,f1 d.v,f2 d.v,.list 1 .plain (nR d.bas m),.list 1 .plain (nR d.fre d.c)]
def xJ (n m:Nat) (d:zn):Nat→Nat→Rat
 | 0=>fun _=>0
 | k+1=>if n≤d.fre k∧d.fre k<n+m then upd (xJ n m d k) (d.fre k-n) (-d.cst k) else xJ n m d k
noncomputable def ZY (n m:Nat) (d:zn) (k:Nat):St :=
 {env:=[(0,tR n m d),(3,.sl 1006 3 0 m),(14,.list 1 .plain (nR d.fre d.c)),(15,iv d.c),(16,iv k)],sto:=[(1006,.arr 3 (fR (xJ n m d k) m))]}
theorem Qd {n m L:Nat} {d:zn} (hm:m<1000000) (hn:n<1000000) (hc:d.c<1000000) (hfre:∀ j,j<d.c→d.fre j<4000000) (hL:L≤100000000000) (hsz:∀ j,j<d.c→sz L (d.cst j)) :
  zc Try.prog uo [tR n m d] (fL (xJ n m d d.c) m):=by
 refine zG cQ (by simp[tR]) ?_
 simp[lO,tR,fW]
 refine afM (Pa rfl hm ?_)
 simp
 refine zB (ZY n m d) (fun _=>True) d.c (by simp[ZY,tR,xJ]) trivial (fun k hk _=>?_) (fun _=>?_)
 ·have e:(k:Int)<d.c:=by omega
  have w:=zC (k:=k) (by omega)
  have g:=Sr (K:=L) (by omega) (hsz k hk)
  have hf:=hfre k hk
  obtain ⟨f,hfe⟩:∃ f,d.fre k=f:=⟨_,rfl⟩
  rw[hfe] at hf
  have w1:IntKind.i64.wrap ((n:Int)+m)=(n:Int)+m:=by rw[wrap64]<;>omega
  by_cases h1:n≤f
  ·by_cases h2:f<n+m
   ·have ev:xJ n m d (k+1)=upd (xJ n m d k) (f-n) (-d.cst k):=by simp only[xJ]; rw[hfe,if_pos ⟨h1,h2⟩]
    have h1':(n:Int)≤f:=by omega
    have h2':(f:Int)<n+m:=by omega
    have w2:IntKind.i64.wrap ((f:Int)-n)=((f-n:Nat):Int):=by rw[wrap64]<;>omega
    have h3:f-n<m:=by omega
    have h4:((f-n:Nat):Int)<m:=by omega
    generalize f-n=g0 at *
    simp[xi,ZY,tR,e,hk,hfe,w1,h1',h2',w2]
    refine za g (by simp) (by simp) ?_
    simp[splice,h3,h4,w,ZY,tR,ev,tu]
   ·have ev:xJ n m d (k+1)=xJ n m d k:=by simp only[xJ]; rw[hfe,if_neg fun h=>h2 h.2]
    have h1':(n:Int)≤f:=by omega
    have h2':¬ (f:Int)<n+m:=by omega
    simp[xi,ZY,tR,e,hk,hfe,w1,h1',h2',w,ev]
  ·have ev:xJ n m d (k+1)=xJ n m d k:=by simp only[xJ]; rw[hfe,if_neg fun h=>h1 h.1]
   have h1':¬ (n:Int)≤f:=by omega
   simp[xi,ZY,tR,e,hk,hfe,h1',w,ev]
 ·simp[xi,q7,kT,ZY]
def qt (n:Nat) (d:zn):Nat→Nat→Rat
 | 0=>fun _=>0
 | k+1=>if d.bas k<n then upd (qt n d k) (d.bas k) (d.b k) else qt n d k
noncomputable def QM (n m:Nat) (d:zn) (k:Nat):St :=
 {env:=[(0,tR n m d),(3,.sl 1006 3 0 n),(14,.list 1 .plain (nR d.bas m)),(15,iv m),(16,iv k)],sto:=[(1006,.arr 3 (fR (qt n d k) n))]}
theorem PF {n m:Nat} {d:zn} (hm:m<1000000) (hn:n<1000000) :
  zc Try.prog rN [tR n m d] (fL (qt n d m) n):=by
 refine zG PX (by simp[tR]) ?_
 simp[aq,tR,fW]
 refine afM (Pa rfl hn ?_)
 simp
 refine zB (QM n m d) (fun _=>True) m (by simp[QM,tR,qt]) trivial (fun k hk _=>?_) (fun _=>?_)
 ·have e:(k:Int)<m:=by omega
  have w:=zC (k:=k) (by omega)
  obtain ⟨f,hfe⟩:∃ f,d.bas k=f:=⟨_,rfl⟩
  by_cases h1:f<n
  ·have ev:qt n d (k+1)=upd (qt n d k) f (d.b k):=by simp only[qt]; rw[hfe,if_pos h1]
   have h1':(f:Int)<n:=by omega
   simp[rg,QM,tR,e,hk,hfe,h1,h1',w,ev,splice,tu]
  ·have ev:qt n d (k+1)=qt n d k:=by simp only[qt]; rw[hfe,if_neg h1]
   have h1':¬ (f:Int)<n:=by omega
   simp[rg,QM,tR,e,hk,hfe,h1',w,ev]
 ·simp[rg,gp,aT,QM]
def uL (n:Nat) (d:zn) (q:Nat):Nat→Nat→Rat
 | 0=>if d.fre q<n then upd (fun _=>0) (d.fre q) 1 else fun _=>0
 | k+1=>if d.bas k<n then upd (uL n d q k) (d.bas k) (-d.a k q) else uL n d q k
noncomputable def eE (n m q:Nat) (d:zn) (k:Nat):St :=
 {env:=[(0,tR n m d),(1,iv q),(5,.sl 1006 3 0 n),(38,.list 1 .plain (nR d.bas m)),(39,iv m),(40,iv k)],sto:=[(1006,.arr 3 (fR (uL n d q k) n))]}
theorem Gj {n m q L:Nat} {d:zn} (hm:m<1000000) (hn:n<1000000) (hq:q<d.c) (hL:L≤100000000000) (hsz:∀ i,i<m→sz L (d.a i q)) :
  zc Try.prog dq [tR n m d,iv q] (fL (uL n d q m) n):=by
 have h1g:zc Try.prog zI [iv 1] (fq 1):=xy (n:=1) (by decide) (by decide)
 have eq0:(q:Int)<d.c:=by omega
 obtain ⟨f,hfe⟩:∃ f,d.fre q=f:=⟨_,rfl⟩
 have loop:awp Try.prog (.loop sr) (eE n m q d 0) (wN 0 (sP Try.prog lP (ZL ah3 (fL (uL n d q m) n)))):=by
  refine zB (eE n m q d) (fun _=>True) m (by simp[eE]) trivial (fun k hk _=>?_) (fun _=>?_)
  ·have e:(k:Int)<m:=by omega
   have w:=zC (k:=k) (by omega)
   have g:=Sr (K:=L) (by omega) (hsz k hk)
   obtain ⟨f,hfe⟩:∃ f,d.bas k=f:=⟨_,rfl⟩
   by_cases h1:f<n
   ·have ev:uL n d q (k+1)=upd (uL n d q k) f (-d.a k q):=by simp only[uL]; rw[hfe,if_pos h1]
    have h1':(f:Int)<n:=by omega
    simp[sr,eE,tR,e,hk,hq,eq0,hfe,h1']
    refine za g (by simp) (by simp) ?_
    simp[eE,tR,h1,h1',w,ev,splice,tu]
   ·have ev:uL n d q (k+1)=uL n d q k:=by simp only[uL]; rw[hfe,if_neg h1]
    have h1':¬ (f:Int)<n:=by omega
    simp[sr,eE,tR,e,hk,hfe,h1',w,ev]
  ·simp[sr,lP,ah3,eE]
 refine zG Fb (by simp[tR]) ?_
 simp[UX,tR,fW]
 refine afM (Pa rfl hn ?_)
 by_cases h1:f<n
 ·have h1':(f:Int)<n:=by omega
  have ev:uL n d q 0=upd (fun _=>0) f 1:=by simp only[uL]; rw[hfe,if_pos h1]
  simp[hq,eq0,hfe,h1']
  refine za h1g (by simp) (by simp) ?_
  simp[h1,h1',splice,tu]
  simpa [eE,tR,ev] using loop
 ·have h1':¬ (f:Int)<n:=by omega
  have ev:uL n d q 0=fun _=>0:=by simp only[uL]; rw[hfe,if_neg h1]
  simp[hq,eq0,hfe,h1']
  simpa [eE,tR,ev] using loop
noncomputable def QR (n:Nat) (σ:List (Nat × zb)) (out:List (List (Nat × AV))) (k:Nat):St:={env:=[(3,.sl 5006 3 0 n),(8,iv n),(9,iv k)],sto:=σ++[(5006,.arr 3 (fZ (fun _=>0) k n))],out:=out,base:=5000}
theorem abZ {n n' m:Nat} {d:zn} {ρ:List (Nat × zb)} {s:St} {K:AV→St→Prop} (hs:s.sto=ρ++tL n' m d) (hρ:rest ρ) (hn:n<1000000)
  (h:K (.sl 5006 3 0 n) ⟨s.env,ρ++(tL n' m d++[(5006,.arr 3 (fR (fun _=>0) n))]),s.out,s.base⟩) :
  afN Try.prog sd [iv n] s K:=by
 obtain ⟨env,σ,out,base⟩:=s
 simp only at hs h
 subst hs
 refine xL 5000 TO (by simp) ?_
 simp[dL,eMk,tL,rlk hρ,rpt hρ,far]
 refine ⟨by omega,by omega,?_⟩
 rw[nn (f:=fun _=>0)]
 have k0:zc Try.prog zI [iv 0] (fq 0):=xy (n:=0) (by decide) (by decide)
 refine zB (QR n (ρ++tL n' m d) (env::out)) (fun _=>True) n (by simp[QR,tL]) trivial (fun k hk _=>?_) (fun _=>?_)
 ·have e:(k:Int)<n:=by omega
  have w:=zC (k:=k) (by omega)
  have hs:=kD (f:=fun _=>0) hk
  simp[sB,QR,tL,e]
  refine za k0 (by simp) (by simp) ?_
  simp[splice,hk,w,hs,QR,rlk hρ,rpt hρ,far]
 ·simp[sB,ku,cu,QR,tL,nk]
  exact h
noncomputable def j7 (ls:List (Nat × AV)) (σ:List (Nat × zb)) (f:Nat→Rat) (len:Nat) (out:List (List (Nat × AV))) (last:Bool):St :=
 if last then ⟨ls++[(3,fL f len)],σ,out,4500⟩ else ⟨ls++[(3,.sl 5006 3 0 len)],σ++[(5006,.arr 3 (fR f len))],out,4500⟩
theorem ahN {ls:List (Nat × AV)} {σ:List (Nat × zb)} {f:Nat→Rat} {len:Nat} {out:List (List (Nat × AV))}:j7 ls σ f len out false=⟨ls++[(3,.sl 5006 3 0 len)],σ++[(5006,.arr 3 (fR f len))],out,4500⟩:=rfl
theorem RZ {M k len:Nat} {ls:List (Nat × AV)} {f:Nat→Rat} (hl:yS M ls) (hk:M≤k):rz k (ls++[(3,fL f len)])=true :=
 m9 (M:=M) hk fun p hp=>by
  rcases List.mem_append.1 hp with h | h
  ·exact hl p h
  ·simp only[List.mem_singleton] at h; subst h; rfl
theorem QD {ls:List (Nat × AV)} {n m:Nat} {d:zn} {ρ:List (Nat × zb)} {f:Nat→Rat} {len:Nat} {out:List (List (Nat × AV))} {last:Bool} (hρ:rest ρ) (hl:yS 3000 ls) (hO:yh 2000 out) :
  St.imp (j7 ls (ρ++tL n m d) f len out false) (j7 ls (ρ++tL n m d) f len out last):=by
 cases last with
 | false=>exact St.imp.refl
 | true =>
  refine St.imp_freeze (k:=5006) ?_
  have hn1:rz 5006 (ls++[(3,fL f len)])=true:=RZ hl (by omega)
  have e1:=Zz (k:=5006) (e:=.arr 3 (fR f len)) (by omega) hl
  simp[xf,j7,tL,rlk hρ,wb hρ,xd hρ,ono hO,Dx hρ,Lg hO,far,vL,sF,vr,rQ,e1,hn1]
abbrev lsA (d:zn) (k:Nat):List (Nat × AV):=[(0,.ptr 1015 0),(14,.us 2029 1 0 d.c),(15,iv d.c),(16,iv k)]
theorem NQ {d:zn} {k:Nat}:yS 3000 (lsA d k):=by simp[yo,yy,vO,y7]; rfl
theorem Aj {n m L:Nat} {d:zn} {ρ:List (Nat × zb)} {s:St} {K:AV→St→Prop} (hs:s.sto=ρ++tL n m d) (hρ:rest ρ) (hE:yS 2000 s.env) (hO:yh 2000 s.out) (hm:m<1000000) (hn:n<1000000) (hc:d.c<1000000) (hfre:∀ j,j<d.c→d.fre j<4000000) (hL:L≤100000000000) (hsz:∀ j,j<d.c→sz L (d.cst j))
  (h:K (fL (xJ n m d d.c) m) ⟨s.env,ρ++tL n m d,s.out,s.base⟩):afN Try.prog uo [.ptr 1015 0] s K:=by
 obtain ⟨env,σ,out,base⟩:=s
 simp only at hs hE hO h
 subst hs
 have hO2:yh 2000 (env::out):=qU.2 ⟨hE,hO⟩
 refine xL 4500 cQ (by simp) ?_
 simp[lO,fW,tL,rlk hρ,far]
 refine afM (abZ (d:=d) (n':=n) (m:=m) rfl hρ hm ?_)
 simp[tL,rlk hρ,far]
 refine sj (fun k=>j7 (lsA d k) (ρ++tL n m d) (xJ n m d k) m (env::out) (k == d.c)) (fun _=>True) d.c (St.imp.trans (St.imp_of (by simp[j7,tL,xJ])) (QD hρ NQ hO2)) trivial (fun k hk _=>?_) (fun _=>?_)
 ·have e:(k:Int)<d.c:=by omega
  have hlast:(k == d.c)=false:=by simp; omega
  rw[hlast]
  have fin:=QD (last:=k+1 == d.c) (n:=n) (m:=m) (d:=d) (f:=xJ n m d (k+1)) (len:=m) hρ (NQ (d:=d) (k:=k+1)) hO2
  have w:=zC (k:=k) (by omega)
  have g:=Sr (K:=L) (by omega) (hsz k hk)
  have hf:=hfre k hk
  obtain ⟨f,hfe⟩:∃ f,d.fre k=f:=⟨_,rfl⟩
  rw[hfe] at hf
  have w1:IntKind.i64.wrap ((n:Int)+m)=(n:Int)+m:=by rw[wrap64]<;>omega
  by_cases h1:n≤f
  ·by_cases h2:f<n+m
   ·have ev:xJ n m d (k+1)=upd (xJ n m d k) (f-n) (-d.cst k):=by simp only[xJ]; rw[hfe,if_pos ⟨h1,h2⟩]
    have h1':(n:Int)≤f:=by omega
    have h2':(f:Int)<n+m:=by omega
    have w2:IntKind.i64.wrap ((f:Int)-n)=((f-n:Nat):Int):=by rw[wrap64]<;>omega
    have h3:f-n<m:=by omega
    have h4:((f-n:Nat):Int)<m:=by omega
    rw[ev] at fin
    generalize f-n=g0 at *
    simp[xi,ahN,tL,rlk hρ,far,e,hk,hfe,w1,h1',h2',w2]
    refine za g (by simp) (by simp) ?_
    simp[splice,h3,h4,w,tu,rlk hρ,rpt hρ,far]
    rw[ev]
    refine St.imp.trans (St.imp_of ?_) fin
    simp[j7,tL]
   ·have ev:xJ n m d (k+1)=xJ n m d k:=by simp only[xJ]; rw[hfe,if_neg fun h=>h2 h.2]
    have h1':(n:Int)≤f:=by omega
    have h2':¬ (f:Int)<n+m:=by omega
    simp[xi,ahN,tL,rlk hρ,far,e,hk,hfe,w1,h1',h2',w]
    refine St.imp.trans (St.imp_of ?_) fin
    simp[j7,tL,ev]
  ·have ev:xJ n m d (k+1)=xJ n m d k:=by simp only[xJ]; rw[hfe,if_neg fun h=>h1 h.1]
   have h1':¬ (n:Int)≤f:=by omega
   simp[xi,ahN,tL,rlk hρ,far,e,hk,hfe,h1',w]
   refine St.imp.trans (St.imp_of ?_) fin
   simp[j7,tL,ev]
 ·simp[xi,q7,kT,j7]
  exact h
end Go.Proofs.Ytbgnkodhpbkdoaa
