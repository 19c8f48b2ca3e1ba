/- What the proof rests on, part 10: F8 F9 F10 F12 F13 F14 F15 X0 MR RFx YS Y1 BBs GA CM X1 X2 X3 X4 X5 X6 X7 X8 X8b LP5 X9 X10. -/
import Derived.Test.YtfmcplfbnkoglaaGreatP9
set_option maxRecDepth 100000
set_option maxHeartbeats 4000000
namespace Go.Proofs.YtfmcplfbnkoglaaGreat
open Go Go.Am Go.Dig
def TN (s:Bool) (N D:Nat) (t:Bool) (M E:Nat):AV :=
 if s=t then xj s (N*E+M*D) (D*E) else if N*E<M*D then xj t (M*D-N*E) (D*E) else xj s (N*E-M*D) (D*E)
theorem La {x y n:Nat} (hx:(zf x).length≤n) (hy:(zf y).length≤n):(zf (x+y)).length≤n+1:=zG.2 (by
 have h1:=zG.1 hx
 have h2:=zG.1 hy
 rw[Nat.pow_succ]
 have:B^n*2≤B^n*B:=Nat.mul_le_mul_left _ (by decide)
 omega)
theorem Yb {x y n:Nat} (hx:(zf x).length≤n):(zf (x-y)).length≤n:=zG.2 (Nat.lt_of_le_of_lt (Nat.sub_le _ _) (zG.1 hx))
theorem pN (s:Bool) (N D:Nat):∃ b p q,xj s N D=.agg [bv b,nD p,nD q]:=⟨_,_,_,rfl⟩
theorem KL {s t:Bool} {N D M E:Nat} (hN:(zf N).length<17179869184) (hD:(zf D).length<17179869184) (hM:(zf M).length<17179869184) (hE:(zf E).length<17179869184) (h0:D≠0) (h1:E≠0) :
  zd Tryz.prog sI [frA s N D,frA t M E] (TN s N D t M E):=by
 have l1:=vr (Nat.le_refl (zf N).length) (Nat.le_refl (zf E).length)
 have l2:=vr (Nat.le_refl (zf M).length) (Nat.le_refl (zf D).length)
 have l3:=vr (Nat.le_refl (zf D).length) (Nat.le_refl (zf E).length)
 have h2:D*E≠0:=Nat.mul_ne_zero h0 h1
 have kx:=Yt (s:=s) (t:=t) hN hD hM hE
 have kd:=rT (m1:=.plain) (m2:=.plain) (zw D) (zw E) (by omega) (by omega) (by omega) rfl rfl
 simp only[zI] at kd
 have l4:=La (n:=34359738368) (show (zf (N*E)).length≤34359738368 by omega) (show (zf (M*D)).length≤34359738368 by omega)
 have l5:=Yb (y:=M*D) l1
 have l6:=Yb (y:=N*E) l2
 have ka:=gG (m1:=.plain) (m2:=.plain) (zw (N*E)) (zw (M*D)) (by omega) (by omega)
 have ks:=RV (m1:=.plain) (m2:=.plain) (zw (N*E)) (zw (M*D)) (by omega) (by omega)
 have ks2:=RV (m1:=.plain) (m2:=.plain) (zw (M*D)) (zw (N*E)) (by omega) (by omega)
 simp only[zI] at ka ks ks2
 have m1:=qw (neg:=s) (N:=N*E+M*D) (D:=D*E) (by omega) (by omega) h2
 have m2:=qw (neg:=s) (N:=N*E-M*D) (D:=D*E) (by omega) (by omega) h2
 have m3:=qw (neg:=t) (N:=M*D-N*E) (D:=D*E) (by omega) (by omega) h2
 unfold TN
 refine zC ack (by simp) ?_
 generalize N*E=x at *
 generalize M*D=y at *
 generalize D*E=d at *
 by_cases hst:s=t
 ·have e:(s == t)=true:=by simp[hst]
  obtain ⟨b,p,q,hf⟩:=pN s (x+y) d
  rw[if_pos hst,hf]
  rw[hf] at m1
  simp[TS]
  refine za kx (by simp) (by simp) ?_
  simp
  refine za kd (by simp) (by simp) ?_
  simp[pq wS,e]
  refine za ka (by simp) (by simp) ?_
  simp
  refine za m1 (by simp) (by simp) ?_
  simp[ZV]
 ·have e:(s == t)=false:=by simp[hst]
  rw[if_neg hst]
  simp[TS]
  refine za kx (by simp) (by simp) ?_
  simp
  refine za kd (by simp) (by simp) ?_
  simp[pq wS,e]
  refine za ks (by simp) (by simp) ?_
  by_cases hlt:x<y
  ·obtain ⟨b,p,q,hf⟩:=pN t (y-x) d
   rw[if_pos hlt,hf]
   rw[hf] at m3
   have hge:¬ y<x:=by omega
   rw[if_neg hge] at ks2
   simp[hlt]
   refine za ks2 (by simp) (by simp) ?_
   simp
   refine za m3 (by simp) (by simp) ?_
   simp[ZV]
  ·obtain ⟨b,p,q,hf⟩:=pN s (x-y) d
   rw[if_neg hlt,hf]
   rw[hf] at m2
   simp[hlt]
   refine za m2 (by simp) (by simp) ?_
   simp[ZV]
theorem abo {s:Bool} {N D:Nat} (hN:(zf N).length<68719476736) (_hD:(zf D).length<68719476736):zd Tryz.prog Zz [frA s N D] (frA (!s&&decide (N≠0)) N D):=by
 refine zC acz (by simp) ?_
 cases s
 ·by_cases h0:N=0
  ·subst h0
   simp[ZF,ZY,yf]
  ·have:0<(zf N).length:=by
    rcases Nat.eq_zero_or_pos (zf N).length with h | h
    ·rw[List.length_eq_zero_iff,yB] at h; exact absurd h h0
    ·exact h
   simp[ZF,ZY,this,h0]
 ·simp[ZF,ZY]
theorem Ba {s t:Bool} {N D M E:Nat} (hN:(zf N).length<17179869184) (hD:(zf D).length<17179869184) (hM:(zf M).length<17179869184) (hE:(zf E).length<17179869184) (h0:D≠0) (h1:E≠0) :
  zd Tryz.prog p0 [frA s N D,frA t M E] (xj (!(s == t)) (N*M) (D*E)):=by
 have l1:=vr (Nat.le_refl (zf N).length) (Nat.le_refl (zf M).length)
 have l2:=vr (Nat.le_refl (zf D).length) (Nat.le_refl (zf E).length)
 have h2:D*E≠0:=Nat.mul_ne_zero h0 h1
 have k1:=eY (m1:=.plain) (m2:=.plain) (zw N) (zw M) (by omega) rfl rfl
 have k2:=eY (m1:=.plain) (m2:=.plain) (zw D) (zw E) (by omega) rfl rfl
 simp only[zI] at k1 k2
 have k:=j7 (neg:=!(s == t)) (N:=N*M) (D:=D*E) (by omega) (by omega) h2
 obtain ⟨b,p,q,hf⟩:=pN (!(s == t)) (N*M) (D*E)
 rw[hf] at k ⊢
 refine zC acy (by simp) ?_
 simp[Lr,yG wS]
 refine za k1 (by simp) (by simp) ?_
 simp
 refine za k2 (by simp) (by simp) ?_
 simp
 refine za k (by simp) (by simp) ?_
 simp[Kp]
theorem DT {s t:Bool} {N D M E:Nat} (hN:(zf N).length<17179869184) (hD:(zf D).length<17179869184) (hM:(zf M).length<17179869184) (hE:(zf E).length<17179869184) (h0:D≠0) (h1:E≠0) :
  zd Tryz.prog sJ [frA s N D,frA t M E] (TN s N D t M E):=by
 have l1:=vr (Nat.le_refl (zf N).length) (Nat.le_refl (zf E).length)
 have l2:=vr (Nat.le_refl (zf M).length) (Nat.le_refl (zf D).length)
 have l3:=vr (Nat.le_refl (zf D).length) (Nat.le_refl (zf E).length)
 have h2:D*E≠0:=Nat.mul_ne_zero h0 h1
 have kx:=eY (m1:=.plain) (m2:=.plain) (zw N) (zw E) (by omega) rfl rfl
 have ky:=eY (m1:=.plain) (m2:=.plain) (zw M) (zw D) (by omega) rfl rfl
 have kd:=eY (m1:=.plain) (m2:=.plain) (zw D) (zw E) (by omega) rfl rfl
 simp only[zI] at kd kx ky
 have l4:=La (n:=34359738368) (show (zf (N*E)).length≤34359738368 by omega) (show (zf (M*D)).length≤34359738368 by omega)
 have l5:=Yb (y:=M*D) l1
 have l6:=Yb (y:=N*E) l2
 have ka:=je (m1:=.plain) (m2:=.plain) (zw (N*E)) (zw (M*D)) (by omega) (by omega) rfl rfl
 have ks:=ST (m1:=.plain) (m2:=.plain) (zw (N*E)) (zw (M*D)) (by omega) (by omega) rfl rfl
 have ks2:=ST (m1:=.plain) (m2:=.plain) (zw (M*D)) (zw (N*E)) (by omega) (by omega) rfl rfl
 simp only[zI] at ka ks ks2
 have m1:=j7 (neg:=s) (N:=N*E+M*D) (D:=D*E) (by omega) (by omega) h2
 have m2:=j7 (neg:=s) (N:=N*E-M*D) (D:=D*E) (by omega) (by omega) h2
 have m3:=j7 (neg:=t) (N:=M*D-N*E) (D:=D*E) (by omega) (by omega) h2
 unfold TN
 refine zC acw (by simp) ?_
 generalize N*E=x at *
 generalize M*D=y at *
 generalize D*E=d at *
 by_cases hst:s=t
 ·have e:(s == t)=true:=by simp[hst]
  obtain ⟨b,p,q,hf⟩:=pN s (x+y) d
  rw[if_pos hst,hf]
  rw[hf] at m1
  simp[TV]
  refine za kx (by simp) (by simp) ?_
  simp
  refine za ky (by simp) (by simp) ?_
  simp
  refine za kd (by simp) (by simp) ?_
  simp[pq wS,e]
  refine za ka (by simp) (by simp) ?_
  simp
  refine za m1 (by simp) (by simp) ?_
  simp[ZX]
 ·have e:(s == t)=false:=by simp[hst]
  rw[if_neg hst]
  simp[TV]
  refine za kx (by simp) (by simp) ?_
  simp
  refine za ky (by simp) (by simp) ?_
  simp
  refine za kd (by simp) (by simp) ?_
  simp[pq wS,e]
  refine za ks (by simp) (by simp) ?_
  by_cases hlt:x<y
  ·obtain ⟨b,p,q,hf⟩:=pN t (y-x) d
   rw[if_pos hlt,hf]
   rw[hf] at m3
   have hge:¬ y≤x:=by omega
   simp[hge]
   refine za ks2 (by simp) (by simp) ?_
   simp
   refine za m3 (by simp) (by simp) ?_
   simp[ZX]
  ·obtain ⟨b,p,q,hf⟩:=pN s (x-y) d
   rw[if_neg hlt,hf]
   rw[hf] at m2
   have hle:y≤x:=by omega
   simp[hle]
   refine za m2 (by simp) (by simp) ?_
   simp[ZX]
theorem L6 (p q:Rat):xj (!(decide (p.num<0) == decide (q.num<0))) (p.num.natAbs*q.num.natAbs) (p.den*q.den)=yo (p*q):=by
 have h:p.den*q.den≠0:=Nat.mul_ne_zero p.den_nz q.den_nz
 rw[tH h,Rat.mul_def']
 congr 2
 have e1:=n6 p.num
 have e2:=n6 q.num
 generalize p.num.natAbs=x at *
 generalize q.num.natAbs=y at *
 generalize decide (p.num<0)=s at *
 generalize decide (q.num<0)=t at *
 rw[← e1,← e2]
 cases s<;>cases t<;>simp[sg,Int.neg_mul,Int.mul_neg]
theorem Lb (p q:Rat):TN (decide (p.num<0)) p.num.natAbs p.den (decide (q.num<0)) q.num.natAbs q.den=yo (p+q):=by
 have h:p.den*q.den≠0:=Nat.mul_ne_zero p.den_nz q.den_nz
 have e1:=n6 p.num
 have e2:=n6 q.num
 unfold TN
 rw[tH h,tH h,tH h,Rat.add_def']
 generalize p.num.natAbs=x at *
 generalize q.num.natAbs=y at *
 generalize decide (p.num<0)=s at *
 generalize decide (q.num<0)=t at *
 rw[← e1,← e2]
 have a1:((x*q.den:Nat):Int)=(x:Int)*q.den:=Int.natCast_mul _ _
 have a2:((y*p.den:Nat):Int)=(y:Int)*p.den:=Int.natCast_mul _ _
 generalize hX:x*q.den=X at *
 generalize hY:y*p.den=Y at *
 cases s<;>cases t
 ·simp only[if_true]; congr 2; simp[sg]; omega
 ·simp only[Bool.false_eq_true,if_false]
  split<;>(congr 2; simp only[sg,if_true,Bool.false_eq_true,if_false,Int.neg_mul]; omega)
 ·simp only[Bool.true_eq_false,if_false]
  split<;>(congr 2; simp only[sg,if_true,Bool.false_eq_true,if_false,Int.neg_mul]; omega)
 ·simp only[if_true]; congr 2; simp only[sg,if_true,Int.neg_mul]; omega
open Go.LP
theorem FL {K x:Nat} (h:x≤2^K):(zf x).length≤K/32+1:=zG.2 (by
 have:B^(K/32+1)=2^(32*(K/32+1)):=by rw[show B=2^32 from rfl,← Nat.pow_mul]
 rw[this]
 exact Nat.lt_of_le_of_lt h (Nat.pow_lt_pow_right (by omega) (by omega)))
theorem vM {K:Nat} {q:Rat} (h:sz K q):(zf q.num.natAbs).length≤K/32+1∧(zf q.den).length≤K/32+1:=⟨FL h.1,FL h.2⟩
theorem ad4 (s:Bool) (N:Nat):sg (!s) N=-sg s N:=by cases s<;>simp[sg]
theorem Y6 (q:Rat):mkRat (sg (decide (q.num<0)) q.num.natAbs) q.den=q:=by rw[n6,Rat.mkRat_self]
theorem abn (q:Rat):xj (!decide (q.num<0)) q.num.natAbs q.den=yo (-q):=by
 rw[tH q.den_nz,ad4,← Rat.neg_mkRat,Y6]
theorem aaS (p q:Rat) (h:q≠0):xj (!(decide (p.num<0) == decide (q.num<0))) (p.num.natAbs*q.den) (p.den*q.num.natAbs)=yo (p/q):=by
 have hq:q.num.natAbs≠0:=fun e=>h (Rat.num_eq_zero.1 (by omega))
 have hd:p.den*q.num.natAbs≠0:=Nat.mul_ne_zero p.den_nz hq
 rw[tH hd]
 congr 1
 have e1:=n6 p.num
 have e2:=n6 q.num
 have e3:=Y6 p
 have e4:=Y6 q
 have hx:p/q=mkRat (sg (decide (p.num<0)) p.num.natAbs) p.den*(Rat.divInt (q.den:Int) (sg (decide (q.num<0)) q.num.natAbs)):=by
  rw[e3,e2,Rat.div_def,Rat.inv_def]
 rw[hx]
 generalize p.num.natAbs=x at *
 generalize q.num.natAbs=y at *
 generalize decide (p.num<0)=s at *
 generalize decide (q.num<0)=t at *
 have hy:(y:Int)≠0:=by omega
 cases t
 ·have:Rat.divInt (q.den:Int) (sg false y)=mkRat q.den y:=rfl
  rw[this,Rat.mkRat_mul_mkRat]
  congr 1
  cases s<;>simp[sg,Int.neg_mul]
 ·have:Rat.divInt (q.den:Int) (sg true y)=mkRat (-q.den) y:=by
   rw[show sg true y=-(y:Int) from rfl,Rat.divInt_neg']; rfl
  rw[this,Rat.mkRat_mul_mkRat]
  congr 1
  cases s<;>simp[sg,Int.neg_mul,Int.mul_neg]
section
variable {K:Nat} {p q:Rat} (hK:K≤137438953472) (hp:sz K p) (hq:sz K q)
include hK hp
theorem P2:zd Tryz.prog qc [yo p] (yo (-p)):=by
 have h1:=vM hp
 rw[← abn]
 exact F1 (by omega) (by omega) p.den_nz
include hq
theorem Bb:zd Tryz.prog vn [yo p,yo q] (yo (p*q)):=by
 have h1:=vM hp
 have h2:=vM hq
 rw[← L6]
 exact Ju (by omega) (by omega) (by omega) (by omega) p.den_nz q.den_nz
theorem QI:zd Tryz.prog sI [yo p,yo q] (yo (p+q)):=by
 have h1:=vM hp
 have h2:=vM hq
 rw[← Lb]
 exact KL (by omega) (by omega) (by omega) (by omega) p.den_nz q.den_nz
theorem AI:zd Tryz.prog pY [yo p,yo q] (yo (p-q)):=by
 have k1:=P2 hK hq
 have k2:=QI hK hp (r5 hq)
 rw[Rat.sub_eq_add_neg]
 obtain ⟨a,ha⟩:∃ a,a=p+-q:=⟨_,rfl⟩
 obtain ⟨b,hb⟩:∃ b,b=-q:=⟨_,rfl⟩
 rw[← ha] at k2 ⊢
 rw[← hb] at k1 k2
 refine zC acq (by simp) ?_
 simp[Ll]
 refine za k1 (by simp) (by simp) ?_
 simp
 refine za k2 (by simp) (by simp) ?_
 simp[Kl]
theorem Cx (h:q≠0):zd Tryz.prog jb [yo p,yo q] (.tuple [yo (p/q),iv 0]):=by
 have h1:=vM hp
 have h2:=vM hq
 have hq0:q.num.natAbs≠0:=fun e=>h (Rat.num_eq_zero.1 (by omega))
 rw[← aaS p q h]
 have l1:=vr h1.1 h2.2
 have l2:=vr h1.2 h2.1
 have k1:=rT (m1:=.plain) (m2:=.plain) (zw p.num.natAbs) (zw q.den) (by omega) (by omega) (by omega) rfl rfl
 have k2:=rT (m1:=.plain) (m2:=.plain) (zw p.den) (zw q.num.natAbs) (by omega) (by omega) (by omega) rfl rfl
 simp only[zI] at k1 k2
 have k:=cc (neg:=!(decide (p.num<0) == decide (q.num<0))) (N:=p.num.natAbs*q.den) (D:=p.den*q.num.natAbs) (by omega) (by omega) (Nat.mul_ne_zero p.den_nz hq0)
 unfold yo
 generalize p.num.natAbs=a at *
 generalize q.num.natAbs=b at *
 generalize decide (p.num<0)=s at *
 generalize decide (q.num<0)=t at *
 unfold xj at *
 generalize a*q.den/Nat.gcd (a*q.den) (p.den*b)=x at *
 generalize p.den*b/Nat.gcd (a*q.den) (p.den*b)=y at *
 refine zC acm (by simp) ?_
 simp[Lh,yG wS]
 refine za k1 (by simp) (by simp) ?_
 simp
 refine za k2 (by simp) (by simp) ?_
 simp
 refine za k (by simp) (by simp) ?_
 simp[Kh]
end
def wt (p q:Rat):Int:=if p<q then -1 else if q<p then 1 else 0
def yN (q:Rat):Int:=if q=0 then 0 else if q<0 then -1 else 1
theorem uV {q:Rat}:q.num<0↔q<0:=by
 have:=Rat.lt_iff q 0
 simpa using this.symm
theorem aaF (p q:Rat):wt p q=if p.num*q.den<q.num*p.den then -1 else if q.num*p.den<p.num*q.den then 1 else 0:=by
 unfold wt
 simp only[Rat.lt_iff]
theorem aaG (p q:Rat):(if decide (p.num<0)=decide (q.num<0) then (if decide (p.num<0)=true then yO (q.num.natAbs*p.den) (p.num.natAbs*q.den) else yO (p.num.natAbs*q.den) (q.num.natAbs*p.den))
  else if decide (p.num<0)=true then -1 else 1)=wt p q:=by
 have d1:(0:Int)<p.den:=by have:=p.den_pos; omega
 have d2:(0:Int)<q.den:=by have:=q.den_pos; omega
 rw[aaF]
 unfold yO
 have a1:((p.num.natAbs*q.den:Nat):Int)=(p.num.natAbs:Int)*q.den:=Int.natCast_mul _ _
 have a2:((q.num.natAbs*p.den:Nat):Int)=(q.num.natAbs:Int)*p.den:=Int.natCast_mul _ _
 by_cases h1:p.num<0<;>by_cases h2:q.num<0
 ·have e1:(p.num.natAbs:Int)=-p.num:=by omega
  have e2:(q.num.natAbs:Int)=-q.num:=by omega
  rw[e1,Int.neg_mul] at a1
  rw[e2,Int.neg_mul] at a2
  simp only[h1,h2,if_true,decide_true]
  generalize p.num*q.den=x at *
  generalize q.num*p.den=y at *
  repeat' split
  all_goals first | rfl | omega
 ·have m1:p.num*q.den<0:=Int.mul_neg_of_neg_of_pos h1 d2
  have m2:0≤q.num*p.den:=Int.mul_nonneg (by omega) (by omega)
  simp only[h1,h2,decide_true,decide_false,Bool.true_eq_false,if_false,if_true]
  rw[if_pos (by omega)]
 ·have m1:0≤p.num*q.den:=Int.mul_nonneg (by omega) (by omega)
  have m2:q.num*p.den<0:=Int.mul_neg_of_neg_of_pos h2 d1
  simp only[h1,h2,decide_true,decide_false,Bool.false_eq_true,if_false]
  rw[if_neg (by omega),if_pos (by omega)]
 ·have e1:(p.num.natAbs:Int)=p.num:=by omega
  have e2:(q.num.natAbs:Int)=q.num:=by omega
  rw[e1] at a1
  rw[e2] at a2
  simp only[h1,h2,decide_false,if_true,Bool.false_eq_true,if_false]
  generalize p.num*q.den=x at *
  generalize q.num*p.den=y at *
  repeat' split
  all_goals first | rfl | omega
theorem E0 {q:Rat}:zd Tryz.prog xt [yo q] (iv (yN q)):=by
 unfold yN yo
 refine zC AK (by simp) ?_
 by_cases h0:q=0
 ·subst h0
  simp[dy,cu,yf]
 ·have hn:q.num.natAbs≠0:=fun e=>h0 (Rat.num_eq_zero.1 (by omega))
  have hl0:¬ zf q.num.natAbs=[]:=by rw[yB]; exact hn
  have hl:¬ (zf q.num.natAbs).length=0:=by rw[List.length_eq_zero_iff]; exact hl0
  have hli:¬ ((zf q.num.natAbs).length:Int)=0:=by omega
  by_cases h1:q<0
  ·have h2:=uV.2 h1
   simp[dy,cu,h0,h1,hl,h2]
  ·have h2:¬ q.num<0:=fun h=>h1 (uV.1 h)
   simp[dy,cu,h0,h1,hl,h2]
theorem Co {K:Nat} {p q:Rat} (hK:K≤137438953472) (hp:sz K p) (hq:sz K q):zd Tryz.prog ml [yo p,yo q] (iv (wt p q)):=by
 have h1:=vM hp
 have h2:=vM hq
 rw[← aaG]
 have l1:=vr h1.1 h2.2
 have l2:=vr h2.1 h1.2
 have kx:=Yt (s:=decide (p.num<0)) (t:=decide (q.num<0)) (N:=p.num.natAbs) (D:=p.den) (M:=q.num.natAbs) (E:=q.den) (by omega) (by omega) (by omega) (by omega)
 have k1:=lN (m1:=.plain) (m2:=.plain) (zw (p.num.natAbs*q.den)) (zw (q.num.natAbs*p.den)) (by omega) (by omega)
 have k2:=lN (m1:=.plain) (m2:=.plain) (zw (q.num.natAbs*p.den)) (zw (p.num.natAbs*q.den)) (by omega) (by omega)
 simp only[zI] at k1 k2
 unfold yo
 generalize p.num.natAbs*q.den=x at *
 generalize q.num.natAbs*p.den=y at *
 generalize decide (p.num<0)=s at *
 generalize decide (q.num<0)=t at *
 refine zC acl (by simp) ?_
 by_cases hst:s=t
 ·have e:(s == t)=true:=by simp[hst]
  rw[if_pos hst]
  simp[TT,yG wS,e]
  refine za kx (by simp) (by simp) ?_
  cases s
  ·simp
   refine za k1 (by simp) (by simp) ?_
   simp[ZW]
  ·simp
   refine za k2 (by simp) (by simp) ?_
   simp[ZW]
 ·have e:(s == t)=false:=by simp[hst]
  rw[if_neg hst]
  cases s<;>simp[TT,yG wS,e,ZW]
def vfr (s:Bool) (a c:List Nat):Bool :=
 decide (a=zf (val a))&&decide (c=zf (val c))&&!decide (c=[])&&!(s&&decide (a=[]))&&(Nat.gcd (val a) (val c) == 1)
theorem AX (q:Rat):vfr (decide (q.num<0)) (zf q.num.natAbs) (zf q.den)=true:=by
 have h1:¬ q.den=0:=q.den_nz
 have h2:Nat.gcd q.num.natAbs q.den=1:=q.reduced
 have h3:¬ (q.num<0∧q.num.natAbs=0):=by omega
 simp only[vfr,zI,yB,h1,h2,beq_self_eq_true,decide_true,Bool.true_and,Bool.and_true,decide_false,Bool.not_false,Bool.not_eq_true',Bool.and_eq_false_iff,decide_eq_false_iff_not]
 by_cases hn:q.num<0
 ·right; omega
 ·left; exact hn
theorem acO {s:Bool} {a c:List Nat} (h:vfr s a c=true):∃ q:Rat,s=decide (q.num<0)∧a=zf q.num.natAbs∧c=zf q.den:=by
 simp only[vfr,Bool.and_eq_true,beq_iff_eq,decide_eq_true_eq,Bool.not_eq_true',decide_eq_false_iff_not,Bool.and_eq_false_iff] at h
 obtain ⟨⟨⟨⟨h1,h2⟩,h3⟩,h4⟩,h5⟩:=h
 have hc:val c≠0:=fun e=>h3 (by rw[h2,e,yf])
 have hs:(sg s (val a)).natAbs=val a:=by unfold sg; split<;>omega
 refine ⟨⟨sg s (val a),val c,hc,by rw[hs]; exact h5⟩,?_,?_,h2⟩
 ·show s=decide (sg s (val a)<0)
  cases s
  ·simp[sg]
  ·have:val a≠0:=fun e=>by
    rcases h4 with h4 | h4
    ·cases h4
    ·exact h4 (by rw[h1,e,yf])
   simp[sg]; omega
 ·show a=zf (sg s (val a)).natAbs
  rw[hs]; exact h1
theorem adh {ox oy:Operand} {s b:Bool} {K:AV→Option ze→Prop} :
  z9 Tryz.prog .eql uA ox oy [.agg [bv s,bv b],.agg [bv true,bv true]] K=K (bv (s&&b)) none:=by
 rw[jZ Xb Y8 YU (xs:=[.bool s,.bool b]) (ys:=[.bool true,.bool true]) rfl rfl rfl rfl]
 cases s<;>cases b<;>rfl
theorem Gu {s:Bool} {a c:List Nat} {m1 m2:Am.Mode} (ha:ok a) (hc:ok c) (hna:a.length<17179869184) (hnc:c.length<17179869184) (f1:stm m1=m1) (f2:stm m2=m2) :
  zd Tryz.prog ri [.agg [bv s,nl m1 a,nl m2 c]] (bv (vfr s a c)):=by
 have k1:=YR (m:=m1) ha (by omega)
 have k2:=YR (m:=m2) hc (by omega)
 have kg:=Rk (m1:=m1) (m2:=m2) ha hc (by omega) (by omega) f1 f2
 have kf:=qr (x:=1) (by decide)
 have hvc:c≠[]→c=zf (val c)→val c≠0:=fun h e h0=>h (by rw[e,h0,yf])
 have hgl:c≠[]→c=zf (val c)→(zf (Nat.gcd (val a) (val c))).length<17179869184:=fun h e=>by
  have h1:val c<B^c.length:=by
   have:=zG (x:=val c) (n:=c.length)
   rw[← this,← e]; exact Nat.le_refl _
  exact Nat.lt_of_le_of_lt (zG.2 (Nat.lt_of_le_of_lt (Nat.gcd_le_right _ (Nat.pos_of_ne_zero (hvc h e))) h1)) hnc
 have kc:(zf (Nat.gcd (val a) (val c))).length<17179869184→zd Tryz.prog pZ [nD (Nat.gcd (val a) (val c)),nD 1] (iv (yO (Nat.gcd (val a) (val c)) 1)):=fun h=>by
  have:=lN (m1:=.plain) (m2:=.plain) (zw (Nat.gcd (val a) (val c))) (zw 1) (by omega) (by rw[show zf 1=[1] by decide +kernel]; decide)
  simp only[zI] at this
  exact this
 unfold vfr
 generalize Nat.gcd (val a) (val c)=g at *
 generalize val a=x at *
 generalize hy:val c=y at *
 have hkk:zd Tryz.prog dn [.agg [bv s,nl m1 a,nl m2 c]] (.agg [bv s,bv (decide (a=[]))]):=by
  refine zC Gq (by simp) ?_
  simp[Ub,U3]
 have hcl:c=[]→c.length=0:=fun h=>by rw[h]; rfl
 have hcl':c≠[]→¬ c.length=0:=fun h h'=>h (List.length_eq_zero_iff.1 h')
 generalize d1:decide (a=zf x)=b1 at *
 generalize d2:decide (c=zf y)=b2 at *
 refine zC Dy (by simp) ?_
 simp[S4]
 refine za k1 (by simp[f1]) (by simp) ?_
 cases b1
 ·simp[lY]
 simp
 refine za k2 (by simp[f2]) (by simp) ?_
 cases b2
 ·simp[lY]
 by_cases e3:c=[]
 ·simp[e3,lY]
 simp[e3]
 refine za hkk (by simp[f1,f2]) (by simp) ?_
 have hg:=hgl e3 (of_decide_eq_true d2)
 have hfin:decide (yO g 1=0)=(g == 1):=by
  have h2:yO g 1=0↔g=1:=by unfold yO; split<;>(try split)<;>omega
  simp only[h2]
  by_cases h1:g=1<;>simp[h1]
 generalize decide (a=[])=z at *
 cases s<;>cases z
 all_goals simp[adh,lY]
 all_goals
  refine za kg (by simp[f1,f2]) (by simp) ?_
  simp
  refine za kf (by simp) (by simp) ?_
  simp
  refine za (kc hg) (by simp) (by simp) ?_
  simp[← hfin]
theorem Be (q:Rat):frA (!decide (q.num<0)&&decide (q.num.natAbs≠0)) q.num.natAbs q.den=yo (-q):=by
 unfold yo
 rw[Rat.neg_num,Rat.neg_den,Int.natAbs_neg]
 have:(!decide (q.num<0)&&decide (q.num.natAbs≠0))=decide (-q.num<0):=by
  by_cases h:q.num<0
  ·have h2:¬ -q.num<0:=by omega
   simp[h]; omega
  ·by_cases h0:q.num.natAbs=0
   ·have h2:¬ -q.num<0:=by omega
    simp[h0]; omega
   ·have h2:-q.num<0:=by omega
    simp[h,h0]; omega
 rw[this]
theorem Pv {n:Int} (h1:-9223372036854775808≤n) (h2:n<9223372036854775808):zd Tryz.prog yt [iv n] (yo n):=by
 rw[← LT]; exact Mx h1 h2
theorem Cn (p q:Rat):yN (p-q)=wt p q:=by
 unfold yN wt
 by_cases h1:p<q
 ·have:¬ p-q=0:=by grind
  have h2:p-q<0:=by grind
  simp[h1,this,h2]
 ·by_cases h3:q<p
  ·have:¬ p-q=0:=by grind
   have h2:¬ p-q<0:=by grind
   simp[h1,h3,this,h2]
  ·have:p-q=0:=by grind
   simp[h1,h3,this]
theorem RQ {q:Rat}:zd Tryz.prog ju [yo q] (iv (yN q)):=by
 unfold yN yo
 refine zC AP (by simp) ?_
 by_cases h0:q=0
 ·subst h0
  simp[dE,cx,yf]
 ·have hn:q.num.natAbs≠0:=fun e=>h0 (Rat.num_eq_zero.1 (by omega))
  have hl0:¬ zf q.num.natAbs=[]:=by rw[yB]; exact hn
  have hl:¬ (zf q.num.natAbs).length=0:=by rw[List.length_eq_zero_iff]; exact hl0
  have hli:¬ ((zf q.num.natAbs).length:Int)=0:=by omega
  by_cases h1:q<0
  ·have h2:=uV.2 h1
   simp[dE,cx,h0,h1,h2]
  ·have h2:¬ q.num<0:=fun h=>h1 (uV.1 h)
   simp[dE,cx,h0,h1,hl,h2]
section
variable {K:Nat} {p q:Rat} (hK:K≤137438953472) (hp:sz K p) (hq:sz K q)
include hK hp
theorem Bf:zd Tryz.prog Zz [yo p] (yo (-p)):=by
 have h1:=vM hp
 rw[← Be]
 exact abo (by omega) (by omega)
include hq
theorem Bc:zd Tryz.prog p0 [yo p,yo q] (yo (p*q)):=by
 have h1:=vM hp
 have h2:=vM hq
 rw[← L6]
 exact Ba (by omega) (by omega) (by omega) (by omega) p.den_nz q.den_nz
theorem QK:zd Tryz.prog sJ [yo p,yo q] (yo (p+q)):=by
 have h1:=vM hp
 have h2:=vM hq
 rw[← Lb]
 exact DT (by omega) (by omega) (by omega) (by omega) p.den_nz q.den_nz
theorem N0:zd Tryz.prog eC [yo p,yo q] (yo (p-q)):=by
 have k1:=Bf hK hq
 have k2:=QK hK hp (r5 hq)
 rw[Rat.sub_eq_add_neg]
 obtain ⟨a,ha⟩:∃ a,a=p+-q:=⟨_,rfl⟩
 obtain ⟨b,hb⟩:∃ b,b=-q:=⟨_,rfl⟩
 rw[← ha] at k2 ⊢
 rw[← hb] at k1 k2
 refine zC acB (by simp) ?_
 simp[Lt]
 refine za k1 (by simp) (by simp) ?_
 simp
 refine za k2 (by simp) (by simp) ?_
 simp[Ks]
theorem Cp:zd Tryz.prog Zy [yo p,yo q] (iv (wt p q)):=by
 have k1:=N0 hK hp hq
 have k2:=RQ (q:=p-q)
 rw[Cn] at k2
 generalize wt p q=c at *
 obtain ⟨a,ha⟩:∃ a,a=p-q:=⟨_,rfl⟩
 rw[← ha] at k1 k2
 refine zC acx (by simp) ?_
 simp[Lq]
 refine za k1 (by simp) (by simp) ?_
 simp
 refine za k2 (by simp) (by simp) ?_
 simp[Ko]
end
theorem Y1:zf 1=[1]:=by decide +kernel
theorem Gv {s:Bool} {a c:List Nat} {m1 m2:Am.Mode} (ha:ok a) (hc:ok c) (hna:a.length<17179869184) (hnc:c.length<17179869184) (f1:stm m1=m1) (f2:stm m2=m2) :
  zd Tryz.prog p6 [.agg [bv s,nl m1 a,nl m2 c]] (bv (vfr s a c)):=by
 have k1:=R1 (m:=m1) ha (by omega)
 have k2:=R1 (m:=m2) hc (by omega)
 have kg:a=zf (val a)→c=zf (val c)→zd Tryz.prog eD [nl m1 a,nl m2 c] (nD (Nat.gcd (val a) (val c))):=fun h1 h2=>by
  have:=LN (A:=val a) (D:=val c) (by rw[← h1]; omega) (by rw[← h2]; omega)
  unfold nD at this
  rw[← h1,← h2] at this
  exact j5 (aC this (aD f1)) (aD f2)
 have ha0:a=[]→val a=0:=fun h=>by rw[h]; rfl
 have hc1:c=zf (val c)→((val c == 1)=decide (c=[1])):=fun h=>by
  by_cases h1:val c=1
  ·rw[h1,Y1] at h; rw[h1,decide_eq_true h]; rfl
  ·have:¬ c=[1]:=fun e=>h1 (by rw[e]; rfl)
   simp[h1,this]
 have hgd:∀ g,(g == 1)=decide (zf g=[1]):=fun g=>by
  by_cases h1:g=1
  ·subst h1; simp[Y1]
  ·have:¬ zf g=[1]:=fun e=>h1 (dN (by rw[e,Y1]))
   simp[h1,this]
 have hone:∀ l:List Nat,(decide (l=[1]))=(decide (l.length=1)&&decide (l[0]?=some 1)):=fun l=>by
  match l with
  | []=>rfl
  | [z]=>simp
  | _::_::_=>simp
 unfold vfr
 generalize hx:val a=x at *
 generalize hy:val c=y at *
 generalize hg:Nat.gcd x y=g at *
 have hcl':c≠[]→¬ c.length=0:=fun h h'=>h (List.length_eq_zero_iff.1 h')
 generalize d1:decide (a=zf x)=b1 at *
 generalize d2:decide (c=zf y)=b2 at *
 refine zC DD (by simp) ?_
 simp[S9]
 refine za k1 (by simp[f1]) (by simp) ?_
 cases b1
 ·simp[wG]
 simp
 refine za k2 (by simp[f2]) (by simp) ?_
 cases b2
 ·simp[wG]
 by_cases e3:c=[]
 ·simp[e3,wG]
 by_cases e4:a=[]
 ·have hx0:=ha0 e4
  rw[hx0,Nat.gcd_zero_left] at hg
  have hg1:=hc1 (of_decide_eq_true d2)
  rw[hg] at hg1
  rw[hg1]
  match c,e3 with
  | [z],_ =>
   cases s
   ·by_cases hz:z=1
    ·subst hz; simp[e4,wG]
    ·have hz':¬ (z:Int)=1:=by omega
     simp[e4,hz,hz',wG]
   ·simp[e4,wG]
  | z::z2::l,_ =>
   have hl:¬ ((l.length:Int)+1+1=1):=by omega
   have hl2:¬ ((l.length:Int)+1+1=0):=by omega
   cases s<;>simp[e4,hl,hl2,wG]
 ·have kg':=kg (of_decide_eq_true d1) (of_decide_eq_true d2)
  rw[hgd g]
  have hl0:¬ (a.length:Int)=0:=by
   have:a.length≠0:=fun h=>e4 (List.length_eq_zero_iff.1 h)
   omega
  simp[e3,e4]
  refine za kg' (by simp[f1,f2]) (by simp) ?_
  match hl:zf g with
  | []=>simp[hl,wG]
  | [z] =>
   by_cases hz:z=1
   ·subst hz; simp[hl,wG]
   ·have hz':¬ (z:Int)=1:=by omega
    simp[hl,hz,hz',wG]
  | z::z2::l =>
   have hl2:¬ ((l.length:Int)+1+1=1):=by omega
   simp[hl,hl2,wG]
section
variable {K:Nat} {p q:Rat}
theorem vf:zd Tryz.prog xt [fq q] (iv (yN q)):=by rw[← wP]; exact E0
theorem wF {n:Int} (h1:-9223372036854775808≤n) (h2:n<9223372036854775808):zd Tryz.prog yt [iv n] (fq n):=by rw[← wP]; exact Pv h1 h2
theorem E1:zd Tryz.prog ju [fq q] (iv (yN q)):=by rw[← wP]; exact RQ
variable (hK:K≤137438953472) (hp:sz K p) (hq:sz K q)
include hK hp
theorem UT:zd Tryz.prog qc [fq p] (fq (-p)):=by simp only[← wP]; exact P2 hK hp
include hq
theorem k6:zd Tryz.prog vn [fq p,fq q] (fq (p*q)):=by simp only[← wP]; exact Bb hK hp hq
theorem X3:zd Tryz.prog sI [fq p,fq q] (fq (p+q)):=by simp only[← wP]; exact QI hK hp hq
theorem Tu:zd Tryz.prog pY [fq p,fq q] (fq (p-q)):=by simp only[← wP]; exact AI hK hp hq
theorem cj:zd Tryz.prog p0 [fq p,fq q] (fq (p*q)):=by simp only[← wP]; exact Bc hK hp hq
theorem dt:zd Tryz.prog sJ [fq p,fq q] (fq (p+q)):=by simp only[← wP]; exact QK hK hp hq
theorem aal:zd Tryz.prog eC [fq p,fq q] (fq (p-q)):=by simp only[← wP]; exact N0 hK hp hq
theorem A1 (h:q≠0):zd Tryz.prog jb [fq p,fq q] (.tuple [fq (p/q),iv 0]):=by simp only[← wP]; exact Cx hK hp hq h
theorem Ur:zd Tryz.prog ml [fq p,fq q] (iv (wt p q)):=by simp only[← wP]; exact Co hK hp hq
theorem aez:zd Tryz.prog Zy [fq p,fq q] (iv (wt p q)):=by simp only[← wP]; exact Cp hK hp hq
end
noncomputable def fZ (f:Nat→Rat) (k n:Nat):List (List AV):=(List.range n).map fun j=>if j<k then fr (f j) else zz
noncomputable def fR (f:Nat→Rat) (n:Nat):List (List AV):=(List.range n).map fun j=>fr (f j)
noncomputable abbrev fL (f:Nat→Rat) (n:Nat):AV:=.list 3 .plain (fR f n)
@[simp] theorem Fp {f:Nat→Rat} {n:Nat}:(fR f n).length=n:=by simp[fR]
@[simp] theorem adk {f:Nat→Rat} {k n:Nat}:(fZ f k n).length=n:=by simp[fZ]
theorem am {f:Nat→Rat} {n i:Nat} (h:i<n):(fR f n)[i]?=some (fr (f i)):=by simp[fR,h]
theorem Po {f:Nat→Rat} {k n i:Nat} (h:i<n) (hk:i<k):(fZ f k n)[i]?=some (fr (f i)):=by simp[fZ,h,hk]
theorem T4 {f:Nat→Rat} {k n i:Nat} (h:i<n) (hk:¬ i<k):(fZ f k n)[i]?=some zz:=by simp[fZ,h,hk]
@[simp] theorem agR {f:Nat→Rat} {n i:Nat} {h:i<(fR f n).length}:(fR f n)[i]=fr (f i):=by simp[fR]
@[simp] theorem agU {f:Nat→Rat} {n k:Nat} {h:k<(fZ f k n).length}:(fZ f k n)[k]=zz:=by simp[fZ]
theorem yd {f g:Nat→Rat} {n:Nat} (h:∀ i,i<n→f i=g i):fR f n=fR g n:=by
 unfold fR
 exact List.map_congr_left fun i hi=>by rw[h i (by simpa using hi)]
theorem uF {f:Nat→Rat} {n i:Nat} {x:Rat}:(fR f n).set i (fr x)=fR (upd f i x) n:=by
 apply List.ext_getElem?
 intro j
 rw[List.getElem?_set]
 by_cases hij:i=j
 ·subst hij
  rw[if_pos rfl,Fp]
  by_cases hi:i<n
  ·rw[if_pos hi,am hi]; simp[upd]
  ·rw[if_neg hi]; simp[fR,hi]
 ·rw[if_neg hij]
  by_cases hj:j<n
  ·rw[am hj,am hj]; simp[upd,Ne.symm hij]
  ·simp[fR,hj]
theorem lO {f:Nat→Rat} {k n:Nat} (hk:k<n):(fZ f k n).set k (fr (f k))=fZ f (k+1) n:=by
 apply List.ext_getElem?
 intro j
 rw[List.getElem?_set]
 by_cases hij:k=j
 ·subst hij
  rw[if_pos rfl,adk,if_pos hk,Po hk (by omega)]
 ·rw[if_neg hij]
  by_cases hj:j<n
  ·by_cases hjk:j<k
   ·rw[Po hj hjk,Po hj (by omega)]
   ·rw[T4 hj hjk,T4 hj (by omega)]
  ·simp[fZ,hj]
theorem ns {f:Nat→Rat} {n:Nat}:List.replicate n zz=fZ f 0 n:=by
 apply List.ext_getElem?
 intro j
 by_cases h:j<n
 ·rw[T4 h (by omega)]; simp[h]
 ·simp[fZ,h]
theorem nr {f:Nat→Rat} {n:Nat}:fZ f n n=fR f n:=by
 unfold fZ fR
 exact List.map_congr_left fun i hi=>by rw[if_pos (by simpa using hi)]
theorem eU {f:Nat→Rat} {n:Nat}:fR f (n+1)=fR f n++[fr (f n)]:=by simp[fR,List.range_succ]
theorem aaY {f:Nat→Rat}:fR f 0=[]:=rfl
theorem Fo {f:Nat→Rat} {n:Nat} {g:List AV→Bool} (h:∀ q,g (fr q)=true):(fR f n).all g=true :=
 List.all_eq_true.2 fun r hr=>by
  obtain ⟨j,_,rfl⟩:=List.mem_map.1 hr
  exact h _
theorem UA {f:Nat→Rat} {n:Nat} {g:List AV→List AV} (h:∀ q,g (fr q)=fr q):(fR f n).map g=fR f n :=
 yJ fun r hr=>by
  obtain ⟨j,_,rfl⟩:=List.mem_map.1 hr
  exact h _
@[simp] theorem aik {f:Nat→Rat} {n:Nat}:xk (fR f n)=true:=Fo fun _=>Jc
@[simp] theorem ail {f:Nat→Rat} {n:Nat}:zP (fR f n)=fR f n:=UA fun _=>Y5
@[simp] theorem aij {f:Nat→Rat} {n l:Nat}:zX l (fR f n)=fR f n:=UA fun _=>aeJ
@[simp] theorem ahA {f:Nat→Rat} {n l:Nat} {e:ze}:((fR f n).map fun r=>r.map (frz l e))=fR f n:=UA fun _=>adn
@[simp] theorem A3 {f:Nat→Rat} {n a b:Nat}:((fR f n).map fun r=>r.map (rn a b))=fR f n:=UA fun _=>aeK
@[simp] theorem ahB {f:Nat→Rat} {n M:Nat}:((fR f n).all fun r=>r.all (Am.low M))=true:=Fo fun _=>adp
theorem fT {k:Nat}:∀ {rows:List (List AV)},(∀ r∈rows,xg k r=false)→xn k rows=false
 | [],_=>rfl
 | r::rows,h=>by simp[xn,h r (by simp),fT (rows:=rows) fun r hr=>h r (by simp[hr])]
@[simp] theorem ahD {f:Nat→Rat} {n k:Nat}:xn k (fR f n)=false:=fT fun r hr=>by
 obtain ⟨j,_,rfl⟩:=List.mem_map.1 hr
 exact adq
@[simp] theorem ahC {f:Nat→Rat} {n:Nat}:(fR f n=[])=(n=0):=by
 rw[← List.length_eq_zero_iff,Fp]
@[simp] theorem agS {f:Nat→Rat} {n:Nat}:(fR f n).take n=fR f n:=List.take_of_length_le (by simp)
@[simp] theorem ahz {f:Nat→Rat} {n k:Nat}:((fR f n).any fun r=>r.any (pW k))=false :=
 List.any_eq_false.2 fun r hr=>by
  obtain ⟨j,_,rfl⟩:=List.mem_map.1 hr
  simp
theorem wH {q:Rat}:yN q=0↔q=0:=by
 unfold yN; split
 ·simp[*]
 ·rename_i h; split<;>simp[h]
theorem pV {q:Rat}:yN q<0↔q<0:=by
 unfold yN; split
 ·rename_i h; subst h; simp
 ·split<;>simp[*]
theorem sh {q:Rat}:0<yN q↔0<q:=by
 unfold yN; split
 ·rename_i h; subst h; simp
 ·rename_i h
  split
  ·rename_i h2; simp; grind
  ·rename_i h2; simp; grind
theorem mz {p q:Rat}:wt p q<0↔p<q:=by
 unfold wt; split
 ·simp[*]
 ·split<;>simp[*]
theorem LA {p q:Rat}:0<wt p q↔q<p:=by
 unfold wt; split
 ·simp; grind
 ·split<;>simp[*]
theorem Cm {p q:Rat}:wt p q=0↔p=q:=by
 unfold wt; split
 ·simp; grind
 ·split
  ·simp; grind
  ·simp; grind
def mR (g:Nat→List AV) (n:Nat):List (List AV):=(List.range n).map g
section
variable {g h:Nat→List AV} {n i:Nat}
@[simp] theorem nT:(mR g n).length=n:=by simp[mR]
theorem q7 (hi:i<n):(mR g n)[i]?=some (g i):=by simp[mR,hi]
@[simp] theorem jl {hi:i<(mR g n).length}:(mR g n)[i]=g i:=by simp[mR]
theorem uU (e:∀ i,i<n→g i=h i):mR g n=mR h n:=List.map_congr_left fun i hi=>e i (by simpa using hi)
theorem UR {x:List AV}:(mR g n).set i x=mR (upd g i x) n:=by
 apply List.ext_getElem?
 intro j
 rw[List.getElem?_set]
 by_cases hij:i=j
 ·subst hij
  rw[if_pos rfl,nT]
  by_cases hi:i<n
  ·rw[if_pos hi,q7 hi]; simp[upd]
  ·rw[if_neg hi]; simp[mR,hi]
 ·rw[if_neg hij]
  by_cases hj:j<n
  ·rw[q7 hj,q7 hj]; simp[upd,Ne.symm hij]
  ·simp[mR,hj]
theorem Se:mR g (n+1)=mR g n++[g n]:=by simp[mR,List.range_succ]
theorem aI {f:List AV→Bool} (h:∀ i,f (g i)=true):(mR g n).all f=true :=
 List.all_eq_true.2 fun r hr=>by
  obtain ⟨j,_,rfl⟩:=List.mem_map.1 hr
  exact h _
theorem tw {f:List AV→List AV} (h:∀ i,f (g i)=g i):(mR g n).map f=mR g n :=
 yJ fun r hr=>by
  obtain ⟨j,_,rfl⟩:=List.mem_map.1 hr
  exact h _
theorem UQ {k:Nat} (h:∀ i,xg k (g i)=false):xn k (mR g n)=false:=fT fun r hr=>by
 obtain ⟨j,_,rfl⟩:=List.mem_map.1 hr
 exact h _
end
structure RF where
 s:Bool
 a:List Nat
 c:List Nat
def RF.fine (x:RF):Prop:=ok x.a∧ok x.c∧x.a.length<17179869184∧x.c.length<17179869184
def RF.v (x:RF):Bool:=vfr x.s x.a x.c
def RF.of (q:Rat):RF:=⟨decide (q.num<0),zf q.num.natAbs,zf q.den⟩
noncomputable def h0 (x:RF):AV:=Classical.choose (pw (bv x.s))
noncomputable def h1 (x:RF):AV:=Classical.choose (pw (nl .plain x.a))
noncomputable def h2 (x:RF):AV:=Classical.choose (pw (nl .plain x.c))
theorem px (x:RF):h0 x=bv x.s:=Classical.choose_spec (pw _)
theorem qt (x:RF):h1 x=nl .plain x.a:=Classical.choose_spec (pw _)
theorem py (x:RF):h2 x=nl .plain x.c:=Classical.choose_spec (pw _)
noncomputable def hr (x:RF):List AV:=[h0 x,h1 x,h2 x]
@[simp] theorem ag0 (x:RF):[h0 x,h1 x,h2 x]=hr x:=rfl
noncomputable abbrev hq (x:RF):AV:=.agg (hr x)
theorem A4 (q:Rat):h0 (RF.of q)=f0 q:=by rw[px,nQ]; rfl
theorem A5 (q:Rat):h1 (RF.of q)=f1 q:=by rw[qt,lc]; rfl
theorem A6 (q:Rat):h2 (RF.of q)=f2 q:=by rw[py,lf]; rfl
theorem UD (q:Rat):hr (RF.of q)=fr q:=by unfold hr fr; rw[A4,A5,A6]
theorem fh (x:RF):hr x=[bv x.s,nl .plain x.a,nl .plain x.c]:=by unfold hr; rw[px,qt,py]
section
variable {x:RF} {l k a b M:Nat} {e:ze}
@[simp] theorem aiq:rf (h0 x)=true:=by rw[px]; rfl
@[simp] theorem ago:strip (h0 x)=h0 x:=by rw[px]; rfl
@[simp] theorem aip:dg l (h0 x)=h0 x:=by rw[px]; simp
@[simp] theorem ahF:frz l e (h0 x)=h0 x:=by rw[px]; rfl
@[simp] theorem air:rn a b (h0 x)=h0 x:=by rw[px]; rfl
@[simp] theorem ahG:Am.low M (h0 x)=true:=by rw[px]; rfl
@[simp] theorem agW:zT k (h0 x)=false:=by rw[px]; rfl
@[simp] theorem ahH:pW k (h0 x)=false:=by rw[px]; rfl
@[simp] theorem ait:rf (h1 x)=true:=by rw[qt]; rfl
@[simp] theorem agp:strip (h1 x)=h1 x:=by rw[qt]; rfl
@[simp] theorem ais:dg l (h1 x)=h1 x:=by rw[qt]; simp
@[simp] theorem ahI:frz l e (h1 x)=h1 x:=by rw[qt]; rfl
@[simp] theorem aiu:rn a b (h1 x)=h1 x:=by rw[qt]; rfl
@[simp] theorem ahJ:Am.low M (h1 x)=true:=by rw[qt]; rfl
@[simp] theorem agX:zT k (h1 x)=false:=by rw[qt]; rfl
@[simp] theorem ahK:pW k (h1 x)=false:=by rw[qt]; rfl
@[simp] theorem aiw:rf (h2 x)=true:=by rw[py]; rfl
@[simp] theorem agq:strip (h2 x)=h2 x:=by rw[py]; rfl
@[simp] theorem aiv:dg l (h2 x)=h2 x:=by rw[py]; simp
@[simp] theorem ahL:frz l e (h2 x)=h2 x:=by rw[py]; rfl
@[simp] theorem aix:rn a b (h2 x)=h2 x:=by rw[py]; rfl
@[simp] theorem ahM:Am.low M (h2 x)=true:=by rw[py]; rfl
@[simp] theorem agY:zT k (h2 x)=false:=by rw[py]; rfl
@[simp] theorem ahN:pW k (h2 x)=false:=by rw[py]; rfl
@[simp] theorem adx:(hr x).length=3:=by simp[fh]
@[simp] theorem aeX:(hr x).all rf=true:=by rw[fh]; simp
@[simp] theorem CX:(hr x).map strip=hr x:=by rw[fh]; simp
@[simp] theorem aiD:(hr x).map (dg l)=hr x:=by rw[fh]; simp
@[simp] theorem ahP:xg k (hr x)=false:=by rw[fh]; simp
@[simp] theorem afL:zH (hr x) 0 (some 3)=some (hq x):=by rw[uH adx aeX,CX]
@[simp] theorem aeq {y:AV}:zH (y::hr x) 1 (some 3)=some (hq x):=by
 simp only[zH,hr,List.length_cons,List.length_nil,List.drop_succ_cons,List.drop_zero,List.take]
 simp
@[simp] theorem af0 {y z w:AV}:splice [y,z,w] 0 (hr x)=hr x:=by rw[fh]; simp[splice]
end
theorem ZN {x:RF} (h:x.fine):zd Tryz.prog ri [hq x] (bv x.v):=by
 unfold hq; rw[fh]; exact Gu h.1 h.2.1 h.2.2.1 h.2.2.2 rfl rfl
theorem PD {x:RF} (h:x.fine):zd Tryz.prog p6 [hq x] (bv x.v):=by
 unfold hq; rw[fh]; exact Gv h.1 h.2.1 h.2.2.1 h.2.2.2 rfl rfl
noncomputable def hR (f:Nat→RF) (n:Nat):List (List AV):=mR (fun j=>hr (f j)) n
noncomputable abbrev hL (f:Nat→RF) (n:Nat):AV:=.list 3 .plain (hR f n)
section
variable {f:Nat→RF} {n i k:Nat}
@[simp] theorem ahO:(hR f n).length=n:=nT
@[simp] theorem agZ {hi:i<(hR f n).length}:(hR f n)[i]=hr (f i):=jl
@[simp] theorem aiy:xk (hR f n)=true:=aI fun _=>by simp
@[simp] theorem aiz:zP (hR f n)=hR f n:=tw fun _=>by simp
theorem ZM {g:Nat→Rat} (h:∀ j,j<n→f j=RF.of (g j)):hR f n=fR g n:=uU fun j hj=>by rw[h j hj,UD]
end
@[simp] theorem aiW {x:RF}:(hr x)[0]?=some (h0 x):=rfl
@[simp] theorem aiX {x:RF}:(hr x)[1]?=some (h1 x):=rfl
@[simp] theorem aiY {x:RF}:(hr x)[2]?=some (h2 x):=rfl
@[simp] theorem aiB {x:RF} {h:1<(hr x).length}:(hr x)[1]=h1 x:=rfl
@[simp] theorem aiC {x:RF} {h:2<(hr x).length}:(hr x)[2]=h2 x:=rfl
def De (x:RF) (D:Nat):Prop:=x.a.length≤D∧x.c.length≤D
noncomputable def To (s t:Bool) (a c a' c':List Nat) (k:Nat):St :=
 {env:=[(2,.ptr 2 0),(3,.ptr 3 0),(5,iv k)],sto:=[(2,.var [bv s,nl .plain a,nl .plain c]),(3,.var [bv t,nl .plain a',nl .plain c'])]}
noncomputable def Tp (s t:Bool) (a c a' c':List Nat) (k:Nat):St :=
 {env:=[(2,.ptr 2 0),(3,.ptr 3 0),(6,iv k)],sto:=[(2,.var [bv s,nl .plain a,nl .plain c]),(3,.var [bv t,nl .plain a',nl .plain c'])]}
theorem UJ {a b:List Nat} (hl:a.length=b.length) (h:∀ j,j<a.length→a[j]?=b[j]?):a=b:=by
 apply List.ext_getElem?
 intro j
 by_cases hj:j<a.length
 ·exact h j hj
 ·rw[List.getElem?_eq_none (by omega),List.getElem?_eq_none (by omega)]
theorem Aa {s t:Bool} {a c a' c':List Nat} (hn:a.length<4611686018427387904) (hm:c.length<4611686018427387904) :
  zd Tryz.prog xZ [.agg [bv s,nl .plain a,nl .plain c],.agg [bv t,nl .plain a',nl .plain c']] (bv (decide (s=t∧a=a'∧c=c'))):=by
 refine zC N4 (by simp) ?_
 by_cases e1:s=t
 rotate_left
 ·have e1':(s == t)=false:=by simp[e1]
  rw[decide_eq_false fun h=>e1 h.1]
  simp[my,yG wS,e1',rW]
 subst e1
 by_cases e2:a.length=a'.length
 rotate_left
 ·have e2':¬ (a.length:Int)=a'.length:=by omega
  rw[decide_eq_false fun h=>e2 (by rw[h.2.1])]
  simp[my,yG wS,e2',rW]
 have e2':(a.length:Int)=a'.length:=by omega
 by_cases e3:c.length=c'.length
 rotate_left
 ·have e3':¬ (c.length:Int)=c'.length:=by omega
  rw[decide_eq_false fun h=>e3 (by rw[h.2.2])]
  simp[my,yG wS,e2,e3',rW]
 have e3':(c.length:Int)=c'.length:=by omega
 simp[my,yG wS,e2,e3]
 refine zl (To s s a c a' c') (fun k=>∀ j,j<k→a[j]?=a'[j]?) a.length (by simp[To]) (fun j hj=>by omega) (fun k hk hI=>?_) (fun hI0=>?_)
 ·have e:(k:Int)<a.length:=by omega
  have w:=zm (k:=k) (by omega)
  have hk':k<a'.length:=by omega
  have e':(k:Int)<a'.length:=by omega
  by_cases h:a[k]=a'[k]
  ·have h':(a[k]:Int)=a'[k]:=by rw[h]
   simp[qW,To,e,hk,hk',e',h,w]
   intro j hj
   by_cases ej:j=k
   ·subst ej; simp[hk,hk',h]
   ·exact hI j (by omega)
  ·have h':¬ (a[k]:Int)=a'[k]:=by omega
   rw[decide_eq_false (p:=a=a') fun h2=>h (by simp only[h2])]
   simp[qW,To,e,hk,hk',e',h',rW]
 ·have hae:=UJ e2 hI0
  subst hae
  simp[qW,To,fY]
  refine zl (Tp s s a c a c') (fun k=>∀ j,j<k→c[j]?=c'[j]?) c.length (by simp[Tp]) (fun j hj=>by omega) (fun k hk hI=>?_) (fun hI1=>?_)
  ·have e:(k:Int)<c.length:=by omega
   have w:=zm (k:=k) (by omega)
   have hk':k<c'.length:=by omega
   have e':(k:Int)<c'.length:=by omega
   by_cases h:c[k]=c'[k]
   ·have h':(c[k]:Int)=c'[k]:=by rw[h]
    simp[qX,Tp,e,hk,hk',e',h,w]
    intro j hj
    by_cases ej:j=k
    ·subst ej; simp[hk,hk',h]
    ·exact hI j (by omega)
   ·have h':¬ (c[k]:Int)=c'[k]:=by omega
    rw[decide_eq_false (p:=c=c') fun h2=>h (by simp only[h2])]
    simp[qX,Tp,e,hk,hk',e',h',rW]
  ·have hce:=UJ e3 hI1
   subst hce
   simp[qX,Tp,fX,rW]
theorem EB {p q:Rat}:(decide (p.num<0)=decide (q.num<0)∧zf p.num.natAbs=zf q.num.natAbs∧zf p.den=zf q.den)↔p=q:=by
 constructor
 ·rintro ⟨h1,h2,h3⟩
  have h2:=dN h2
  have h3:=dN h3
  have h1:=decide_eq_decide.1 h1
  exact Rat.ext (by omega) h3
 ·rintro rfl; exact ⟨rfl,rfl,rfl⟩
theorem a8 {K:Nat} {p q:Rat} (hK:K≤137438953472) (hp:sz K p):zd Tryz.prog xZ [fq p,fq q] (bv (decide (p=q))):=by
 obtain ⟨l1,l2⟩:=vM hp
 have h:=Aa (s:=decide (p.num<0)) (t:=decide (q.num<0)) (a:=zf p.num.natAbs) (c:=zf p.den) (a':=zf q.num.natAbs) (c':=zf q.den) (by omega) (by omega)
 unfold fq
 rw[t6,t6]
 rw[show decide (p=q)=decide (decide (p.num<0)=decide (q.num<0)∧zf p.num.natAbs=zf q.num.natAbs∧zf p.den=zf q.den) from decide_eq_decide.2 EB.symm]
 exact h
theorem B9:zd Tryz.prog xZ [.agg [bv false,z8,z8],.agg [bv false,z8,z8]] (bv true):=by
 refine zC N4 (by simp) ?_
 simp[my,yG wS]
 refine zl (fun k=>{env:=[(2,.ptr 2 0),(3,.ptr 3 0),(5,iv k)],sto:=[(2,.var [bv false,z8,z8]),(3,.var [bv false,z8,z8])]}) (fun _=>True) 0 (by simp) trivial (fun k hk _=>by omega) (fun _=>?_)
 simp[qW,fY]
 refine zl (fun k=>{env:=[(2,.ptr 2 0),(3,.ptr 3 0),(6,iv k)],sto:=[(2,.var [bv false,z8,z8]),(3,.var [bv false,z8,z8])]}) (fun _=>True) 0 (by simp) trivial (fun k hk _=>by omega) (fun _=>?_)
 simp[qX,fX,rW]
theorem TJ:zd Tryz.prog yt [iv 0] (fq 0):=wF (n:=0) (by decide) (by decide)
theorem mD {K:Nat} {q:Rat} (hK:K≤137438953472) (h:sz K q):(RF.of q).fine:=by
 obtain ⟨l1,l2⟩:=vM h
 exact ⟨zw _,zw _,by simp only[RF.of]; omega,by simp only[RF.of]; omega⟩
@[simp] theorem aiT {q:Rat}:(fr q)[0]?=some (f0 q):=rfl
@[simp] theorem aim {q:Rat} {h:0<(fr q).length}:(fr q)[0]=f0 q:=rfl
@[simp] theorem aiU {q:Rat}:(fr q)[1]?=some (f1 q):=rfl
@[simp] theorem aiV {q:Rat}:(fr q)[2]?=some (f2 q):=rfl
@[simp] theorem ain {q:Rat} {h:1<(fr q).length}:(fr q)[1]=f1 q:=rfl
@[simp] theorem aio {q:Rat} {h:2<(fr q).length}:(fr q)[2]=f2 q:=rfl
theorem Xi (q:Rat):(RF.of q).v=true:=AX q
theorem uL {K:Nat} {n:Int} (h:n.natAbs≤2^K):sz K (n:Rat):=⟨by simpa using h,by simpa using Nat.one_le_two_pow⟩
open Go.Pb
def RF.q (x:RF):Rat:=mkRat (sg x.s (val x.a)) (val x.c)
theorem Sm (q:Rat):(RF.of q).q=q:=by
 unfold RF.q RF.of
 simp only[zI]
 rw[n6,Rat.mkRat_self]
theorem Nc {x:RF} (h:x.v=true):x=RF.of x.q:=by
 obtain ⟨q,h1,h2,h3⟩:=acO h
 have:x=RF.of q:=by cases x; simp only at h1 h2 h3; subst h1 h2 h3; rfl
 rw[this,Sm]
def prE (Y:Nat→RF):Nat→Int
 | 0=>0
 | k+1=>if prE Y k≠0 then prE Y k else if (Y k).v=false then 2 else if (Y k).s=true then 4 else 0
def fpE (P:Pb) (fx:List Int) (Y:Nat→RF) (m:Nat):Int:=if P.fixE fx≠0 then P.fixE fx else if m≠P.rows then 3 else prE Y m
def kV (Y:Nat→RF) (m:Nat):Prop:=∀ r,r<m→(Y r).v=true∧(Y r).s=false
theorem Xn {Y:Nat→RF} {k:Nat} (h:prE Y k≠0):∀ m,k≤m→prE Y m=prE Y k
 | 0,hm=>by rw[Nat.le_zero.1 hm]
 | m+1,hm=>by
  by_cases e:k=m+1
  ·rw[e]
  ·have ih:=Xn h m (by omega)
   simp only[prE]
   rw[ih,if_pos h]
theorem pT {Y:Nat→RF}:∀ {m:Nat},kV Y m→prE Y m=0
 | 0,_=>rfl
 | m+1,h=>by
  have ih:=pT (m:=m) fun r hr=>h r (by omega)
  obtain ⟨h1,h2⟩:=h m (by omega)
  simp only[prE]
  rw[if_neg fun e=>e ih,if_neg (by rw[h1]; decide),if_neg (by rw[h2]; decide)]
theorem aaf {Y:Nat→RF} {k m:Nat} (h:kV Y k) (hv:(Y k).v=false) (hk:k<m):prE Y m=2:=by
 have h1:prE Y (k+1)=2:=by simp only[prE]; rw[if_neg fun e=>e (pT h),if_pos hv]
 rw[Xn (by rw[h1]; decide) m hk,h1]
theorem aae {Y:Nat→RF} {k m:Nat} (h:kV Y k) (hv:(Y k).v=true) (hs:(Y k).s=true) (hk:k<m):prE Y m=4:=by
 have h1:prE Y (k+1)=4:=by simp only[prE]; rw[if_neg fun e=>e (pT h),if_neg (by rw[hv]; decide),if_pos hs]
 rw[Xn (by rw[h1]; decide) m hk,h1]
theorem UB {Y:Nat→RF} {k:Nat} (h:kV Y k) (hv:(Y k).v=true) (hs:(Y k).s=false):kV Y (k+1):=fun r hr=>by
 by_cases e:r=k
 ·subst e; exact ⟨hv,hs⟩
 ·exact h r (by omega)
theorem afm {x:RF} (h:x.v=true):x.s=decide (x.q<0):=by
 have e:=Nc h
 have:x.s=decide (x.q.num<0):=congrArg RF.s e
 rw[this,decide_eq_decide]
 exact uV
section
variable {P:Pb} {fx:List Int} {y:Nat→Rat} {S k r i:Nat}
theorem Qz (hG:P.Good) (hi:i<P.of.length):sz 20 (P.vQ i):=by
 have hv:=(xC (yU (hG.off _ (at_mem hi))).1).2.1
 exact uL (by omega)
theorem Q7 (hG:P.Good) (hi:i<P.of.length) (hr:r<P.rows):sz 2 (P.cof r i):=by
 have hv:=uq (xC (yU (hG.off _ (at_mem hi))).1).2.2 hr
 exact uL (by omega)
theorem Uy (hG:P.Good) (hi:i<P.of.length) (hy:∀ r,r<P.rows→sz S (y r)):∀ R,R≤P.rows→sz (20+R*(S+3)) (P.exc y R i)
 | 0,_=>by
  unfold Pb.exc
  have:zg 0 (fun r=>y r*P.cof r i)=0:=rfl
  rw[this,Rat.sub_eq_add_neg,show P.vQ i+-0=P.vQ i by grind]
  exact zx (Qz hG hi) (by omega)
 | R+1,h=>by
  have ih:=Uy hG hi hy R (by omega)
  have:P.exc y (R+1) i=P.exc y R i-y R*P.cof R i:=by unfold Pb.exc; simp only[zg]; grind
  rw[this]
  exact zx (gu ih (yg (hy R (by omega)) (Q7 hG hi (by omega)))) (by rw[Nat.add_mul]; omega)
theorem jW (hG:P.Good) (hr:r<P.rows):∀ k,k≤P.of.length→0≤((P.inK fx k).map (P.coef r)).sum∧((P.inK fx k).map (P.coef r)).sum≤4*k:=fun k hk=>by
 have h:=RX (a:=0) (b:=4) (f:=P.coef r) (l:=P.inK fx k) fun o ho=>uq (xC (yU (hG.off _ (LR hk o ho))).1).2.2 hr
 have:=T8 (P:=P) (fx:=fx) (k:=k)
 omega
theorem eH (hG:P.Good) (hr:r<P.rows):0≤P.bnd r∧P.bnd r≤4:=by
 unfold Pb.rows at hr
 unfold Pb.bnd
 split
 ·omega
 ·split
  ·exact hG.sup _ (by omega)
  ·have h1:=hG.set (r-P.cl.length-6) (by omega)
   have h2:=hG.sup (r-P.cl.length-6) (by omega)
   unfold Pb.okC at h1
   omega
theorem Z2 (hG:P.Good) (hl:fx.length=P.of.length) (hr:r<P.rows):sz 10 ((P.relB fx r:Int):Rat):=by
 have h1:=jW (fx:=fx) hG hr fx.length (by omega)
 have h2:=eH hG hr
 have h3:=hG.k
 refine uL ?_
 unfold Pb.relB Pb.inL
 omega
theorem QG (hG:P.Good) (hl:fx.length=P.of.length):sz 28 ((P.accV fx fx.length:Int):Rat):=by
 have h1:=eF (fx:=fx) hG fx.length (by omega)
 have h3:=hG.k
 exact uL (by omega)
theorem KO (hG:P.Good) (hl:fx.length=P.of.length) (hy:∀ r,r<P.rows→sz S (y r)):∀ R,R≤P.rows→sz (28+R*(S+11)) (P.bdQ fx y R)
 | 0,_=>by
  unfold Pb.bdQ
  have:zg 0 (fun r=>y r*((P.relB fx r:Int):Rat))=0:=rfl
  rw[this,show ((P.accV fx fx.length:Int):Rat)+0=((P.accV fx fx.length:Int):Rat) by grind]
  exact zx (QG hG hl) (by omega)
 | R+1,h=>by
  have ih:=KO hG hl hy R (by omega)
  have:P.bdQ fx y (R+1)=P.bdQ fx y R+y R*((P.relB fx R:Int):Rat):=by unfold Pb.bdQ; simp only[zg]; grind
  rw[this]
  exact zx (r4 ih (yg (hy R (by omega)) (Z2 hG hl (by omega)))) (by rw[Nat.add_mul]; omega)
theorem KK (hG:P.Good) (hl:fx.length=P.of.length) (hy:∀ r,r<P.rows→sz S (y r)):∀ k,k≤fx.length→sz (k*(21+P.rows*(S+3))) (P.adQ fx y P.rows k)
 | 0,_=>xQ
 | k+1,h=>by
  have ih:=KK hG hl hy k (by omega)
  have he:=Uy (i:=k) hG (by omega) hy P.rows (Nat.le_refl _)
  unfold Pb.adQ at ih ⊢
  simp only[zg]
  have e:(k+1)*(21+P.rows*(S+3))=k*(21+P.rows*(S+3))+(20+P.rows*(S+3))+1:=by rw[Nat.add_mul]; omega
  rw[e]
  split
  ·exact r4 ih he
  ·exact r4 ih (zx xQ (Nat.zero_le _))
end
abbrev zfr:AV:=.agg zz
theorem yb {P:Program} {f:FuncId} {xs:List AV} {s:St} {dst:Option Nat} {K:St→Prop} (h:yc P f xs s fun r s'=>s'.base=s.base∧K (s'.put dst r)):tp P f xs s dst K:=h
def Fc (f:FuncId) (ds:List Nat) (s:St) (d:Option Nat) (K:St→Prop) (xs:List AV):Prop :=
 rM s.sto s.base ds∧∀ D:List Nat,yc Tryz.prog f xs {s with env:=del D s.env} fun r s'=>∃ A:St,s'={A with env:=del D A.env}∧A.base=s.base∧rM A.sto A.base ds∧K (A.put d r)
@[simp] theorem afS {f:FuncId} {ds:List Nat} {xs:List Opd} {d:Option Nat} {os:List zi} {s:St} {KS:St→Prop} :
  zj Tryz.prog (⟨d,.callM f ds,xs,none⟩::os) s KS=(yZ Tryz.prog f=true∧Fc f ds s d (eg Tryz.prog os KS) (xs.map (ev s))):=propext Iff.rfl
theorem lW {M:Nat} {n:Int}:Am.low M (iv n)=true:=rfl
theorem rR {M:Nat} {b:Bool}:Am.low M (bv b)=true:=rfl
theorem xP {M k off:Nat}:Am.low M (.ptr k off)=decide (k<M):=rfl
theorem Mk {P:Program} {f:FuncId} {xs args:List AV} {s:St} {r:AV} {K:AV→St→Prop} (h:zd P f args r) (hs:yx (wB (lk s.sto)) xs=some args)
  (hp:xs.any rP=true→pf r=true) (hK:K r s):yc P f xs s K:=by
 intro F a w I β lam hI vs hv hR
 obtain ⟨hl,hg⟩:=cd hs
 have done:∀ (J:Nat→Nat→Prop),(∀ b o,J b o→b<w.heap.size)→(∀ i x,args[i]?=some x→R0 J w x (vs.getD i undef)) →
   (∀ (w':World) (v:Value),R0 (fun b o=>(J b o∨w.heap.size≤b)∧b<w'.heap.size) w' r v→w.heap.size≤w'.heap.size→R0 (fun b o=>I b o∨(w.heap.size≤b∧b<w'.heap.size)) w' r v) →
   Calls P f vs w fun e w'=>∃ v,e=.returned v∧∃ r s' I' β' lam',K r s'∧Inv F s'.look (lk s'.sto) I' β' lam' a w'∧R I' w' β' lam' r v:=by
  intro J hJ hJR hres
  refine Calls.mono (h J vs w hJ (by omega) hJR) fun e w' ⟨v,he,hb,hr⟩=>⟨v,he,r,s,fun b o=>I b o∨(w.heap.size≤b∧b<w'.heap.size),β,lam,hK,?_,.base (hres w' v hr hb.size)⟩
  exact hI.grow hb (fun _ _ h=>.inl h) (fun _ _ h=>h)
 by_cases href:xs.any rP=true
 ·refine done (Seen I β lam) (fun b o h=>?_) (fun i x hi=>?_) (fun w' v hr _=>aac hr (hp href))
  ·rcases h with h | h
   ·exact hI.Isub _ _ h
   ·rcases h with ⟨k,h⟩ | ⟨l,p,cap,sz,h,h0⟩
    ·exact (hI.bnew _ _ h).2.1
    ·exact hI.hlm _ _ _ _ _ h h0
  ·obtain ⟨x',hx',hsn⟩:=hg i x hi
   exact (jq hI.hread hI.usto hsn (hR i x' hx')).1
 ·refine done I hI.Isub (fun i x hi=>?_) (fun w' v hr hle=>hr.mono (fun b o hb=>?_) (fun _ _ _ _ h=>h))
  ·obtain ⟨x',hx',hsn⟩:=hg i x hi
   refine (jq hI.hread hI.usto hsn (hR i x' hx')).2 ?_
   have:=List.any_eq_false.1 (by simpa using href) x' (List.mem_iff_getElem?.2 ⟨i,hx'⟩)
   simpa using this
  ·rcases hb.1 with h | h
   ·exact .inl h
   ·exact .inr ⟨h,hb.2⟩
theorem Pf {f:FuncId} {ds:List Nat} {xs args:List AV} {s:St} {d:Option Nat} {r:AV} {K:St→Prop} (h:zd Tryz.prog f args r) (hf:rM s.sto s.base ds) (hs:yx (wB (lk s.sto)) xs=some args)
  (hp:xs.any rP=true→pf r=true) (hK:K (s.put d r)):Fc f ds s d K xs :=
 ⟨hf,fun _=>Mk h hs hp ⟨s,rfl,rfl,hf,hK⟩⟩
theorem St.imp_env_nil {s:St} {t n l sz:Nat} (hk:lk s.env t=some (.list n .full [])) (hl:lk s.sto l=some (.uarr sz [])):St.imp s {s with env:=pt s.env t (.us l sz 0 0)}:=by
 rintro F a w ⟨I,β,lam,h⟩
 refine ⟨I,β,lam,{h with env:=?_}⟩
 rintro ⟨d,t'⟩ x hx
 cases d with
 | zero =>
  have hx:lk (pt s.env t (.us l sz 0 0)) t'=some x:=hx
  rw[xO] at hx
  by_cases e:t=t'
  ·subst e
   rw[if_pos rfl] at hx
   cases hx
   obtain ⟨v,h1,h2⟩:=h.env (0,t) _ hk
   refine ⟨v,h1,?_⟩
   obtain ⟨av,cap,rfl,_,hf,_⟩:=h2.list_inv
   have hc:=hf rfl
   simp only[List.length_nil] at hc
   subst hc
   obtain ⟨a',cap',g1,g2,g3,g4⟩:=h.usto l sz [] hl
   exact .us l sz 0 0 cap' 0 a' av g1 (Nat.le_refl _) (Nat.zero_le _) (fun h=>absurd rfl h)
  ·rw[if_neg e] at hx
   exact h.env (0,t') x hx
 | succ d=>exact h.env (d+1,t') x hx
theorem QM {P:Program} {c:zc} {s t:St} {K:Exit→St→Prop} (h:St.imp s t) (ha:awp P (.loop c) t K):awp P (.loop c) s K:=by
 obtain ⟨J,n,s0,h0,h1⟩:=ha
 exact ⟨J,n,s0,h.trans h0,h1⟩
def elm (l:Nat→Rat) (f:Rat) (c:Nat) (pr:Nat→Rat) (j:Nat):Rat:=(if j=c then 0 else l j)-f*pr j
noncomputable def Zf (l pr:Nat→Rat) (n c:Nat) (b pb f:Rat) (k:Nat):St :=
 {env:=[(2,iv c),(3,fL pr n),(6,.ptr 6 0),(9,.ptr 9 0),(11,.ptr 11 0),(12,.ptr 12 0),(13,.sl 27 3 0 n),(28,fL l n),(29,iv n),(30,iv k)],
  sto:=[(6,.var (fr b)),(9,.var (fr pb)),(11,.var zz),(12,.var (fr f)),(27,.arr 3 (fZ (elm l f c pr) k n))]}
theorem fc {n c K:Nat} {l pr:Nat→Rat} {b pb:Rat} (hn:n<1000000) (hc:c<n) (hK:K≤30000000000) (hl:∀ j,j<n→sz K (l j)) (hp:∀ j,j<n→sz K (pr j)) (hb:sz K b) (hpb:sz K pb) :
  zd Tryz.prog pj [fL l n,fq b,iv c,fL pr n,fq pb] (.tuple [fL (elm l (l c) c pr) n,fq (b-l c*pb)]):=by
 obtain ⟨f,hf⟩:∃ f,l c=f:=⟨_,rfl⟩
 have szf:sz K f:=by rw[← hf]; exact hl c hc
 rw[hf]
 have e0:(c:Int)<n:=by omega
 have ks:=vf (q:=f)
 have k1:=k6 (by omega) szf hpb
 have k2:=Tu (K:=K+K) (by omega) (zx hb (by omega)) (yg szf hpb)
 refine zC Qm (by simp) ?_
 simp[bm,e0,hc,hf]
 refine za ks (by simp) (by simp) ?_
 by_cases h0:f=0
 ·have h1:yN f=0:=wH.2 h0
  have h2:fR (elm l f c pr) n=fR l n:=yd fun j hj=>by
   unfold elm
   rw[h0]
   split
   ·rename_i e; subst e; rw[hf,h0]; grind
   ·grind
  have h3:b-f*pb=b:=by rw[h0]; grind
  simp[h1,kE,h2,h3]
 ·have h1:¬ yN f=0:=fun h=>h0 (wH.1 h)
  simp[h1,eMk]
  refine ⟨by omega,by omega,?_⟩
  rw[ns (f:=elm l f c pr)]
  refine zl (Zf l pr n c b pb f) (fun _=>True) n (by simp[Zf]) trivial (fun k hk _=>?_) (fun _=>?_)
  ·have e:(k:Int)<n:=by omega
   have w:=zm (k:=k) (by omega)
   have hs:=lO (f:=elm l f c pr) hk
   have g1:=k6 (by omega) szf (hp k hk)
   have g2:=UT (K:=K+K) (by omega) (yg szf (hp k hk))
   have g3:=vf (q:=pr k)
   have g4:=Tu (K:=K+K) (by omega) (zx (hl k hk) (by omega)) (yg szf (hp k hk))
   by_cases hkc:k=c
   ·subst hkc
    have ev:elm l f k pr k=-(f*pr k):=by unfold elm; rw[if_pos rfl]; grind
    rw[ev] at hs
    simp[tZ,Zf,e,hk]
    refine za g1 (by simp) (by simp) ?_
    simp
    refine za g2 (by simp) (by simp) ?_
    simp[hk,w,hs,Zf]
   ·have ec:¬ (k:Int)=c:=by omega
    have ev:elm l f c pr k=l k-f*pr k:=by unfold elm; rw[if_neg hkc]
    rw[ev] at hs
    simp[tZ,Zf,e,hk,ec]
    refine za g3 (by simp) (by simp) ?_
    by_cases hz:pr k=0
    ·have z1:yN (pr k)=0:=wH.2 hz
     have z2:l k-f*pr k=l k:=by rw[hz]; grind
     rw[z2] at hs
     simp[z1,hk,w,hs,Zf]
    ·have z1:¬ yN (pr k)=0:=fun h=>hz (wH.1 h)
     simp[z1,hk]
     refine za g1 (by simp) (by simp) ?_
     simp
     refine za g4 (by simp) (by simp) ?_
     simp[hk,w,hs,Zf]
  ·simp[tZ,jT,kE,Zf,nr]
   refine za k1 (by simp) (by simp) ?_
   simp
   refine za k2 (by simp) (by simp) ?_
   simp
def nR (f:Nat→Nat) (n:Nat):List (List AV):=mR (fun i=>[iv (f i)]) n
noncomputable def cR (a:Nat→Nat→Rat) (cl:Nat→Nat) (n:Nat):List (List AV):=mR (fun i=>[fL (a i) (cl i)]) n
section
variable {f:Nat→Nat} {a:Nat→Nat→Rat} {cl:Nat→Nat} {n i k:Nat} {e:ze}
@[simp] theorem ahS:(nR f n).length=n:=nT
@[simp] theorem ahl:(cR a cl n).length=n:=nT
@[simp] theorem ag2 {hi:i<(nR f n).length}:(nR f n)[i]=[iv (f i)]:=jl
@[simp] theorem agL {hi:i<(cR a cl n).length}:(cR a cl n)[i]=[fL (a i) (cl i)]:=jl
theorem F0 {x:Nat}:(nR f n).set i [iv x]=nR (upd f i x) n:=by
 unfold nR
 rw[UR]
 exact uU fun j _=>by unfold upd; split<;>rfl
theorem GM {x:Nat→Rat} {l:Nat}:(cR a cl n).set i [fL x l]=cR (upd a i x) (upd cl i l) n:=by
 unfold cR
 rw[UR]
 exact uU fun j _=>by unfold upd; split<;>rfl
theorem QU {a':Nat→Nat→Rat} {cl':Nat→Nat} (h:∀ i,i<n→cl i=cl' i∧∀ j,j<cl i→a i j=a' i j):cR a cl n=cR a' cl' n :=
 uU fun i hi=>by
  obtain ⟨h1,h2⟩:=h i hi
  rw[← h1,show fL (a i) (cl i)=fL (a' i) (cl i) from congrArg _ (yd h2)]
@[simp] theorem ahR:((nR f n).map fun r=>r.map (frz k e))=nR f n:=tw fun _=>rfl
@[simp] theorem ahk:((cR a cl n).map fun r=>r.map (frz k e))=cR a cl n:=tw fun _=>by simp
@[simp] theorem aiF:zX k (nR f n)=nR f n:=tw fun _=>by simp
@[simp] theorem ah9:zX k (cR a cl n)=cR a cl n:=tw fun _=>by simp
@[simp] theorem ahT:xn k (nR f n)=false:=UQ fun _=>by simp
@[simp] theorem ahm:xn k (cR a cl n)=false:=UQ fun _=>by simp
@[simp] theorem aiG:xk (nR f n)=true:=aI fun _=>by simp
@[simp] theorem aia:xk (cR a cl n)=true:=aI fun _=>by simp
@[simp] theorem aiH:zP (nR f n)=nR f n:=tw fun _=>by simp
@[simp] theorem aib:zP (cR a cl n)=cR a cl n:=tw fun _=>by simp
end
def rest (ρ:List (Nat × ze)):Prop:=∀ p∈ρ,(p.1<1000∨(3000≤p.1∧p.1<4000))∧aH 1000 p.2=true
def far (k:Nat):Bool:=decide ((1000≤k∧k<3000)∨4000≤k)
section
variable {ρ:List (Nat × ze)} {l:List (Nat × ze)} {k:Nat} {e:ze}
theorem Ss (h:rest ρ) (hk:far k=true):lk ρ k=none:=by
 have hk:(1000≤k∧k<3000)∨4000≤k:=of_decide_eq_true hk
 cases hl:lk ρ k with
 | none=>rfl
 | some e=>have:=(h _ (UK hl)).1; simp at this; omega
theorem adB {_l':List (Nat × ze)} (h:lk ρ k=none):lk (ρ++l) k=lk l k:=by
 induction ρ with
 | nil=>rfl
 | cons p ρ ih =>
  obtain ⟨m,x⟩:=p
  simp only[lk,List.cons_append] at h ⊢
  split at h
  ·cases h
  ·rename_i hne; rw[if_neg hne]; exact ih h
theorem rlk (h:rest ρ) (hk:far k=true):lk (ρ++l) k=lk l k:=adB (_l':=[]) (Ss h hk)
theorem rpt (h:rest ρ) (hk:far k=true):pt (ρ++l) k e=ρ++pt l k e:=by
 have:=Ss h hk
 clear h
 induction ρ with
 | nil=>rfl
 | cons p ρ ih =>
  obtain ⟨m,x⟩:=p
  simp only[lk] at this
  split at this
  ·cases this
  ·rename_i hne; simp only[List.cons_append,pt]; rw[if_neg hne,ih this]
theorem aaK {D:List Nat}:del D (ρ++l)=del D ρ++del D l:=by
 induction ρ with
 | nil=>rfl
 | cons p ρ ih =>
  obtain ⟨m,x⟩:=p
  simp only[List.cons_append,del]
  split
  ·exact ih
  ·rw[ih]; rfl
theorem afc {D:List Nat} (h:rest ρ) (hD:D.all far=true):del D ρ=ρ:=by
 induction ρ with
 | nil=>rfl
 | cons p ρ ih =>
  obtain ⟨m,x⟩:=p
  simp only[del]
  have h1:=(h (m,x) (by simp)).1
  have:D.elem m=false:=by
   cases hc:D.elem m with
   | false=>rfl
   | true=>have:=List.all_eq_true.1 hD m (by simpa using hc); simp[far] at this h1; omega
  rw[this,ih fun p hp=>h p (by simp[hp])]; rfl
theorem wz {D:List Nat} (h:rest ρ) (hD:D.all far=true):del D (ρ++l)=ρ++del D l:=by rw[aaK,afc h hD]
theorem BT (h:rest ρ) (hk:1000≤k):tz k ρ=true:=by
 induction ρ with
 | nil=>rfl
 | cons p ρ ih =>
  obtain ⟨m,x⟩:=p
  have h1:=(h (m,x) (by simp)).2
  simp only[tz,FO hk h1,ih fun p hp=>h p (by simp[hp])]; rfl
theorem Jw:tz k (ρ++l)=(tz k ρ&&tz k l):=by
 induction ρ with
 | nil=>rfl
 | cons p ρ ih =>
  obtain ⟨m,x⟩:=p
  simp only[List.cons_append,tz,ih,Bool.and_assoc]
theorem y4 (h:rest ρ) (hk:1000≤k):tz k (ρ++l)=tz k l:=by rw[Jw,BT h hk]; rfl
theorem BZ {e0:ze} (h:rest ρ) (hk:1000≤k):((ρ++l).map fun p=>(p.1,sU k e0 p.2))=ρ++l.map fun p=>(p.1,sU k e0 p.2):=by
 rw[List.map_append]
 congr 1
 exact yJ fun p hp=>by rw[C4 hk (h p hp).2]
theorem t7 {c:List AV}:sU k e (.var c)=.var (c.map (frz k e)):=rfl
theorem nu {n:Nat} {r:List (List AV)}:sU k e (.uarr n r)=.uarr n (r.map fun r=>r.map (frz k e)):=rfl
theorem nZ (h:rest ρ) (hk:1000≤k):(ρ.map fun p=>(p.1,dgE k p.2))=ρ:=yJ fun p hp=>by rw[aba hk (h p hp).2]
end
theorem eno {k:Nat} {f:List (Nat × AV)} (h:xd 2000 f) (hk:2000≤k):qx k f=true:=kY hk h
theorem ono {k:Nat} {f:List (List (Nat × AV))} (h:yp 2000 f) (hk:2000≤k):nU k f=true:=UO hk h
theorem agf {k:Nat} {e:ze} {f:List (Nat × AV)} (h:xd 2000 f) (hk:2000≤k):(f.map fun p=>(p.1,frz k e p.2))=f:=Xg hk h
theorem Bn {k:Nat} {e:ze} {f:List (List (Nat × AV))} (h:yp 2000 f) (hk:2000≤k):(f.map fun f=>f.map fun p=>(p.1,frz k e p.2))=f:=C5 hk h
theorem edg {k:Nat} {f:List (Nat × AV)} (h:xd 2000 f) (hk:2000≤k):(f.map fun p=>(p.1,dg k p.2))=f:=Sc hk h
theorem odg {k:Nat} {f:List (List (Nat × AV))} (h:yp 2000 f) (hk:2000≤k):(f.map fun f=>f.map fun p=>(p.1,dg k p.2))=f:=L0 hk h
noncomputable abbrev tC (n m:Nat) (d:zn):List AV:=[iv n,iv m,.us 1961 1 0 m,.us 1972 3 0 m,fL d.cst d.c,f0 d.v,f1 d.v,f2 d.v,.us 1987 1 0 m,.us 2029 1 0 d.c]
noncomputable def tL (n m:Nat) (d:zn):List (Nat × ze) :=
 [(1015,.var (tC n m d)),(1961,.uarr 1 (cR d.a (fun _=>d.c) m)),(1972,.uarr 3 (fR d.b m)),(1987,.uarr 1 (nR d.bas m)),(2029,.uarr 1 (nR d.fre d.c))]
@[simp] theorem aeW {q:Rat} {a b c d e g h:AV}:zH [a,b,c,d,e,f0 q,f1 q,f2 q,g,h] 5 (some 3)=some (fq q):=by
 simp[zH]
def yI (d:zn):Nat→Int
 | 0=>-1
 | k+1=>if 0<d.cst k∧(yI d k<0∨d.fre k<d.fre (yI d k).toNat) then k else yI d k
theorem mB (d:zn):∀ k,-1≤yI d k∧yI d k<k
 | 0=>by simp[yI]
 | k+1=>by have:=mB d k; simp only[yI]; split<;>omega
noncomputable def Zg (n m:Nat) (d:zn) (ρ:List (Nat × ze)) (out:List (List (Nat × AV))) (k:Nat):St :=
 {env:=[(0,.ptr 1015 0),(3,iv (yI d k)),(9,.us 2029 1 0 d.c),(10,iv d.c),(11,iv k)],sto:=ρ++tL n m d,out:=out,base:=5000}
theorem Rj {n m:Nat} {d:zn} {ρ:List (Nat × ze)} {s:St} {K:AV→St→Prop} (hs:s.sto=ρ++tL n m d) (hρ:rest ρ) (hc:d.c<1000000) (h:K (iv (yI d d.c)) s) :
  yc Tryz.prog r8 [.ptr 1015 0] s K:=by
 obtain ⟨env,σ,out,base⟩:=s
 simp only at hs
 subst hs
 refine vA 5000 SU (by simp) ?_
 simp[eI,tL,rlk hρ,far]
 refine zl (Zg n m d ρ (env::out)) (fun _=>True) d.c (by simp[Zg,tL,yI]) trivial (fun k hk _=>?_) (fun _=>?_)
 ·have e:(k:Int)<d.c:=by omega
  have w:=zm (k:=k) (by omega)
  have g3:=vf (q:=d.cst k)
  obtain ⟨b1,b2⟩:=mB d k
  simp[qJ,Zg,tL,e,hk,rlk hρ,far]
  refine za g3 (by simp) (by simp) ?_
  by_cases h0:0<d.cst k
  ·have h0':0<yN (d.cst k):=sh.2 h0
   by_cases h1:yI d k<0
   ·have ev:yI d (k+1)=k:=by simp only[yI]; rw[if_pos ⟨h0,.inl h1⟩]
    simp[h0',h1,w,Zg,ev,tL]
   ·have b3:(yI d k).toNat<d.c:=by omega
    have b4:(0:Int)≤yI d k:=by omega
    have b5:yI d k<d.c:=by omega
    by_cases h2:d.fre k<d.fre (yI d k).toNat
    ·have ev:yI d (k+1)=k:=by simp only[yI]; rw[if_pos ⟨h0,.inr h2⟩]
     simp[h0',h1,h2,b3,b4,b5,w,Zg,ev,tL,rlk hρ,far]
    ·have ev:yI d (k+1)=yI d k:=by simp only[yI]; rw[if_neg fun h=>h.2.elim h1 h2]
     simp[h0',h1,h2,b3,b4,b5,w,Zg,ev,tL,rlk hρ,far]
  ·have h0':¬ 0<yN (d.cst k):=fun h=>h0 (sh.1 h)
   have ev:yI d (k+1)=yI d k:=by simp only[yI]; rw[if_neg fun h=>h0 h.1]
   simp[h0',w,Zg,ev,tL]
 ·simp[qJ,kI,da,Zg]
  exact h
def rat (d:zn) (q i:Nat):Rat:=d.b i/d.a i q
def ya (d:zn) (q:Nat):Nat→Int
 | 0=>-1
 | k+1=>if 0<d.a k q∧(ya d q k<0∨rat d q k<rat d q (ya d q k).toNat∨(rat d q k=rat d q (ya d q k).toNat∧d.bas k≤d.bas (ya d q k).toNat)) then k else ya d q k
theorem mL (d:zn) (q:Nat):∀ k,-1≤ya d q k∧ya d q k<k
 | 0=>by simp[ya]
 | k+1=>by have:=mL d q k; simp only[ya]; split<;>omega
noncomputable def lst (d:zn) (q k:Nat):List AV:=if ya d q k<0 then zz else fr (rat d q (ya d q k).toNat)
@[simp] theorem ag1 {d:zn} {q k j:Nat}:xg j (lst d q k)=false:=by unfold lst; split<;>simp
noncomputable def ew (n m:Nat) (d:zn) (q:Nat) (ρ:List (Nat × ze)) (out:List (List (Nat × AV))) (k:Nat):St :=
 {env:=[(0,.ptr 1015 0),(1,iv q),(5,iv (ya d q k)),(6,.ptr 5006 0),(15,.us 1961 1 0 m),(16,iv m),(17,iv k)],sto:=ρ++(tL n m d++[(5006,.var (lst d q k))]),out:=out,base:=5000}
theorem Dw {K L:Nat} {a b:Rat} (ha:sz K a) (hb:sz L b):sz (K+L) (a/b):=by
 rw[show a/b=a*(1/b) by grind]
 exact yg ha (N1 hb)
theorem PP {n m q L:Nat} {d:zn} {ρ:List (Nat × ze)} {s:St} {K:AV→St→Prop} (hs:s.sto=ρ++tL n m d) (hρ:rest ρ) (hE:xd 2000 s.env) (hO:yp 2000 s.out) (hm:m<1000000) (hq:q<d.c)
  (hL:L≤30000000000) (ha:∀ i,i<m→sz L (d.a i q)) (hb:∀ i,i<m→sz L (d.b i)) (h:K (iv (ya d q m)) s) :
  yc Tryz.prog pe [.ptr 1015 0,iv q] s K:=by
 obtain ⟨env,σ,out,base⟩:=s
 simp only at hs hE hO
 subst hs
 refine vA 5000 Qc (by simp) ?_
 simp[cZ,tL,rlk hρ,rpt hρ,far]
 refine zl (ew n m d q ρ (env::out)) (fun _=>True) m (by simp[ew,tL,ya,lst]) trivial (fun k hk _=>?_) (fun _=>?_)
 ·have e:(k:Int)<m:=by omega
  have eq:(q:Int)<d.c:=by omega
  have w:=zm (k:=k) (by omega)
  obtain ⟨r1,hr1⟩:∃ r,r=rat d q k:=⟨_,rfl⟩
  obtain ⟨r2,hr2⟩:∃ r,r=rat d q (ya d q k).toNat:=⟨_,rfl⟩
  have g1:=vf (q:=d.a k q)
  have g2:d.a k q≠0→zd Tryz.prog jb [fq (d.b k),fq (d.a k q)] (.tuple [fq r1,iv 0]):=fun h=>by rw[hr1]; exact A1 (by omega) (hb k hk) (ha k hk) h
  obtain ⟨b1,b2⟩:=mL d q k
  have z1:sz (L+L) r1:=by rw[hr1]; exact Dw (hb k hk) (ha k hk)
  have z2:0≤ya d q k→sz (L+L) r2:=fun h=>by rw[hr2]; exact Dw (hb _ (by omega)) (ha _ (by omega))
  simp[pJ,ew,tL,e,hk,rlk hρ,far,eq,hq]
  refine za g1 (by simp) (by simp) ?_
  by_cases h0:0<d.a k q
  ·have h0':¬ yN (d.a k q)≤0:=by have:=sh.2 h0; omega
   have h00:d.a k q≠0:=by grind
   simp[h0',rlk hρ,far,e,eq,hk,hq]
   refine za (g2 h00) (by simp) (by simp) ?_
   by_cases h1:ya d q k<0
   ·have ev:ya d q (k+1)=k:=by simp only[ya]; rw[if_pos ⟨h0,.inl h1⟩]
    have ev1:lst d q k=zz:=by unfold lst; rw[if_pos h1]
    have ev2:lst d q (k+1)=fr r1:=by unfold lst; rw[ev,if_neg (by omega),hr1]; rfl
    have h1':¬ 0≤ya d q k:=by omega
    simp[h1',rlk hρ,rpt hρ,wz hρ,y4 hρ,eno hE,ono hO,far,ew,tL,ev,ev1,ev2,w]
   ·have h1':0≤ya d q k:=by omega
    have b3:(ya d q k).toNat<m:=by omega
    have b5:ya d q k<m:=by omega
    have ev1:lst d q k=fr r2:=by unfold lst; rw[if_neg h1,hr2]
    have g3:=Ur (by omega) z1 (z2 h1')
    simp[h1',rlk hρ,rpt hρ,far,ev1]
    refine za g3 (by simp) (by simp) ?_
    by_cases c1:r1<r2
    ·have ev:ya d q (k+1)=k:=by simp only[ya]; rw[if_pos ⟨h0,.inr (.inl (by rw[← hr1,← hr2]; exact c1))⟩]
     have ev2:lst d q (k+1)=fr r1:=by unfold lst; rw[ev,if_neg (by omega),hr1]; rfl
     have k1:¬ 0<wt r1 r2:=by have:=mz.2 c1; omega
     have k2:¬ wt r1 r2=0:=by have:=mz.2 c1; omega
     simp[k1,k2,rlk hρ,rpt hρ,wz hρ,y4 hρ,eno hE,ono hO,far,ew,tL,ev,ev2,w]
    ·by_cases c2:r1=r2
     ·have k2:wt r1 r2=0:=Cm.2 c2
      have k1:¬ 0<wt r1 r2:=by omega
      by_cases c3:d.bas k≤d.bas (ya d q k).toNat
      ·have ev:ya d q (k+1)=k:=by simp only[ya]; rw[if_pos ⟨h0,.inr (.inr ⟨by rw[← hr1,← hr2]; exact c2,c3⟩)⟩]
       have ev2:lst d q (k+1)=fr r1:=by unfold lst; rw[ev,if_neg (by omega),hr1]; rfl
       have c3':¬ d.bas (ya d q k).toNat<d.bas k:=by omega
       simp[k2,c3',hk,e,b3,b5,h1',rlk hρ,rpt hρ,wz hρ,y4 hρ,eno hE,ono hO,far,ew,tL,ev,ev2,w]
      ·have ev:ya d q (k+1)=ya d q k:=by simp only[ya]; rw[if_neg]; rw[← hr1,← hr2]; simp[h1,c1,c3]
       have ev2:lst d q (k+1)=fr r2:=by unfold lst; rw[ev,if_neg (by omega),hr2]
       have c3':d.bas (ya d q k).toNat<d.bas k:=by omega
       simp[k2,c3',hk,e,b3,b5,h1',rlk hρ,wz hρ,y4 hρ,eno hE,ono hO,far,ew,tL,ev,ev2,w]
     ·have ev:ya d q (k+1)=ya d q k:=by simp only[ya]; rw[if_neg]; rw[← hr1,← hr2]; simp[h1,c1,c2]
      have ev2:lst d q (k+1)=fr r2:=by unfold lst; rw[ev,if_neg (by omega),hr2]
      have k1:0<wt r1 r2:=LA.2 (by grind)
      simp[k1,rlk hρ,wz hρ,y4 hρ,eno hE,ono hO,far,ew,tL,ev,ev2,w]
  ·have h0':yN (d.a k q)≤0:=Int.not_lt.1 fun h=>h0 (sh.1 h)
   have ev:ya d q (k+1)=ya d q k:=by simp only[ya]; rw[if_neg fun h=>h0 h.1]
   have ev2:lst d q (k+1)=lst d q k:=by unfold lst; rw[ev]
   simp[h0',w,ew,ev,ev2,tL,rlk hρ,wz hρ,y4 hρ,eno hE,ono hO,far]
 ·simp[pJ,jA,bq,ew,tL,wz hρ,far,y4 hρ,eno hE,ono hO]
  exact h
def gf (d:zn) (p q:Nat):Nat→Rat:=upd (fun j=>d.a p j*(1/d.a p q)) q (1/d.a p q)
def pkD (d:zn) (p q k:Nat):zn :=
 {d with a:=fun i=>if i<k∧i≠p then elm (d.a i) (d.a i q) q (gf d p q) else d.a i,b:=fun i=>if i<k∧i≠p then d.b i-d.a i q*(d.b p*(1/d.a p q)) else d.b i}
theorem BL {d:zn} {p q:Nat}:pkD d p q 0=d:=by simp[pkD]
theorem BK {d:zn} {p q:Nat}:pkD d p q (p+1)=pkD d p q p:=by
 simp only[pkD,zn.mk.injEq,true_and,and_true]
 constructor
 ·funext i; by_cases h:i<p
  ·rw[if_pos ⟨by omega,by omega⟩,if_pos ⟨h,by omega⟩]
  ·rw[if_neg (by omega),if_neg (by omega)]
 ·funext i; by_cases h:i<p
  ·rw[if_pos ⟨by omega,by omega⟩,if_pos ⟨h,by omega⟩]
  ·rw[if_neg (by omega),if_neg (by omega)]
theorem abE {d:zn} {p q i:Nat} (hi:i<d.r):(pivot d p q).a i=(upd (pkD d p q d.r).a p (gf d p q)) i:=by
 funext j
 simp only[pivot,upd,pkD]
 by_cases h:i=p
 ·subst h; simp only[if_true,gf,upd]
 ·simp only[h,hi,if_false,if_true,ne_eq,not_false_eq_true,and_self,elm,gf,upd]
  split<;>grind
theorem abF {d:zn} {p q i:Nat} (hi:i<d.r):(pivot d p q).b i=(upd (pkD d p q d.r).b p (d.b p*(1/d.a p q))) i:=by
 simp only[pivot,upd,pkD]
 by_cases h:i=p
 ·subst h; simp only[if_true]
 ·simp only[h,hi,if_false,if_true,ne_eq,not_false_eq_true,and_self]
section
variable {d:zn} {p q k:Nat}
@[simp] theorem aiO:(pkD d p q k).c=d.c:=rfl
@[simp] theorem aiP:(pkD d p q k).r=d.r:=rfl
@[simp] theorem ahc:(pkD d p q k).cst=d.cst:=rfl
@[simp] theorem aiQ:(pkD d p q k).v=d.v:=rfl
@[simp] theorem ahb:(pkD d p q k).bas=d.bas:=rfl
@[simp] theorem ahd:(pkD d p q k).fre=d.fre:=rfl
theorem Eu:(pivot d p q).cst=elm d.cst (d.cst q) q (gf d p q):=by
 funext j
 simp only[pivot,elm,gf,upd]
 split<;>grind
end
noncomputable def NO (n m:Nat) (d:zn) (p q:Nat) (v:Rat) (f:Nat→Rat) (ρ:List (Nat × ze)) (out:List (List (Nat × AV))) (k:Nat):St :=
 {env:=[(0,.ptr 1015 0),(1,iv p),(2,iv q),(6,.ptr 5006 0),(8,.sl 5034 3 0 d.c),(41,fL (d.a p) d.c),(42,iv d.c),(43,iv k)],
  sto:=ρ++(tL n m d++[(5006,.var (fr v)),(5034,.arr 3 (fZ f k d.c))]),out:=out,base:=5000}
noncomputable def SI (n m:Nat) (d:zn) (p q:Nat) (v:Rat) (f:Nat→Rat) (ρ:List (Nat × ze)) (out:List (List (Nat × AV))) (k:Nat):St :=
 {env:=[(0,.ptr 1015 0),(1,iv p),(2,iv q),(8,fL f d.c),(11,.ptr 5011 0),(72,iv m),(73,iv k)],
  sto:=ρ++(tL n m (pkD d p q k)++[(5011,.var (fr v))]),out:=out,base:=5000}
theorem Nm {n m p q L:Nat} {d:zn} {ρ:List (Nat × ze)} {s:St} {K:AV→St→Prop} (hs:s.sto=ρ++tL n m d) (hρ:rest ρ) (hE:xd 2000 s.env) (hO:yp 2000 s.out) (hm:m<1000000) (hc:d.c<1000000) (hr:d.r=m) (hp:p<m) (hq:q<d.c)
  (hL:L≤10000000000) (hsz:szD L d) (ha0:d.a p q≠0) (h:K (.tuple []) ⟨s.env,ρ++tL n m (pivot d p q),s.out,s.base⟩) :
  yc Tryz.prog uQ [.ptr 1015 0,iv p,iv q] s K:=by
 obtain ⟨env,σ,out,base⟩:=s
 simp only at hs hE hO h
 subst hs
 have ep:(p:Int)<m:=by omega
 have eq:(q:Int)<d.c:=by omega
 have sa:∀ i j,i<m→j<d.c→sz L (d.a i j):=fun i j h1 h2=>hsz.a i j (by omega) h2
 have sb:∀ i,i<m→sz L (d.b i):=fun i h1=>hsz.b i (by omega)
 obtain ⟨inv,hinv⟩:∃ x,1/d.a p q=x:=⟨_,rfl⟩
 have sinv:sz L inv:=by rw[← hinv]; exact N1 (sa p q hp hq)
 have one:sz L 1:=by
  have:1≤2^L:=Nat.one_le_two_pow
  exact ⟨this,this⟩
 have g1:zd Tryz.prog zN [iv 1] (fq 1):=yE (n:=1) (by decide) (by decide)
 have g2:=A1 (by omega) one (sa p q hp hq) ha0
 rw[hinv] at g2
 have g3:=k6 (by omega) (sb p hp) sinv
 obtain ⟨bnd,hbnd⟩:∃ x,d.b p*inv=x:=⟨_,rfl⟩
 have sbnd:sz (L+L) bnd:=by rw[← hbnd]; exact yg (sb p hp) sinv
 rw[hbnd] at g3
 refine vA 5000 M1 (by simp) ?_
 simp[Yn,tL,rlk hρ,far]
 refine za g1 (by simp) (by simp) ?_
 simp[rlk hρ,far,ep,eq,hp,hq]
 refine za g2 (by simp) (by simp) ?_
 simp[rlk hρ,rpt hρ,far,ep,hp,eMk]
 refine ⟨by omega,by omega,?_⟩
 rw[ns (f:=fun j=>d.a p j*inv)]
 refine zl (NO n m d p q inv (fun j=>d.a p j*inv) ρ (env::out)) (fun _=>True) d.c (by simp[NO,tL]) trivial (fun k hk _=>?_) (fun _=>?_)
 ·have e:(k:Int)<d.c:=by omega
  have w:=zm (k:=k) (by omega)
  have f1:=k6 (by omega) (sa p k hp hk) sinv
  have hset:=lO (f:=fun j=>d.a p j*inv) hk
  simp[mt,NO,tL,e,hk,tL,rlk hρ,rpt hρ,far]
  refine za f1 (by simp) (by simp) ?_
  simp[hk,w,hset,NO,tL,rlk hρ,rpt hρ,wz hρ,y4 hρ,eno hE,ono hO,far]
 ·have hprow:upd (fun j=>d.a p j*inv) q inv=gf d p q:=by unfold gf; rw[hinv]
  have hset:(fR (fun j=>d.a p j*inv) d.c).set q (fr inv)=fR (gf d p q) d.c:=by rw[uF,hprow]
  have spr:∀ j,j<d.c→sz (L+L) (gf d p q j):=fun j hj=>by
   rw[← hprow]; unfold upd; split
   ·exact zx sinv (by omega)
   ·exact yg (sa p j hp hj) sinv
  generalize hpr:gf d p q=pr at *
  simp[mt,NO,tL,rlk hρ,rpt hρ,wz hρ,y4 hρ,eno hE,ono hO,BZ hρ,agf hE,Bn hO,far,nr,eL,hq,eq,ep,hp,hset,y8,t7,nu,tI,lS]
  refine za g3 (by simp) (by simp) ?_
  simp[rlk hρ,rpt hρ,wz hρ,y4 hρ,eno hE,ono hO,far]
  refine zl (SI n m d p q bnd pr ρ (env::out)) (fun _=>True) m (by simp[SI,tL,BL]) trivial (fun k hk _=>?_) (fun _=>?_)
  ·have e:(k:Int)<m:=by omega
   have w:=zm (k:=k) (by omega)
   have pa:(pkD d p q k).a k=d.a k:=by simp[pkD]
   have pb:(pkD d p q k).b k=d.b k:=by simp[pkD]
   have pc:(pkD d p q k).c=d.c:=rfl
   by_cases hkp:k=p
   ·subst hkp
    simp[qh,SI,tL,e,w,BK]
   ·have ek:¬ (k:Int)=p:=by omega
    have f1:=fc (K:=L+L) (pb:=bnd) hc hq (by omega) (fun j hj=>zx (sa k j hk hj) (by omega)) spr (zx (sb k hk) (by omega)) sbnd
    simp[qh,SI,tL,rlk hρ,far,e,hk,ek,pa,pb]
    refine za f1 (by simp) (by simp) ?_
    have hs1:(cR (pkD d p q k).a (fun _=>d.c) m).set k [fL (elm (d.a k) (d.a k q) q pr) d.c]=cR (pkD d p q (k+1)).a (fun _=>d.c) m:=by
     rw[GM]
     refine QU fun i hi=>⟨by unfold upd; split<;>rfl,fun j hj=>?_⟩
     by_cases hik:i=k
     ·subst hik
      simp only[upd,if_true,pkD]
      rw[if_pos ⟨by omega,hkp⟩,hpr]
     ·have:(i<k+1)=(i<k):=by simp only[eq_iff_iff]; omega
      simp only[upd,if_neg hik,pkD,this]
    have hs2:(fR (pkD d p q k).b m).set k (fr (d.b k-d.a k q*bnd))=fR (pkD d p q (k+1)).b m:=by
     rw[uF]
     refine yd fun i hi=>?_
     by_cases hik:i=k
     ·subst hik
      simp only[upd,if_true,pkD]
      rw[if_pos ⟨by omega,hkp⟩,hinv,hbnd]
     ·have:(i<k+1)=(i<k):=by simp only[eq_iff_iff]; omega
      simp only[upd,if_neg hik,pkD,this]
    simp[tL,rlk hρ,rpt hρ,far,hs1,hs2,hk,e,w,SI]
  ·have f1:=fc (K:=L+L) (pb:=bnd) hc hq (by omega) (fun j hj=>zx (hsz.cst j hj) (by omega)) spr (zx hsz.v (by omega)) sbnd
   have f2:=k6 (K:=L+L) (by omega) (zx (hsz.cst q hq) (by omega)) sbnd
   have f3:=X3 (K:=L+(L+L)) (by omega) (zx hsz.v (by omega)) (yg (hsz.cst q hq) sbnd)
   have e1:(cR (pkD d p q m).a (fun _=>d.c) m).set p [fL pr d.c]=cR (pivot d p q).a (fun _=>d.c) m:=by
    rw[GM]
    refine QU fun i hi=>⟨by unfold upd; split<;>rfl,fun j hj=>?_⟩
    rw[abE (by omega),hpr,hr]
   have e2:(fR (pkD d p q m).b m).set p (fr bnd)=fR (pivot d p q).b m:=by
    rw[uF]
    refine yd fun i hi=>?_
    rw[abF (by omega),hinv,hbnd,hr]
   have e3:(nR d.bas m).set p [iv (d.fre q)]=nR (pivot d p q).bas m:=F0
   have e4:(nR d.fre d.c).set q [iv (d.bas p)]=nR (pivot d p q).fre d.c:=F0
   have e5:elm d.cst (d.cst q) q pr=(pivot d p q).cst:=by rw[Eu,hpr]
   have e6:d.v+d.cst q*bnd=(pivot d p q).v:=by simp only[pivot]; rw[hinv,hbnd]
   have e7:(pivot d p q).c=d.c:=rfl
   rw[e5] at f1
   rw[e6] at f3
   generalize pivot d p q=d' at *
   simp[qh,SI,tL,rlk hρ,rpt hρ,far,eK,hq,eq]
   refine za f1 (by simp) (by simp) ?_
   simp[rlk hρ,rpt hρ,far]
   refine za f2 (by simp) (by simp) ?_
   simp
   refine za f3 (by simp) (by simp) ?_
   simp[rlk hρ,rpt hρ,wz hρ,y4 hρ,eno hE,ono hO,far,YF,hp,hq,ep,eq,e1,e2,e3,e4]
   simp only[tL,tC,e7] at h
   exact h
theorem Y2 {d:zn}:∀ k,yI d k<0→∀ j,j<k→d.cst j≤0
 | 0,_,j,hj=>by omega
 | k+1,h,j,hj=>by
  simp only[yI] at h
  split at h
  ·omega
  ·rename_i hn
   by_cases e:j=k
   ·subst e
    have:¬ 0<d.cst j:=fun h0=>hn ⟨h0,.inl h⟩
    grind
   ·exact Y2 k h j (by omega)
theorem dS {d:zn}:∀ k,0≤yI d k→0<d.cst (yI d k).toNat∧∀ j,j<k→0<d.cst j→d.fre (yI d k).toNat≤d.fre j
 | 0,h=>by simp[yI] at h
 | k+1,h=>by
  have b:=mB d k
  simp only[yI] at h ⊢
  split
  ·rename_i hc
   refine ⟨by simpa using hc.1,fun j hj h0=>?_⟩
   by_cases e:j=k
   ·subst e; simp
   ·by_cases h1:yI d k<0
    ·have:=Y2 k h1 j (by omega); grind
    ·have h2:=hc.2.resolve_left h1
     have:=(dS k (by omega)).2 j (by omega) h0
     simp; omega
  ·rename_i hc
   rw[if_neg hc] at h
   obtain ⟨h1,h2⟩:=dS k h
   refine ⟨h1,fun j hj h0=>?_⟩
   by_cases e:j=k
   ·subst e
    have:¬ d.fre j<d.fre (yI d j).toNat:=fun h=>hc ⟨h0,.inr h⟩
    omega
   ·exact h2 j (by omega) h0
theorem Xd {d:zn} {q:Nat}:∀ k,ya d q k<0→∀ i,i<k→d.a i q≤0
 | 0,_,j,hj=>by omega
 | k+1,h,j,hj=>by
  simp only[ya] at h
  split at h
  ·omega
  ·rename_i hn
   by_cases e:j=k
   ·subst e
    have:¬ 0<d.a j q:=fun h0=>hn ⟨h0,.inl h⟩
    grind
   ·exact Xd k h j (by omega)
theorem Xe {d:zn} {q:Nat}:∀ k,0≤ya d q k→0<d.a (ya d q k).toNat q∧∀ i,i<k→0<d.a i q→rat d q (ya d q k).toNat≤rat d q i∧(rat d q (ya d q k).toNat=rat d q i→d.bas (ya d q k).toNat≤d.bas i)
 | 0,h=>by simp[ya] at h
 | k+1,h=>by
  have b:=mL d q k
  simp only[ya] at h ⊢
  split
  ·rename_i hc
   simp only[Int.toNat_natCast]
   refine ⟨hc.1,fun i hi h0=>?_⟩
   by_cases e:i=k
   ·subst e; exact ⟨by grind,fun _=>Nat.le_refl _⟩
   ·by_cases h1:ya d q k<0
    ·have:=Xd k h1 i (by omega); grind
    ·obtain ⟨g1,g2⟩:=(Xe k (by omega)).2 i (by omega) h0
     rcases hc.2 with h2 | h2 | h2
     ·omega
     ·exact ⟨by grind,fun h=>by grind⟩
     ·refine ⟨by grind,fun h=>Nat.le_trans h2.2 (g2 (by grind))⟩
  ·rename_i hc
   rw[if_neg hc] at h
   obtain ⟨h1,h2⟩:=Xe k h
   refine ⟨h1,fun i hi h0=>?_⟩
   by_cases e:i=k
   ·subst e
    have h3:¬ rat d q i<rat d q (ya d q i).toNat:=fun h=>hc ⟨h0,.inr (.inl h)⟩
    refine ⟨by grind,fun h=>?_⟩
    have h4:¬ d.bas i≤d.bas (ya d q i).toNat:=fun h5=>hc ⟨h0,.inr (.inr ⟨h.symm,h5⟩)⟩
    omega
   ·exact h2 i (by omega) h0
theorem EA {b1 a1 b2 a2:Rat} (h1:0<a1) (h2:0<a2):(b1/a1≤b2/a2↔b1*a2≤b2*a1)∧(b1/a1=b2/a2↔b1*a2=b2*a1):=by
 have e1:b1=b1/a1*a1:=by grind
 have e2:b2=b2/a2*a2:=by grind
 generalize b1/a1=x at *
 generalize b2/a2=y at *
 have hp:0<a1*a2:=Rat.mul_pos h1 h2
 have k1:b2*a1-b1*a2=(y-x)*(a1*a2):=by rw[e1,e2]; grind
 clear e1 e2
 constructor
 ·constructor
  ·intro h
   have:=Rat.mul_nonneg (show 0≤y-x by grind) (show 0≤a1*a2 by grind)
   rw[← k1] at this; grind
  ·intro h
   rcases lt_or_le y x with h3 | h3
   ·have:=Rat.mul_pos (show 0<x-y by grind) hp
    have e:(x-y)*(a1*a2)=-((y-x)*(a1*a2)):=by grind
    rw[e,← k1] at this; grind
   ·exact h3
 ·constructor
  ·intro h
   have:(y-x)*(a1*a2)=0:=by rw[h]; grind
   rw[← k1] at this; grind
  ·intro h
   have h5:(y-x)*(a1*a2)=0:=by rw[← k1]; grind
   rcases Rat.mul_eq_zero.1 h5 with h | h
   ·grind
   ·rw[h] at hp; exact absurd hp (by grind)
def qq' (d:zn):Nat:=(yI d d.c).toNat
def pp' (d:zn):Nat:=(ya d (qq' d) d.r).toNat
def T6 (d:zn):Prop:=0≤yI d d.c∧0≤ya d (qq' d) d.r
theorem d6 {d:zn} (h:T6 d):kP d (pp' d) (qq' d):=by
 have b1:=mB d d.c
 have b2:=mL d (qq' d) d.r
 obtain ⟨h1,h2⟩:=h
 obtain ⟨g1,g2⟩:=dS d.c h1
 obtain ⟨g3,g4⟩:=Xe d.r h2
 refine ⟨by unfold pp'; omega,by unfold qq'; omega,g1,g2,g3,fun i hi h0=>?_⟩
 obtain ⟨g5,g6⟩:=g4 i hi h0
 obtain ⟨c1,c2⟩:=EA (b1:=d.b (pp' d)) (b2:=d.b i) g3 h0
 exact ⟨c1.1 g5,fun h=>g6 (c2.2 h)⟩
def ae1 (d:zn):zn:=pivot d (pp' d) (qq' d)
def yy (d:zn):Nat→zn
 | 0=>d
 | k+1=>ae1 (yy d k)
theorem B5 {d:zn} {N:Nat} (hb:Bij d N) (hf:feas d):∃ K,(∀ k,k<K→T6 (yy d k))∧¬ T6 (yy d K):=by
 apply Classical.byContradiction
 intro hno
 have all:∀ k,∀ j,j<k→T6 (yy d j):=by
  intro k
  induction k with
  | zero=>intro j hj; omega
  | succ k ih =>
   intro j hj
   by_cases e:j=k
   ·subst e
    exact Classical.byContradiction fun h=>hno ⟨j,ih,h⟩
   ·exact ih j (by omega)
 have r:Run (yy d) (fun k=>pp' (yy d k)) (fun k=>qq' (yy d k)) (2^N) N:=⟨hb,hf,fun k hk=>⟨d6 (all _ k hk),rfl⟩⟩
 have:=r.le
 omega
theorem B6 {d:zn} {N K:Nat} (hb:Bij d N) (hf:feas d) (h:∀ k,k<K→T6 (yy d k)):∀ k,k≤K→Same (yy d k) d N∧feas (yy d k)∧(yy d k).r=d.r∧(yy d k).c=d.c:=by
 intro k
 induction k with
 | zero=>intro _; exact ⟨Same.refl hb,hf,rfl,rfl⟩
 | succ k ih =>
  intro hk
  obtain ⟨h1,h2,h3,h4⟩:=ih (by omega)
  have hB:=d6 (h k (by omega))
  have ha:(yy d k).a (pp' (yy d k)) (qq' (yy d k))≠0:=by have:=hB.2.2.2.2.1; grind
  exact ⟨(Same.pivot h1.bd hB.1 hB.2.1 ha).trans h1,hB.feas h2,h3,h4⟩
structure Fin (d e:zn) (N:Nat) (x:AV):Prop where
 same:Same e d N
 feas:feas e
 r:e.r=d.r
 c:e.c=d.c
 out:(x=.tuple [iv 0,bv true]∧∀ j,j<e.c→e.cst j≤0)∨∃ q:Nat,x=.tuple [iv q,bv false]∧q<e.c∧0<e.cst q∧∀ i,i<e.r→e.a i q≤0
noncomputable def stOp (n m:Nat) (d:zn) (ρ:List (Nat × ze)) (out:List (List (Nat × AV))) (k:Nat):St :=
 {env:=[(0,.ptr 1015 0)],sto:=ρ++tL n m (yy d k),out:=out,base:=4500}
theorem YC:yZ Tryz.prog r8=true:=by kernel_rfl
theorem UZ:yZ Tryz.prog pe=true:=by kernel_rfl
theorem cm:yZ Tryz.prog uQ=true:=by kernel_rfl
def ef (e:zn):AV:=if yI e e.c<0 then .tuple [iv 0,bv true] else .tuple [iv (qq' e),bv false]
theorem adl {d e:zn} {N:Nat} (h1:Same e d N) (h2:LP.feas e) (h3:e.r=d.r) (h4:e.c=d.c) (hJe:¬ T6 e):Fin d e N (ef e):=by
 have b1:=mB e e.c
 have b2:=mL e (qq' e) e.r
 refine ⟨h1,h2,h3,h4,?_⟩
 unfold ef
 by_cases g1:yI e e.c<0
 ·rw[if_pos g1]; exact .inl ⟨rfl,Y2 _ g1⟩
 ·rw[if_neg g1]
  have g2:ya e (qq' e) e.r<0:=by
   rcases Int.lt_or_le (ya e (qq' e) e.r) 0 with h | h
   ·exact h
   ·exact absurd ⟨by omega,h⟩ hJe
  exact .inr ⟨qq' e,rfl,by unfold qq'; omega,(dS (d:=e) e.c (by omega)).1,Xd _ g2⟩
theorem RC {N:Nat} {d:zn} (hb:Bij d N) (hf:feas d):∃ e,Fin d e N (ef e)∧∀ {n m L:Nat} {ρ:List (Nat × ze)} {s:St} {K:AV→St→Prop},s.sto=ρ++tL n m d→rest ρ→xd 2000 s.env→yp 2000 s.out→m<1000000→d.c<1000000→d.r=m →
  L≤10000000000→(∀ e,Same e d N→e.r=d.r→e.c=d.c→szD L e)→K (ef e) ⟨s.env,ρ++tL n m e,s.out,s.base⟩ →
  yc Tryz.prog x6 [.ptr 1015 0] s K:=by
 obtain ⟨J,hJ,hJe⟩:=B5 hb hf
 have hrun:=B6 hb hf hJ
 obtain ⟨hf1,hf2,hf3,hf4⟩:=hrun J (by omega)
 refine ⟨yy d J,adl hf1 hf2 hf3 hf4 hJe,?_⟩
 intro n m L ρ s K hs hρ hE hO hm hc hr hL hsz h
 obtain ⟨env,σ,out,base⟩:=s
 simp only at hs hE hO h
 subst hs
 have hO2:yp 2000 (env::out):=lV.2 ⟨hE,hO⟩
 refine vA 4500 SV (by simp) ?_
 simp[eJ]
 refine KM (stOp n m d ρ (env::out)) (fun _=>True) J (by simp[stOp,yy]) trivial (fun k hk _=>?_) (fun _=>?_)
 ·obtain ⟨h1,h2,h3,h4⟩:=hrun k (by omega)
  have hg:=hJ k hk
  have hB:=d6 hg
  have b1:=mB (yy d k) (yy d k).c
  have b2:=mL (yy d k) (qq' (yy d k)) (yy d k).r
  have hz:=hsz _ h1 h3 h4
  have ea:yI (yy d k) (yy d k).c=(qq' (yy d k):Nat):=by unfold qq'; have:=hg.1; omega
  have eb:ya (yy d k) (qq' (yy d k)) (yy d k).r=(pp' (yy d k):Nat):=by unfold pp'; have:=hg.2; omega
  have e3:yy d (k+1)=pivot (yy d k) (pp' (yy d k)) (qq' (yy d k)):=rfl
  have hrm:(yy d k).r=m:=by omega
  rw[hrm] at eb
  generalize hd2:yy d (k+1)=d2 at *
  generalize hd1:yy d k=d1 at *
  generalize qq' d1=q at *
  generalize pp' d1=p at *
  have hst1:stOp n m d ρ (env::out) k={env:=[(0,.ptr 1015 0)],sto:=ρ++tL n m d1,out:=env::out,base:=4500}:=by unfold stOp; rw[hd1]
  rw[hst1]
  have nq:¬ ((q:Int)<0):=by omega
  have np:¬ ((p:Int)<0):=by omega
  simp[qK,YC]
  refine yb (Rj (s:=⟨_,ρ++tL n m d1,env::out,4500⟩) (d:=d1) (ρ:=ρ) (n:=n) (m:=m) rfl hρ (by omega) ?_)
  rw[ea]
  simp[UZ,nq]
  refine yb (PP (s:=⟨_,ρ++tL n m d1,env::out,4500⟩) (d:=d1) (ρ:=ρ) (n:=n) (m:=m) (L:=L) rfl hρ ?_ hO2 hm hB.2.1 (by omega) (fun i hi=>hz.a i q (by omega) hB.2.1) (fun i hi=>hz.b i (by omega)) ?_)
  ·simp[yF,xe,lW,rR,xP]
  rw[eb]
  simp[cm,np]
  refine yb (Nm (s:=⟨_,ρ++tL n m d1,env::out,4500⟩) (d:=d1) (ρ:=ρ) (n:=n) (m:=m) (L:=L) rfl hρ ?_ hO2 hm (by omega) hrm (by have:=hB.1; omega) hB.2.1 hL hz (by have:=hB.2.2.2.2.1; grind) ?_)
  ·simp[yF,xe,lW,rR,xP]
  rw[← e3]
  simp[stOp]
  exact .inl (by rw[hd2])
 ·obtain ⟨h1,h2,h3,h4⟩:=hrun J (by omega)
  have b1:=mB (yy d J) (yy d J).c
  have b2:=mL (yy d J) (qq' (yy d J)) (yy d J).r
  have hz:=hsz _ h1 h3 h4
  have hrm:(yy d J).r=m:=by omega
  generalize hd1:yy d J=d1 at *
  have hst1:stOp n m d ρ (env::out) J={env:=[(0,.ptr 1015 0)],sto:=ρ++tL n m d1,out:=env::out,base:=4500}:=by unfold stOp; rw[hd1]
  rw[hst1]
  simp[qK,YC]
  refine yb (Rj (s:=⟨_,ρ++tL n m d1,env::out,4500⟩) (d:=d1) (ρ:=ρ) (n:=n) (m:=m) rfl hρ (by omega) ?_)
  by_cases g1:yI d1 d1.c<0
  ·have hfr:ef d1=.tuple [iv 0,bv true]:=if_pos g1
   rw[hfr] at h
   simp[g1,mS]
   exact h
  ·have hfr:ef d1=.tuple [iv (qq' d1),bv false]:=if_neg g1
   rw[hfr] at h
   have ea:yI d1 d1.c=(qq' d1:Nat):=by unfold qq'; omega
   have g2:ya d1 (qq' d1) d1.r<0:=by
    rcases Int.lt_or_le (ya d1 (qq' d1) d1.r) 0 with h | h
    ·exact h
    ·exact absurd ⟨by omega,h⟩ hJe
   have hq:qq' d1<d1.c:=by unfold qq'; omega
   rw[hrm] at g2
   rw[ea]
   generalize qq' d1=q at *
   have nq:¬ ((q:Int)<0):=by omega
   simp[UZ,nq]
   refine yb (PP (s:=⟨_,ρ++tL n m d1,env::out,4500⟩) (d:=d1) (ρ:=ρ) (n:=n) (m:=m) (L:=L) rfl hρ ?_ hO2 hm hq (by omega) (fun i hi=>hz.a i q (by omega) hq) (fun i hi=>hz.b i (by omega)) ?_)
   ·simp[yF,xe,lW,rR,xP]
   simp[g2,mS]
   exact h
section
variable {k n:Nat} {c:List AV} {r:List (List AV)}
theorem vq:dgE k (.var c)=.var (c.map (dg k)):=rfl
theorem wO:dgE k (.uarr n r)=.uarr n (zX k r):=rfl
theorem adi {k:Nat} {f:List (Nat × AV)} (h:xd 1000 f) (hk:1000≤k):qx k f=true:=kY hk h
theorem adJ {k:Nat} {f:List (List (Nat × AV))} (h:yp 1000 f) (hk:1000≤k):nU k f=true:=UO hk h
theorem ak {k:Nat} {f:List (Nat × AV)} (h:xd 1000 f) (hk:1000≤k):(f.map fun p=>(p.1,dg k p.2))=f:=Sc hk h
theorem aO {k:Nat} {f:List (List (Nat × AV))} (h:yp 1000 f) (hk:1000≤k):(f.map fun f=>f.map fun p=>(p.1,dg k p.2))=f:=L0 hk h
end
@[simp] theorem aaT {sz by_ d l sz1 off len sz':Nat} {rows1 rows:List (List AV)} {s:St} {K:St→Prop} (h:lk s.sto l=some (.uarr sz rows1)) :
  xc sz by_ s (some d) K [.us l sz1 off len,.lit sz' rows]=(sz'=sz∧0<sz∧(len+rows.length)*by_≤140737488355328∧len+rows.length≤9223372036854775807∧sz1=sz∧off=0∧len=rows1.length ∧
   K ({(s.dg l) with sto:=pt (s.dg l).sto l (.uarr sz (zX l (rows1++rows)))}.put (some d) (.us l sz 0 (len+rows.length)))):=by
 simp[xc,xb,h]
@[simp] theorem aeT {x:AV} {q:Rat}:zH (x::fr q) 1 (some 3)=some (fq q):=by
 simp only[zH,fr,List.length_cons,List.length_nil,List.drop_succ_cons,List.drop_zero,List.take]
 simp
abbrev xH:AV:=.list 0 .full []
noncomputable def oR (a:Nat→Nat→Rat) (md:Nat→Am.Mode) (cl:Nat→Nat) (n:Nat):List (List AV):=mR (fun i=>[.list 3 (md i) (fR (a i) (cl i))]) n
def om (i:Nat):Am.Mode:=.own (1000000+i)
noncomputable def pR (A:Nat→Nat→Rat) (bb:Nat→Rat) (n m:Nat):List (List AV):=mR (fun i=>[fL (A i) n,f0 (bb i),f1 (bb i),f2 (bb i)]) m
noncomputable abbrev pA (A:Nat→Nat→Rat) (bb gg:Nat→Rat) (n m:Nat):AV:=.agg [fL gg n,.list 4 .plain (pR A bb n m)]
section
variable {a:Nat→Nat→Rat} {bb:Nat→Rat} {md:Nat→Am.Mode} {cl:Nat→Nat} {n m i k:Nat} {e:ze}
@[simp] theorem ahV:(oR a md cl n).length=n:=nT
@[simp] theorem ahZ:(pR a bb n m).length=m:=nT
@[simp] theorem ag4 {hi:i<(oR a md cl n).length}:(oR a md cl n)[i]=[.list 3 (md i) (fR (a i) (cl i))]:=jl
@[simp] theorem ag6 {hi:i<(pR a bb n m).length}:(pR a bb n m)[i]=[fL (a i) n,f0 (bb i),f1 (bb i),f2 (bb i)]:=jl
@[simp] theorem ahW:xn k (oR a md cl n)=false:=UQ fun _=>by simp
@[simp] theorem aiL:xk (pR a bb n m)=true:=aI fun _=>by simp
@[simp] theorem aiN:zP (pR a bb n m)=pR a bb n m:=tw fun _=>by simp
end
theorem aJ {g h:Nat→List AV} {n:Nat} {f:List AV→List AV} (e:∀ i,i<n→f (g i)=h i):(mR g n).map f=mR h n:=by
 unfold mR
 rw[List.map_map]
 exact List.map_congr_left fun i hi=>e i (by simpa using hi)
@[simp] theorem Jv {f:Nat→Nat} {n a b:Nat}:((nR f n).map fun r=>r.map (rn a b))=nR f n:=tw fun _=>rfl
@[simp] theorem aiM {a:Nat→Nat→Rat} {bb:Nat→Rat} {n m k l:Nat}:((pR a bb n m).map fun r=>r.map (rn k l))=pR a bb n m:=tw fun _=>by
 simp[rn,rn1]
theorem ae3 {A:Nat→Nat→Rat} {cl:Nat→Nat} {n k l:Nat} (hk:k<1000000) (hl:n≤l):((oR A om cl n).map fun r=>r.map (rn k (1000000+l)))=oR A om cl n:=aJ fun i hi=>by
 have:sw k (1000000+l) (1000000+i)=1000000+i:=by unfold sw; rw[if_neg (by omega),if_neg (by omega)]
 simp[rn,rn1,om,this]
theorem ae2 {A:Nat→Nat→Rat} {cl:Nat→Nat} {n k:Nat} (hk:k<1000000):zX k (oR A om cl n)=oR A om cl n:=aJ fun i hi=>by
 have:¬ 1000000+i=k:=by omega
 simp[om,dg,this]
theorem U6 {k:Nat} {a b:List (List AV)}:zX k (a++b)=zX k a++zX k b:=List.map_append
theorem Mh {k:Nat} {a b:List (List AV)}:xn k (a++b)=(xn k a||xn k b):=by
 induction a with
 | nil=>rfl
 | cons r a ih=>simp only[List.cons_append,xn,ih,Bool.or_assoc]
section
variable {a b:Nat}
theorem Sv {c:List AV}:rnE a b (.var c)=.var (c.map (rn a b)):=rfl
theorem XA {n:Nat} {r:List (List AV)}:rnE a b (.uarr n r)=.uarr n (r.map fun r=>r.map (rn a b)):=rfl
theorem EO {k o:Nat}:rn a b (.ptr k o)=.ptr (sw a b k) o:=rfl
theorem JS {k s o l:Nat}:rn a b (.us k s o l)=.us (sw a b k) s o l:=rfl
theorem Nx {v:Value}:rn a b (.val v)=.val v:=rfl
theorem XB {s:Nat} {r:List (List AV)}:rn a b (.list s .plain r)=.list s .plain r:=rfl
theorem abU {s:Nat} {r:List (List AV)}:rn a b (.list s .full r)=.list s .full r:=rfl
theorem EN {s l:Nat} {r:List (List AV)}:rn a b (.list s (.own l) r)=.list s (.own (sw a b l)) r:=rfl
end
theorem B2 {ρ:List (Nat × ze)} {k l:Nat} (h:rest ρ) (hk:far k=true) (hl:far l=true):(ρ.map fun p=>(sw k l p.1,rnE k l p.2))=ρ:=yJ fun p hp=>by
 have hk:(1000≤k∧k<3000)∨4000≤k:=of_decide_eq_true hk
 have hl:(1000≤l∧l<3000)∨4000≤l:=of_decide_eq_true hl
 obtain ⟨h1,h2⟩:=h p hp
 have:sw k l p.1=p.1:=by unfold sw; rw[if_neg (by omega),if_neg (by omega)]
 rw[this,abb (by omega) (by omega) h2]
noncomputable def vC (k:Nat):AV:=if k=0 then xH else .list 3 (.own 2039) (fR (fun _=>0) k)
theorem ZI {l k:Nat} (h:¬ l=2039):dg l (vC k)=vC k:=by
 unfold vC
 split
 ·simp
 ·simp only[dg]; rw[if_neg (fun e=>h e.symm)]
theorem aaJ {l j k:Nat} (h:¬ l=2039) (hj:¬ j=2039):rn l j (vC k)=vC k:=by
 unfold vC
 split
 ·rfl
 ·simp only[rn,rn1,sw]; rw[if_neg (fun e=>h e.symm),if_neg (fun e=>hj e.symm)]
@[simp] theorem afC {l k:Nat}:zT l (vC k)=false:=by unfold vC; split<;>rfl
theorem FZ {f:Nat→Nat} {k:Nat}:nR f k++[[iv (f k)]]=nR f (k+1):=Se.symm
theorem adI {a:Nat→Nat→Rat} {md:Nat→Am.Mode} {cl:Nat→Nat} {k:Nat}:oR a md cl k++[[.list 3 (md k) (fR (a k) (cl k))]]=oR a md cl (k+1):=Se.symm
noncomputable def SH (A:Nat→Nat→Rat) (bb gg:Nat→Rat) (n m:Nat) (ρ:List (Nat × ze)) (out:List (List (Nat × AV))) (k:Nat):St :=
 {env:=[(1,.ptr 1001 0),(3,.ptr 1015 0),(18,iv n),(19,iv k)],
  sto:=ρ++[(1001,.var [fL gg n,.list 4 .plain (pR A bb n m)]),(1015,.var [iv n,iv m,xH,xH,vC k,f0 0,f1 0,f2 0,xH,.us 2029 1 0 k]),(2029,.uarr 1 (nR id k))],out:=out,base:=1000}
noncomputable def Gd (A:Nat→Nat→Rat) (bb _gg:Nat→Rat) (n m:Nat) (ρ:List (Nat × ze)) (out:List (List (Nat × AV))) (k:Nat):St :=
 {env:=[(3,.ptr 1015 0),(44,.list 4 .plain (pR A bb n m)),(45,iv m),(46,iv k)],
  sto:=ρ++[(1015,.var [iv n,iv m,.us 1961 1 0 k,.us 1972 3 0 k,vC n,f0 0,f1 0,f2 0,.us 1987 1 0 k,.us 2029 1 0 n]),(2029,.uarr 1 (nR id n)),
   (1961,.uarr 1 (oR A om (fun _=>n) k)),(1972,.uarr 3 (fR bb k)),(1987,.uarr 1 (nR (fun i=>n+i) k))],out:=out,base:=1000}
theorem MB {n m:Nat} {A:Nat→Nat→Rat} {bb gg:Nat→Rat} {ρ:List (Nat × ze)} {s:St} {K:AV→St→Prop} (hs:s.sto=ρ) (hρ:rest ρ) (hE:xd 1000 s.env) (hO:yp 1000 s.out) (hm:m<1000000) (hn:n<1000000)
  (h:K (.ptr 1015 0) ⟨s.env,ρ++[(1015,.var [iv n,iv m,.us 1961 1 0 m,.us 1972 3 0 m,vC n,f0 0,f1 0,f2 0,.us 1987 1 0 m,.us 2029 1 0 n]),(2029,.uarr 1 (nR id n)),
   (1961,.uarr 1 (oR A om (fun _=>n) m)),(1972,.uarr 3 (fR bb m)),(1987,.uarr 1 (nR (fun i=>n+i) m))],s.out,s.base⟩) :
  yc Tryz.prog tg [pA A bb gg n m] s K:=by
 obtain ⟨env,σ,out,base⟩:=s
 simp only at hs hE hO h
 subst hs
 have g0:zd Tryz.prog zN [iv 0] (fq 0):=yE (n:=0) (by decide) (by decide)
 have hpt:∀ k e,far k=true→pt σ k e=σ++[(k,e)]:=fun k e hk=>by
  have:=rpt (l:=[]) (e:=e) hρ hk
  simpa using this
 have hlk:∀ k,far k=true→lk σ k=none:=fun k hk=>Ss hρ hk
 refine vA 1000 S0 (by simp) ?_
 simp[eS,hpt,hlk,rlk hρ,far]
 refine za g0 (by simp) (by simp) ?_
 simp[rlk hρ,rpt hρ,far]
 have hE2:xd 2000 env:=Ru (by omega) hE
 have hO2:yp 2000 out:=FP (by omega) hO
 have hne:∀ k,k≠0→vC k=.list 3 (.own 2039) (fR (fun _=>0) k):=fun k hk=>by unfold vC; rw[if_neg hk]
 have hz:vC 0=xH:=rfl
 refine mr (SH A bb gg n m σ (env::out)) (fun _=>True) n ?_ trivial (fun k hk _=>?_) (fun _=>?_)
 ·refine St.imp.trans (St.imp_tok 2029 1 (by simp[rlk hρ,far])) ?_
  simp[St.dg,nZ hρ,ak hE,aO hO,rpt hρ,far,-dgE,vq]
  refine St.imp.trans (St.imp_cell_nil (k:=1015) (j:=9) (l:=2029) (sz:=1) (by simp[rlk hρ,far]; rfl) (by simp; rfl) (by simp[rlk hρ,far])) ?_
  simp[rpt hρ,far,SH,hz]
  exact St.imp.refl
 ·have e:(k:Int)<n:=by omega
  have w:=zm (k:=k) (by omega)
  have hap:nR id k++[[iv k]]=nR id (k+1):=FZ (f:=id)
  have hfp:fR (fun _=>0) k++[fr 0]=fR (fun _=>0) (k+1):=eU.symm
  have hne1:=hne (k+1) (by omega)
  have hcd:∀ l,¬ l=2039→dg l (vC k)=vC k:=fun l h=>ZI h
  simp[qM,SH,e,rlk hρ,rpt hρ,far,nZ hρ,ak hE,aO hO,-dgE,vq,wO,hap,hcd]
  refine ⟨by omega,by omega,?_⟩
  refine za g0 (by simp) (by simp) ?_
  by_cases k0:k=0
  ·subst k0
   have w1:IntKind.i64.wrap 1=1:=by decide
   have h1:fR (fun _=>(0:Rat)) 1=[fr 0]:=rfl
   simp[hz,rlk hρ,rpt hρ,far,nZ hρ,ak hE,aO hO,-dgE,vq,wO,w1,SH,hne 1 (by omega),h1]
   refine St.imp.trans (St.imp_rn 1039 2039) ?_
   have hr0:=B2 (k:=1039) (l:=2039) hρ rfl rfl
   have he:=ZR (k:=1039) (by omega) (j:=2039) (by omega) hE
   have ho:=Sd (k:=1039) (by omega) (j:=2039) (by omega) hO
   simp only[St.rn,List.map_append,hr0]
   simp only[List.map_cons,List.map_nil,Sv,XA,EO,JS,Nx,XB,EN,abU,Jv,K9,Ja,Jb,sw,Nat.reduceEqDiff,if_true,if_false,he,ho]
   exact St.imp.refl
  ·simp[hne k k0,rlk hρ,rpt hρ,far,nZ hρ,ak hE,aO hO,-dgE,vq,wO,hfp,w,SH,hne1]
   exact ⟨by omega,by omega,St.imp.refl⟩
 ·have hcd:∀ l,¬ l=2039→dg l (vC n)=vC n:=fun l h=>ZI h
  simp[qM,SH,kO,rlk hρ,wz hρ,far,-dgE,y4 hρ,adi hE,adJ hO]
  refine mr (Gd A bb gg n m σ (env::out)) (fun _=>True) m ?_ trivial (fun k hk _=>?_) (fun _=>?_)
  ·refine St.imp.trans (St.imp_tok 1961 1 (by simp[rlk hρ,far])) ?_
   simp[St.dg,rpt hρ,far,nZ hρ,ak hE,aO hO,-dgE,vq,wO,hcd]
   refine St.imp.trans (St.imp_cell_nil (k:=1015) (j:=2) (l:=1961) (sz:=1) (by simp[rlk hρ,far]; rfl) (by simp; rfl) (by simp[rlk hρ,far])) ?_
   simp[rpt hρ,far]
   refine St.imp.trans (St.imp_tok 1972 3 (by simp[rlk hρ,far])) ?_
   simp[St.dg,rpt hρ,far,nZ hρ,ak hE,aO hO,-dgE,vq,wO,hcd]
   refine St.imp.trans (St.imp_cell_nil (k:=1015) (j:=3) (l:=1972) (sz:=3) (by simp[rlk hρ,far]; rfl) (by simp; rfl) (by simp[rlk hρ,far])) ?_
   simp[rpt hρ,far]
   refine St.imp.trans (St.imp_tok 1987 1 (by simp[rlk hρ,far])) ?_
   simp[St.dg,rpt hρ,far,nZ hρ,ak hE,aO hO,-dgE,vq,wO,hcd]
   refine St.imp.trans (St.imp_cell_nil (k:=1015) (j:=8) (l:=1987) (sz:=1) (by simp[rlk hρ,far]; rfl) (by simp; rfl) (by simp[rlk hρ,far])) ?_
   simp[rpt hρ,far,Gd]
   exact St.imp.refl
  ·have e:(k:Int)<m:=by omega
   have w:=zm (k:=k) (by omega)
   have hau:wg 1 [[xH]] [0] [.list 3 (.own 1059) (fR (A k) n)]=some [[.list 3 (.own 1059) (fR (A k) n)]]:=rfl
   have hd1:∀ l,¬ l=1059→zX l [[.list 3 (.own 1059) (fR (A k) n)]]=[[.list 3 (.own 1059) (fR (A k) n)]]:=fun l h=>by
    have:¬ 1059=l:=fun e=>h e.symm
    simp[zX,dg,this]
   have hfb:fR bb k++[fr (bb k)]=fR bb (k+1):=eU.symm
   have hnb:nR (fun i=>n+i) k++[[iv (n+k:Nat)]]=nR (fun i=>n+i) (k+1):=FZ (f:=fun i=>n+i)
   have hnb':nR (fun i=>n+i) k++[[iv ((n:Int)+k)]]=nR (fun i=>n+i) (k+1):=by rw[← hnb,Int.natCast_add]
   have wn:IntKind.i64.wrap (n+k)=(n:Int)+(k:Int):=by rw[wrap64]<;>omega
   simp[qN,Gd,e,hk,rlk hρ,rpt hρ,wz hρ,far,nZ hρ,ak hE,aO hO,-dgE,vq,wO,hcd,y4 hρ,adi hE,adJ hO,hau,ae2,U6,hd1,hfb,wn,w,Mh]
   refine ⟨by omega,by omega,by omega,by omega,by omega,by omega,by omega,by omega,?_⟩
   refine St.imp.trans (St.imp_rn 1059 (1000000+k)) ?_
   have ho:om k=.own (1000000+k):=rfl
   have hap:=adI (a:=A) (md:=om) (cl:=fun _=>n) (k:=k)
   rw[ho] at hap
   have s1:∀ l,l<1000000→¬ l=1059→sw 1059 (1000000+k) l=l:=fun l h1 h2=>by unfold sw; rw[if_neg h2,if_neg (by omega)]
   have s2:sw 1059 (1000000+k) 1059=1000000+k:=by unfold sw; rw[if_pos rfl]
   have hf:far (1000000+k)=true:=decide_eq_true (by omega)
   have hc:=aaJ (l:=1059) (j:=1000000+k) (k:=n) (by omega) (by omega)
   have hr:=ae3 (A:=A) (cl:=fun _=>n) (n:=k) (k:=1059) (l:=k) (by omega) (Nat.le_refl _)
   have he:=ZR (k:=1059) (by omega) (j:=1000000+k) (by omega) hE
   have ho':=Sd (k:=1059) (by omega) (j:=1000000+k) (by omega) hO
   have hq:zX 1987 [[iv ((n:Int)+k)]]=[[iv ((n+k:Nat):Int)]]:=by rw[Int.natCast_add]; rfl
   have hr0:=B2 (k:=1059) (l:=1000000+k) hρ rfl hf
   simp only[St.rn,List.map_append,List.map_cons,List.map_nil,hr0,s1,s2,Sv,XA,EO,JS,Nx,XB,EN,hr,hc,he,ho',Jv,A3,K9,Ja,Jb,hap,hq,Nat.reduceLT,Nat.reduceEqDiff,not_false_eq_true,Int.natCast_add]
   rw[hnb']
   exact St.imp.refl
  ·simp[qN,Gd,kN,dd,-dgE]
   exact h
noncomputable def NV (n:Nat) (out:List (List (Nat × AV))) (k:Nat):St:={env:=[(3,.sl 1006 3 0 n),(8,iv n),(9,iv k)],sto:=[(1006,.arr 3 (fZ (fun _=>0) k n))],out:=out,base:=1000}
theorem Mg {n:Nat} {s:St} {K:AV→St→Prop} (hs:s.sto=[]) (hn:n<1000000) (h:K (.sl 1006 3 0 n) ⟨s.env,[(1006,.arr 3 (fR (fun _=>0) n))],s.out,s.base⟩) :
  yc Tryz.prog rp [iv n] s K:=by
 obtain ⟨env,σ,out,base⟩:=s
 simp only at hs h
 subst hs
 refine vA 1000 RY (by simp) ?_
 simp[af,eMk]
 refine ⟨by omega,by omega,?_⟩
 rw[ns (f:=fun _=>0)]
 have k0:zd Tryz.prog zN [iv 0] (fq 0):=yE (n:=0) (by decide) (by decide)
 refine zl (NV n (env::out)) (fun _=>True) n (by simp[NV]) trivial (fun k hk _=>?_) (fun _=>?_)
 ·have e:(k:Int)<n:=by omega
  have w:=zm (k:=k) (by omega)
  have hs:=lO (f:=fun _=>0) hk
  simp[rI,NV,e]
  refine za k0 (by simp) (by simp) ?_
  simp[splice,hk,w,hs,NV]
 ·simp[rI,jV,a7,NV,nr]
  exact h
theorem cn:yZ Tryz.prog rp=true:=by kernel_rfl
noncomputable def tR (n m:Nat) (d:zn):AV:=.ro [iv n,iv m,.list 1 .plain (cR d.a (fun _=>d.c) m),fL d.b m,fL d.cst d.c,f0 d.v,f1 d.v,f2 d.v,.list 1 .plain (nR d.bas m),.list 1 .plain (nR d.fre d.c)]
def xJ (n m:Nat) (d:zn):Nat→Nat→Rat
 | 0=>fun _=>0
 | k+1=>if n≤d.fre k∧d.fre k<n+m then upd (xJ n m d k) (d.fre k-n) (-d.cst k) else xJ n m d k
noncomputable def XM (n m:Nat) (d:zn) (k:Nat):St :=
 {env:=[(0,tR n m d),(3,.sl 1006 3 0 m),(14,.list 1 .plain (nR d.fre d.c)),(15,iv d.c),(16,iv k)],sto:=[(1006,.arr 3 (fR (xJ n m d k) m))]}
theorem Nn {n m L:Nat} {d:zn} (hm:m<1000000) (hn:n<1000000) (hc:d.c<1000000) (hfre:∀ j,j<d.c→d.fre j<4000000) (hL:L≤100000000000) (hsz:∀ j,j<d.c→sz L (d.cst j)) :
  zd Tryz.prog td [tR n m d] (fL (xJ n m d d.c) m):=by
 refine zC Zo (by simp[tR]) ?_
 simp[jB,tR,cn]
 refine yb (Mg rfl hm ?_)
 simp
 refine zl (XM n m d) (fun _=>True) d.c (by simp[XM,tR,xJ]) trivial (fun k hk _=>?_) (fun _=>?_)
 ·have e:(k:Int)<d.c:=by omega
  have w:=zm (k:=k) (by omega)
  have g:=UT (K:=L) (by omega) (hsz k hk)
  have hf:=hfre k hk
  obtain ⟨f,hfe⟩:∃ f,d.fre k=f:=⟨_,rfl⟩
  rw[hfe] at hf
  have w1:IntKind.i64.wrap ((n:Int)+m)=(n:Int)+m:=by rw[wrap64]<;>omega
  by_cases h1:n≤f
  ·by_cases h2:f<n+m
   ·have ev:xJ n m d (k+1)=upd (xJ n m d k) (f-n) (-d.cst k):=by simp only[xJ]; rw[hfe,if_pos ⟨h1,h2⟩]
    have h1':(n:Int)≤f:=by omega
    have h2':(f:Int)<n+m:=by omega
    have w2:IntKind.i64.wrap ((f:Int)-n)=((f-n:Nat):Int):=by rw[wrap64]<;>omega
    have h3:f-n<m:=by omega
    have h4:((f-n:Nat):Int)<m:=by omega
    generalize f-n=g0 at *
    simp[xi,XM,tR,e,hk,hfe,w1,h1',h2',w2]
    refine za g (by simp) (by simp) ?_
    simp[splice,h3,h4,w,XM,tR,ev,uF]
   ·have ev:xJ n m d (k+1)=xJ n m d k:=by simp only[xJ]; rw[hfe,if_neg fun h=>h2 h.2]
    have h1':(n:Int)≤f:=by omega
    have h2':¬ (f:Int)<n+m:=by omega
    simp[xi,XM,tR,e,hk,hfe,w1,h1',h2',w,ev]
  ·have ev:xJ n m d (k+1)=xJ n m d k:=by simp only[xJ]; rw[hfe,if_neg fun h=>h1 h.1]
   have h1':¬ (n:Int)≤f:=by omega
   simp[xi,XM,tR,e,hk,hfe,h1',w,ev]
 ·simp[xi,nG,gh,XM]
def pS (n:Nat) (d:zn):Nat→Nat→Rat
 | 0=>fun _=>0
 | k+1=>if d.bas k<n then upd (pS n d k) (d.bas k) (d.b k) else pS n d k
noncomputable def NP (n m:Nat) (d:zn) (k:Nat):St :=
 {env:=[(0,tR n m d),(3,.sl 1006 3 0 n),(14,.list 1 .plain (nR d.bas m)),(15,iv m),(16,iv k)],sto:=[(1006,.arr 3 (fR (pS n d k) n))]}
theorem MJ {n m:Nat} {d:zn} (hm:m<1000000) (hn:n<1000000) :
  zd Tryz.prog qQ [tR n m d] (fL (pS n d m) n):=by
 refine zC M2 (by simp[tR]) ?_
 simp[Yo,tR,cn]
 refine yb (Mg rfl hn ?_)
 simp
 refine zl (NP n m d) (fun _=>True) m (by simp[NP,tR,pS]) trivial (fun k hk _=>?_) (fun _=>?_)
 ·have e:(k:Int)<m:=by omega
  have w:=zm (k:=k) (by omega)
  obtain ⟨f,hfe⟩:∃ f,d.bas k=f:=⟨_,rfl⟩
  by_cases h1:f<n
  ·have ev:pS n d (k+1)=upd (pS n d k) f (d.b k):=by simp only[pS]; rw[hfe,if_pos h1]
   have h1':(f:Int)<n:=by omega
   simp[qi,NP,tR,e,hk,hfe,h1,h1',w,ev,splice,uF]
  ·have ev:pS n d (k+1)=pS n d k:=by simp only[pS]; rw[hfe,if_neg h1]
   have h1':¬ (f:Int)<n:=by omega
   simp[qi,NP,tR,e,hk,hfe,h1',w,ev]
 ·simp[qi,eM,YG,NP]
def tD (n:Nat) (d:zn) (q:Nat):Nat→Nat→Rat
 | 0=>if d.fre q<n then upd (fun _=>0) (d.fre q) 1 else fun _=>0
 | k+1=>if d.bas k<n then upd (tD n d q k) (d.bas k) (-d.a k q) else tD n d q k
noncomputable def cJ (n m q:Nat) (d:zn) (k:Nat):St :=
 {env:=[(0,tR n m d),(1,iv q),(5,.sl 1006 3 0 n),(38,.list 1 .plain (nR d.bas m)),(39,iv m),(40,iv k)],sto:=[(1006,.arr 3 (fR (tD n d q k) n))]}
theorem EC {n m q L:Nat} {d:zn} (hm:m<1000000) (hn:n<1000000) (hq:q<d.c) (hL:L≤100000000000) (hsz:∀ i,i<m→sz L (d.a i q)) :
  zd Tryz.prog bE [tR n m d,iv q] (fL (tD n d q m) n):=by
 have h1g:zd Tryz.prog zN [iv 1] (fq 1):=yE (n:=1) (by decide) (by decide)
 have eq0:(q:Int)<d.c:=by omega
 obtain ⟨f,hfe⟩:∃ f,d.fre q=f:=⟨_,rfl⟩
 have loop:awp Tryz.prog (.loop rz) (cJ n m q d 0) (wZ 0 (rX Tryz.prog jC (Su aU (fL (tD n d q m) n)))):=by
  refine zl (cJ n m q d) (fun _=>True) m (by simp[cJ]) trivial (fun k hk _=>?_) (fun _=>?_)
  ·have e:(k:Int)<m:=by omega
   have w:=zm (k:=k) (by omega)
   have g:=UT (K:=L) (by omega) (hsz k hk)
   obtain ⟨f,hfe⟩:∃ f,d.bas k=f:=⟨_,rfl⟩
   by_cases h1:f<n
   ·have ev:tD n d q (k+1)=upd (tD n d q k) f (-d.a k q):=by simp only[tD]; rw[hfe,if_pos h1]
    have h1':(f:Int)<n:=by omega
    simp[rz,cJ,tR,e,hk,hq,eq0,hfe,h1']
    refine za g (by simp) (by simp) ?_
    simp[cJ,tR,h1,h1',w,ev,splice,uF]
   ·have ev:tD n d q (k+1)=tD n d q k:=by simp only[tD]; rw[hfe,if_neg h1]
    have h1':¬ (f:Int)<n:=by omega
    simp[rz,cJ,tR,e,hk,hfe,h1',w,ev]
  ·simp[rz,jC,aU,cJ]
 refine zC Dx (by simp[tR]) ?_
 simp[S3,tR,cn]
 refine yb (Mg rfl hn ?_)
 by_cases h1:f<n
 ·have h1':(f:Int)<n:=by omega
  have ev:tD n d q 0=upd (fun _=>0) f 1:=by simp only[tD]; rw[hfe,if_pos h1]
  simp[hq,eq0,hfe,h1']
  refine za h1g (by simp) (by simp) ?_
  simp[h1,h1',splice,uF]
  simpa [cJ,tR,ev] using loop
 ·have h1':¬ (f:Int)<n:=by omega
  have ev:tD n d q 0=fun _=>0:=by simp only[tD]; rw[hfe,if_neg h1]
  simp[hq,eq0,hfe,h1']
  simpa [cJ,tR,ev] using loop
noncomputable def NW (n:Nat) (σ:List (Nat × ze)) (out:List (List (Nat × AV))) (k:Nat):St:={env:=[(3,.sl 5006 3 0 n),(8,iv n),(9,iv k)],sto:=σ++[(5006,.arr 3 (fZ (fun _=>0) k n))],out:=out,base:=5000}
theorem aem {n n' m:Nat} {d:zn} {ρ:List (Nat × ze)} {s:St} {K:AV→St→Prop} (hs:s.sto=ρ++tL n' m d) (hρ:rest ρ) (hn:n<1000000)
  (h:K (.sl 5006 3 0 n) ⟨s.env,ρ++(tL n' m d++[(5006,.arr 3 (fR (fun _=>0) n))]),s.out,s.base⟩) :
  yc Tryz.prog rp [iv n] s K:=by
 obtain ⟨env,σ,out,base⟩:=s
 simp only at hs h
 subst hs
 refine vA 5000 RY (by simp) ?_
 simp[af,eMk,tL,rlk hρ,rpt hρ,far]
 refine ⟨by omega,by omega,?_⟩
 rw[ns (f:=fun _=>0)]
 have k0:zd Tryz.prog zN [iv 0] (fq 0):=yE (n:=0) (by decide) (by decide)
 refine zl (NW n (ρ++tL n' m d) (env::out)) (fun _=>True) n (by simp[NW,tL]) trivial (fun k hk _=>?_) (fun _=>?_)
 ·have e:(k:Int)<n:=by omega
  have w:=zm (k:=k) (by omega)
  have hs:=lO (f:=fun _=>0) hk
  simp[rI,NW,tL,e]
  refine za k0 (by simp) (by simp) ?_
  simp[splice,hk,w,hs,NW,rlk hρ,rpt hρ,far]
 ·simp[rI,jV,a7,NW,tL,nr]
  exact h
noncomputable def et (ls:List (Nat × AV)) (σ:List (Nat × ze)) (f:Nat→Rat) (len:Nat) (out:List (List (Nat × AV))) (last:Bool):St :=
 if last then ⟨ls++[(3,fL f len)],σ,out,4500⟩ else ⟨ls++[(3,.sl 5006 3 0 len)],σ++[(5006,.arr 3 (fR f len))],out,4500⟩
theorem cG {ls:List (Nat × AV)} {σ:List (Nat × ze)} {f:Nat→Rat} {len:Nat} {out:List (List (Nat × AV))}:et ls σ f len out false=⟨ls++[(3,.sl 5006 3 0 len)],σ++[(5006,.arr 3 (fR f len))],out,4500⟩:=rfl
theorem P8 {M k len:Nat} {ls:List (Nat × AV)} {f:Nat→Rat} (hl:xd M ls) (hk:M≤k):qx k (ls++[(3,fL f len)])=true :=
 kY (M:=M) hk fun p hp=>by
  rcases List.mem_append.1 hp with h | h
  ·exact hl p h
  ·simp only[List.mem_singleton] at h; subst h; rfl
theorem NJ {ls:List (Nat × AV)} {n m:Nat} {d:zn} {ρ:List (Nat × ze)} {f:Nat→Rat} {len:Nat} {out:List (List (Nat × AV))} {last:Bool} (hρ:rest ρ) (hl:xd 3000 ls) (hO:yp 2000 out) :
  St.imp (et ls (ρ++tL n m d) f len out false) (et ls (ρ++tL n m d) f len out last):=by
 cases last with
 | false=>exact St.imp.refl
 | true =>
  refine St.imp_freeze (k:=5006) ?_
  have hn1:qx 5006 (ls++[(3,fL f len)])=true:=P8 hl (by omega)
  have e1:=Xg (k:=5006) (e:=.arr 3 (fR f len)) (by omega) hl
  simp[y8,et,tL,rlk hρ,wz hρ,y4 hρ,ono hO,BZ hρ,Bn hO,far,t7,nu,tI,lS,e1,hn1]
abbrev lsA (d:zn) (k:Nat):List (Nat × AV):=[(0,.ptr 1015 0),(14,.us 2029 1 0 d.c),(15,iv d.c),(16,iv k)]
theorem L2 {d:zn} {k:Nat}:xd 3000 (lsA d k):=by simp[yF,xe,lW,xP]; rfl
theorem abG {n m L:Nat} {d:zn} {ρ:List (Nat × ze)} {s:St} {K:AV→St→Prop} (hs:s.sto=ρ++tL n m d) (hρ:rest ρ) (hE:xd 2000 s.env) (hO:yp 2000 s.out) (hm:m<1000000) (hn:n<1000000) (hc:d.c<1000000) (hfre:∀ j,j<d.c→d.fre j<4000000) (hL:L≤100000000000) (hsz:∀ j,j<d.c→sz L (d.cst j))
  (h:K (fL (xJ n m d d.c) m) ⟨s.env,ρ++tL n m d,s.out,s.base⟩):yc Tryz.prog td [.ptr 1015 0] s K:=by
 obtain ⟨env,σ,out,base⟩:=s
 simp only at hs hE hO h
 subst hs
 have hO2:yp 2000 (env::out):=lV.2 ⟨hE,hO⟩
 refine vA 4500 Zo (by simp) ?_
 simp[jB,cn,tL,rlk hρ,far]
 refine yb (aem (d:=d) (n':=n) (m:=m) rfl hρ hm ?_)
 simp[tL,rlk hρ,far]
 refine mr (fun k=>et (lsA d k) (ρ++tL n m d) (xJ n m d k) m (env::out) (k == d.c)) (fun _=>True) d.c (St.imp.trans (St.imp_of (by simp[et,tL,xJ])) (NJ hρ L2 hO2)) trivial (fun k hk _=>?_) (fun _=>?_)
 ·have e:(k:Int)<d.c:=by omega
  have hlast:(k == d.c)=false:=by simp; omega
  rw[hlast]
  have fin:=NJ (last:=k+1 == d.c) (n:=n) (m:=m) (d:=d) (f:=xJ n m d (k+1)) (len:=m) hρ (L2 (d:=d) (k:=k+1)) hO2
  have w:=zm (k:=k) (by omega)
  have g:=UT (K:=L) (by omega) (hsz k hk)
  have hf:=hfre k hk
  obtain ⟨f,hfe⟩:∃ f,d.fre k=f:=⟨_,rfl⟩
  rw[hfe] at hf
  have w1:IntKind.i64.wrap ((n:Int)+m)=(n:Int)+m:=by rw[wrap64]<;>omega
  by_cases h1:n≤f
  ·by_cases h2:f<n+m
   ·have ev:xJ n m d (k+1)=upd (xJ n m d k) (f-n) (-d.cst k):=by simp only[xJ]; rw[hfe,if_pos ⟨h1,h2⟩]
    have h1':(n:Int)≤f:=by omega
    have h2':(f:Int)<n+m:=by omega
    have w2:IntKind.i64.wrap ((f:Int)-n)=((f-n:Nat):Int):=by rw[wrap64]<;>omega
    have h3:f-n<m:=by omega
    have h4:((f-n:Nat):Int)<m:=by omega
    rw[ev] at fin
    generalize f-n=g0 at *
    simp[xi,cG,tL,rlk hρ,far,e,hk,hfe,w1,h1',h2',w2]
    refine za g (by simp) (by simp) ?_
    simp[splice,h3,h4,w,uF,rlk hρ,rpt hρ,far]
    rw[ev]
    refine St.imp.trans (St.imp_of ?_) fin
    simp[et,tL]
   ·have ev:xJ n m d (k+1)=xJ n m d k:=by simp only[xJ]; rw[hfe,if_neg fun h=>h2 h.2]
    have h1':(n:Int)≤f:=by omega
    have h2':¬ (f:Int)<n+m:=by omega
    simp[xi,cG,tL,rlk hρ,far,e,hk,hfe,w1,h1',h2',w]
    refine St.imp.trans (St.imp_of ?_) fin
    simp[et,tL,ev]
  ·have ev:xJ n m d (k+1)=xJ n m d k:=by simp only[xJ]; rw[hfe,if_neg fun h=>h1 h.1]
   have h1':¬ (n:Int)≤f:=by omega
   simp[xi,cG,tL,rlk hρ,far,e,hk,hfe,h1',w]
   refine St.imp.trans (St.imp_of ?_) fin
   simp[et,tL,ev]
 ·simp[xi,nG,gh,et]
  exact h
end Go.Proofs.YtfmcplfbnkoglaaGreat

namespace Go.LP
def sk (j k:Nat):Nat:=if k<j then k else k+1
theorem aak {j k:Nat}:sk j k≠j:=by unfold sk; split<;>omega
theorem Qy {j k n:Nat} (hj:j<n) (h:k<n-1):sk j k<n:=by unfold sk; split<;>omega
theorem Zn {j:Nat} {f:Nat→Rat}:∀ {n:Nat},j<n+1→zg (n+1) f=zg n (fun k=>f (sk j k))+f j
 | 0,h=>by
  obtain rfl:j=0:=by omega
  simp[zg]
 | n+1,h=>by
  by_cases e:j=n+1
  ·subst e
   simp only[zg]
   rw[zu (n:=n) (f:=fun k=>f (sk (n+1) k)) (g:=f) fun k hk=>by unfold sk; rw[if_pos (by omega)]]
   unfold sk; rw[if_pos (by omega)]
  ·have ih:=Zn (f:=f) (n:=n) (show j<n+1 by omega)
   rw[show zg (n+1+1) f=zg (n+1) f+f (n+1) from rfl,ih]
   simp only[zg]
   rw[show sk j n=n+1 by unfold sk; rw[if_neg (by omega)]]
   grind
def po (d:zn) (j:Nat):zn:=⟨d.r,d.c-1,fun i k=>d.a i (sk j k),d.b,fun k=>d.cst (sk j k),d.v,d.bas,fun k=>d.fre (sk j k)⟩
theorem CR {d:zn} {p q:Nat} (h:feas d) (hb:d.b p=0):feas (pivot d p q):=by
 intro i hi
 have:=h i hi
 simp only[pivot,hb]
 split<;>grind
section
variable {n m:Nat} {A:Nat→Nat→Rat} {bb gg:Nat→Rat}
theorem KG {p:Nat}:(dA n m A bb).a p n≠0:=by
 simp only[dA,Nat.lt_irrefl,if_false]
 grind
theorem Gi {p:Nat} (hp:p<m):Same (pivot (dA n m A bb) p n) (dA n m A bb) (n+m+1):=Same.pivot ac9 hp (Nat.lt_succ_self n) KG
theorem Gh {p:Nat} (h0:bb p<0) (hmin:∀ i,i<m→bb p≤bb i):feas (pivot (dA n m A bb) p n):=by
 intro i hi
 have:=hmin i hi
 simp only[pivot,dA,Nat.lt_irrefl,if_false]
 split<;>grind
section
variable {d:zn} (h:Same d (dA n m A bb) (n+m+1))
include h
theorem Sj {x:Nat→Rat} (hx:sol d x):obj d x=- x (n+m):=by rw[h.obj x hx,F3]
theorem aad (hf:feas d):d.v≤0:=by
 have h1:=Sj h (gA h.bd)
 rw[Zu h.bd] at h1
 have:=l9 h.bd hf (n+m)
 grind
theorem MH (hf:feas d) {q:Nat} (hq:q<d.c) (hc:0<d.cst q) (ha:∀ i,i<d.r→d.a i q≤0):False:=by
 have hv:=aad h hf
 have hy0:0≤1/d.cst q:=by have:=cb hc; grind
 have hy:0≤(1-d.v)*(1/d.cst q):=Rat.mul_nonneg (by grind) hy0
 have h1:=Sj h (qz h.bd hq (y:=(1-d.v)*(1/d.cst q)))
 rw[ZU h.bd hq] at h1
 have h2:d.v+d.cst q*((1-d.v)*(1/d.cst q))=1:=by grind
 have h3:0≤ptq d q ((1-d.v)*(1/d.cst q)) (n+m):=by
  unfold ptq
  generalize (1-d.v)*(1/d.cst q)=y at *
  have:0≤zg d.r (fun i=>if d.bas i=n+m then d.b i-d.a i q*y else 0):=xW fun i hi=>by
   split
   ·have h4:=hf i hi
    have h5:=Rat.mul_nonneg (show 0≤- d.a i q by have:=ha i hi; grind) hy
    grind
   ·grind
  split<;>grind
 rw[h2] at h1
 grind
theorem abD {i:Nat} (hi:i<d.r) (hb:d.bas i=n+m):∃ j,j<d.c∧d.a i j≠0:=by
 apply Classical.byContradiction
 intro hno
 have hz:∀ j,j<d.c→d.a i j=0:=fun j hj=>Classical.byContradiction fun e=>hno ⟨j,hj,e⟩
 have hx:=(h.sol _).2 (Sx (n:=n) (m:=m) (A:=A) (bb:=bb) (x:=fun k=>if k<n then 0 else if k=n+m then d.b i+1 else bb (k-n)+(d.b i+1)) fun l hl=>by
  rw[if_neg (by omega),if_neg (by omega),if_neg (by omega),if_pos rfl,Nat.add_sub_cancel_left,zO fun j hj=>by rw[if_pos hj]; grind]
  grind)
 have h1:=hx i hi
 rw[hb,zO fun j hj=>by rw[hz j hj]; grind] at h1
 dsimp only at h1
 rw[if_neg (by omega),if_pos rfl] at h1
 grind
theorem adS {i:Nat} (hi:i<d.r) (hb:d.bas i=n+m) (hv:d.v=0):d.b i=0:=by
 have h1:=Sj h (gA h.bd)
 rw[Zu h.bd,← hb,Zt h.bd hi] at h1
 grind
theorem Cz {j:Nat} (hj:j<d.c) (hfre:d.fre j=n+m):Bij (po d j) (n+m):=by
 intro g
 have h1:=h.bd fun k=>if k=n+m then 0 else g k
 obtain ⟨c,hc⟩:∃ c,d.c=c+1:=⟨d.c-1,by omega⟩
 simp only[zg,if_true] at h1
 rw[hc,Zn (j:=j) (by omega)] at h1
 simp only[po,hc,Nat.add_sub_cancel]
 rw[hfre,if_pos rfl,zu (n:=n+m) (g:=g) fun k hk=>if_neg (by omega),
  zu (n:=c) (g:=fun k=>g (d.fre (sk j k))) fun k hk=>if_neg fun e=>aak (mF h.bd (Qy (n:=d.c) (k:=k) hj (by omega)) hj (by rw[e,hfre])),
  zu (n:=d.r) (g:=fun i=>g (d.bas i)) fun i hi=>if_neg fun e=>uG h.bd hi hj (by rw[e,hfre])] at h1
 grind
theorem CA {j:Nat} (hj:j<d.c) (hfre:d.fre j=n+m) (x:Nat→Rat):sol (po d j) x↔sol (dG n m A bb gg) x:=by
 obtain ⟨c,hc⟩:∃ c,d.c=c+1:=⟨d.c-1,by omega⟩
 have e1:sol (po d j) x↔sol d (fun k=>if k=n+m then 0 else x k):=by
  refine forall_congr' fun i=>forall_congr' fun hi=>?_
  simp only[po,hc,Nat.add_sub_cancel]
  rw[if_neg fun e=>uG h.bd hi hj (by rw[e,hfre]),Zn (j:=j) (by omega),hfre,if_pos rfl,
   zu (n:=c) (f:=fun k=>d.a i (sk j k)*(if d.fre (sk j k)=n+m then 0 else x (d.fre (sk j k)))) (g:=fun k=>d.a i (sk j k)*x (d.fre (sk j k))) fun k hk=>by
    rw[if_neg fun e=>aak (mF h.bd (Qy (n:=d.c) (k:=k) hj (by omega)) hj (by rw[e,hfre]))]]
  grind
 rw[e1,h.sol]
 constructor
 ·intro hx i hi
  have:=ad8 hx hi
  rw[if_neg (by simp only[dG] at hi; omega),if_pos rfl,zu (n:=n) (g:=fun j=>A i j*x j) fun k hk=>by rw[if_neg (by omega)]] at this
  simp only[dG]
  grind
 ·intro hx
  refine Sx fun i hi=>?_
  have:=Tg hx hi
  rw[if_neg (by omega),if_pos rfl,zu (n:=n) (g:=fun j=>A i j*x j) fun k hk=>by rw[if_neg (by omega)]]
  grind
end
end
theorem aam {d:zn} {N L:Nat} (hb:Bij d N) (hs:szD L d) (k:Nat):sz L (vl d k):=by
 by_cases h:inB d k
 ·obtain ⟨i,hi,rfl⟩:=h
  rw[Zt hb hi]; exact hs.b i hi
 ·rw[gz h]; exact xQ
theorem A0 {d:zn} {N L:Nat} (hb:Bij d N) (hs:szD L d) (k:Nat):sz L (cv d k):=by
 by_cases h:∃ j,j<d.c∧d.fre j=k
 ·obtain ⟨j,hj,rfl⟩:=h
  rw[Uu hb hj]; exact hs.cst j hj
 ·have:cv d k=0:=zO fun j hj=>if_neg fun e=>h ⟨j,hj,e⟩
  rw[this]; exact xQ
theorem abM {d:zn} {N L q:Nat} (hb:Bij d N) (hs:szD L d) (hq:q<d.c) (k:Nat):sz L (eo d q k):=by
 by_cases h:inB d k
 ·obtain ⟨i,hi,rfl⟩:=h
  have e:eo d q (d.bas i)=- d.a i q:=by rw[Z0,eZ hb hq hi,eZ hb hq hi]; grind
  rw[e]; exact r5 (hs.a i q hi hq)
 ·unfold eo
  rw[zO fun i hi=>if_neg fun e=>h ⟨i,hi,e⟩]
  split
  ·rw[show (0:Rat)+1=1 by grind]; exact Tw
  ·rw[show (0:Rat)+0=0 by grind]; exact xQ
def sgV (n:Nat) (g:Nat→Rat) (d:zn) (k:Nat):Rat:=zg k fun i=>if d.bas i<n then g (d.bas i)*d.b i else 0
def sgC (n:Nat) (g:Nat→Rat) (d:zn) (k j:Nat):Rat:=(if d.fre j<n then g (d.fre j) else 0)-zg k fun i=>if d.bas i<n then g (d.bas i)*d.a i j else 0
def lg (n:Nat) (g:Nat→Rat) (d:zn):zn:={d with cst:=sgC n g d d.r,v:=sgV n g d d.r}
section
variable {n m:Nat} {A:Nat→Nat→Rat} {bb gg:Nat→Rat}
theorem FB {d:zn} (hb:Bij d (n+m)) (hs:∀ x,sol d x↔sol (dG n m A bb gg) x):Same (lg n gg d) (dG n m A bb gg) (n+m):=by
 refine ⟨hb,G3,hs,fun x hx=>?_⟩
 have hx':sol d x:=hx
 rw[UW]
 have h1:=hb fun k=>if k<n then gg k*x k else 0
 rw[gq,zu (n:=n) (g:=fun k=>gg k*x k) fun k hk=>if_pos hk,zO (n:=m) fun k hk=>if_neg (by omega)] at h1
 have h2:zg d.r (fun i=>if d.bas i<n then gg (d.bas i)*x (d.bas i) else 0)=sgV n gg d d.r-zg d.c fun j=>zg d.r (fun i=>if d.bas i<n then gg (d.bas i)*d.a i j else 0)*x (d.fre j):=by
  rw[zu (n:=d.c) (g:=fun j=>zg d.r fun i=>if d.bas i<n then gg (d.bas i)*d.a i j*x (d.fre j) else 0) fun j hj=>by
   rw[← fJ]; exact zu fun i hi=>by split<;>grind]
  rw[← fI,sgV,← uW]
  refine zu fun i hi=>?_
  by_cases e:d.bas i<n
  ·simp only[if_pos e]
   rw[hx' i hi,zu (n:=d.c) (f:=fun j=>gg (d.bas i)*d.a i j*x (d.fre j)) (g:=fun j=>gg (d.bas i)*(d.a i j*x (d.fre j))) fun j hj=>by grind,m4]
   grind
  ·simp only[if_neg e]
   rw[zO fun j hj=>rfl]
   grind
 have h3:zg d.c (fun j=>sgC n gg d d.r j*x (d.fre j))=zg d.c (fun j=>if d.fre j<n then gg (d.fre j)*x (d.fre j) else 0)-zg d.c fun j=>zg d.r (fun i=>if d.bas i<n then gg (d.bas i)*d.a i j else 0)*x (d.fre j):=by
  rw[← uW]
  refine zu fun j hj=>?_
  unfold sgC
  split<;>grind
 show sgV n gg d d.r+zg d.c (fun j=>sgC n gg d d.r j*x (d.fre j))=_
 rw[h3]
 grind
end
end Go.LP

namespace Go.Proofs.YtfmcplfbnkoglaaGreat
open Go Go.Am Go.Dig Go.LP
theorem ad3 {n k L:Nat} {g:Nat→Rat} {d:zn} (hg:∀ j,j<n→sz L (g j)) (hb:∀ i,i<k→sz L (d.b i)):sz (k*(2*L+1)) (sgV n g d k):=by
 induction k with
 | zero=>exact xQ
 | succ k ih =>
  have h1:=ih fun i hi=>hb i (by omega)
  have e:(k+1)*(2*L+1)=k*(2*L+1)+(L+L)+1:=by rw[Nat.succ_mul]; omega
  rw[e]
  refine r4 h1 ?_
  dsimp only
  split
  ·rename_i h; exact yg (hg _ h) (hb k (by omega))
  ·exact xQ
theorem ad2 {n k L j:Nat} {g:Nat→Rat} {d:zn} (hg:∀ j,j<n→sz L (g j)) (ha:∀ i,i<k→sz L (d.a i j)):sz (L+k*(2*L+1)+1) (sgC n g d k j):=by
 refine gu ?_ ?_
 ·split
  ·rename_i h; exact hg _ h
  ·exact xQ
 ·induction k with
  | zero=>exact xQ
  | succ k ih =>
   have h1:=ih fun i hi=>ha i (by omega)
   have e:(k+1)*(2*L+1)=k*(2*L+1)+(L+L)+1:=by rw[Nat.succ_mul]; omega
   rw[e]
   refine r4 h1 ?_
   dsimp only
   split
   ·rename_i h; exact yg (hg _ h) (ha k (by omega))
   ·exact xQ
def wv (d:zn) (v:Rat):zn:={d with v:=v}
noncomputable def XJ (n m:Nat) (g:Nat→Rat) (d:zn) (ρ:List (Nat × ze)) (out:List (List (Nat × AV))) (k:Nat):St :=
 {env:=[(0,.ptr 1015 0),(1,fL g n),(4,.sl 5020 3 0 d.c),(24,.us 2029 1 0 d.c),(25,iv d.c),(26,iv k)],
  sto:=ρ++(tL n m (wv d 0)++[(5020,.arr 3 (fZ (sgC n g d 0) k d.c))]),out:=out,base:=5000}
noncomputable def n9 (n m:Nat) (g:Nat→Rat) (d:zn) (ρ:List (Nat × ze)) (out:List (List (Nat × AV))) (k:Nat):St :=
 {env:=[(0,.ptr 1015 0),(1,fL g n),(4,.sl 5020 3 0 d.c),(52,.us 1987 1 0 m),(53,iv m),(54,iv k)],
  sto:=ρ++(tL n m (wv d (sgV n g d k))++[(5020,.arr 3 (fR (sgC n g d k) d.c))]),out:=out,base:=5000}
noncomputable def NL (n m:Nat) (g:Nat→Rat) (d:zn) (ρ:List (Nat × ze)) (out:List (List (Nat × AV))) (k:Nat):St :=
 if k=m then ⟨[(0,.ptr 1015 0),(1,fL g n),(4,fL (sgC n g d k) d.c),(52,.us 1987 1 0 m),(53,iv m),(54,iv k)],
  ρ++tL n m (wv d (sgV n g d k)),out,5000⟩ else n9 n m g d ρ out k
theorem ace {n m:Nat} {g:Nat→Rat} {d:zn} {ρ:List (Nat × ze)} {out:List (List (Nat × AV))} {k:Nat} (h:k<m):NL n m g d ρ out k=n9 n m g d ρ out k:=if_neg (by omega)
theorem AA {n m:Nat} {g:Nat→Rat} {d:zn} {ρ:List (Nat × ze)} {out:List (List (Nat × AV))}:NL n m g d ρ out m=⟨[(0,.ptr 1015 0),(1,fL g n),(4,fL (sgC n g d m) d.c),(52,.us 1987 1 0 m),(53,iv m),(54,iv m)],
  ρ++tL n m (wv d (sgV n g d m)),out,5000⟩:=if_pos rfl
theorem NM {n m:Nat} {g:Nat→Rat} {d:zn} {ρ:List (Nat × ze)} {out:List (List (Nat × AV))} (hρ:rest ρ) (hO:yp 2000 out) (k:Nat):St.imp (n9 n m g d ρ out k) (NL n m g d ρ out k):=by
 unfold NL
 split
 ·refine St.imp_freeze (k:=5020) ?_
  simp[y8,n9,tL,rlk hρ,wz hρ,y4 hρ,ono hO,BZ hρ,Bn hO,far,wv,t7,nu,tI,lS]
 ·exact St.imp.refl
noncomputable def XK (n m:Nat) (g:Nat→Rat) (d:zn) (ρ:List (Nat × ze)) (out:List (List (Nat × AV))) (k:Nat) (l:Nat):St :=
 {env:=[(0,.ptr 1015 0),(1,fL g n),(4,.sl 5020 3 0 d.c),(8,iv (d.bas k)),(52,.us 1987 1 0 m),(53,iv m),(54,iv k),(99,fL (d.a k) d.c),(100,iv d.c),(101,iv l)],
  sto:=ρ++(tL n m (wv d (sgV n g d (k+1)))++[(5020,.arr 3 (fR (fun j=>if j<l then sgC n g d (k+1) j else sgC n g d k j) d.c))]),out:=out,base:=5000}
theorem ND {n m L:Nat} {g:Nat→Rat} {d:zn} {ρ:List (Nat × ze)} {s:St} {K:AV→St→Prop} (hs:s.sto=ρ++tL n m d) (hρ:rest ρ) (hE:xd 2000 s.env) (hO:yp 2000 s.out) (hm:m<1000000) (_hn:n<1000000) (hc:d.c<1000000) (hr:d.r=m)
  (hL:L+(m+1)*(2*L+1)≤100000000000) (hsz:szD L d) (hg:∀ j,j<n→sz L (g j)) (h:K (.tuple []) ⟨s.env,ρ++tL n m (lg n g d),s.out,s.base⟩) :
  yc Tryz.prog pg [.ptr 1015 0,fL g n] s K:=by
 obtain ⟨env,σ,out,base⟩:=s
 simp only at hs hE hO h
 subst hs
 have g0:zd Tryz.prog zN [iv 0] (fq 0):=yE (n:=0) (by decide) (by decide)
 have v0:sgV n g d 0=0:=rfl
 refine vA 5000 Qd (by simp) ?_
 simp[c6,tL]
 refine za g0 (by simp) (by simp) ?_
 simp[rlk hρ,rpt hρ,far,eMk]
 refine ⟨by omega,by omega,?_⟩
 rw[ns (f:=sgC n g d 0)]
 refine zl (XJ n m g d ρ (env::out)) (fun _=>True) d.c (by simp[XJ,tL,wv]) trivial (fun k hk _=>?_) (fun _=>?_)
 ·have e:(k:Int)<d.c:=by omega
  have w:=zm (k:=k) (by omega)
  have hset:=lO (f:=sgC n g d 0) hk
  obtain ⟨f,hfe⟩:∃ f,d.fre k=f:=⟨_,rfl⟩
  by_cases h1:f<n
  ·have h1':(f:Int)<n:=by omega
   have ev:sgC n g d 0 k=g f:=by simp only[sgC,zg]; rw[hfe,if_pos h1]; grind
   rw[ev] at hset
   simp[tV,XJ,tL,rlk hρ,far,wv,e,hk,hfe]
   refine za g0 (by simp) (by simp) ?_
   simp[tL,rlk hρ,rpt hρ,far,wv,e,hk,h1,h1',w,splice,hset,XJ]
  ·have h1':¬ (f:Int)<n:=by omega
   have ev:sgC n g d 0 k=0:=by simp only[sgC,zg]; rw[hfe,if_neg h1]; grind
   rw[ev] at hset
   simp[tV,XJ,tL,rlk hρ,far,wv,e,hk,hfe]
   refine za g0 (by simp) (by simp) ?_
   simp[tL,rlk hρ,rpt hρ,far,wv,e,hk,h1',w,splice,hset,XJ]
 ·simp[tV,XJ,jE,tL,rlk hρ,far,wv,nr]
  have hO2:yp 2000 (env::out):=lV.2 ⟨hE,hO⟩
  refine mr (NL n m g d ρ (env::out)) (fun _=>True) m (St.imp.trans (St.imp_of (by simp[n9,tL,wv,v0])) (NM hρ hO2 0)) trivial (fun k hk _=>?_) (fun _=>?_)
  ·rw[ace hk]
   have fin:=NM (n:=n) (m:=m) (g:=g) (d:=d) hρ hO2 (k+1)
   have e:(k:Int)<m:=by omega
   have w:=zm (k:=k) (by omega)
   have hkm:k*(2*L+1)≤m*(2*L+1):=Nat.mul_le_mul_right _ (by omega)
   have hms:(m+1)*(2*L+1)=m*(2*L+1)+(2*L+1):=Nat.succ_mul _ _
   rw[hms] at hL
   obtain ⟨v,hve⟩:∃ v,d.bas k=v:=⟨_,rfl⟩
   by_cases h1:n≤v
   ·have h1':(n:Int)≤v:=by omega
    have h1n:¬ v<n:=by omega
    have ev:sgV n g d (k+1)=sgV n g d k:=by simp only[sgV,zg]; rw[hve,if_neg (by omega)]; grind
    have ec:sgC n g d (k+1)=sgC n g d k:=by funext j; simp only[sgC,zg]; rw[hve,if_neg h1n]; grind
    simp[v6,tU,n9,tL,rlk hρ,far,wv,e,hk,hve,h1',w]
    refine St.imp.trans (St.imp_of ?_) fin
    simp[n9,tL,wv,ev,ec]
   ·have hvn:v<n:=by omega
    have hvn':(v:Int)<n:=by omega
    have h1':¬ (n:Int)≤v:=by omega
    have s1:=vf (q:=g v)
    by_cases h2:g v=0
    ·have s2:yN (g v)=0:=wH.2 h2
     have ev:sgV n g d (k+1)=sgV n g d k:=by simp only[sgV,zg]; rw[hve,if_pos hvn,h2]; grind
     have ec:sgC n g d (k+1)=sgC n g d k:=by funext j; simp only[sgC,zg]; rw[hve,if_pos hvn,h2]; grind
     simp[v6,tU,n9,tL,rlk hρ,far,wv,e,hk,hve,h1',hvn,hvn']
     refine za s1 (by simp) (by simp) ?_
     simp[w,s2]
     refine St.imp.trans (St.imp_of ?_) fin
     simp[n9,tL,wv,ev,ec]
    ·have s2:¬ yN (g v)=0:=fun h=>h2 (wH.1 h)
     have sb:=hsz.b k (by omega)
     have sv:=ad3 (k:=k) hg (fun i hi=>hsz.b i (by omega))
     have g1:=k6 (K:=L) (by omega) (hg v hvn) sb
     have g2:=X3 (K:=L+(m+1)*(2*L+1)) (by omega) (zx sv (by omega)) (zx (yg (hg v hvn) sb) (by omega))
     have ev:sgV n g d k+g v*d.b k=sgV n g d (k+1):=by simp only[sgV,zg]; rw[hve,if_pos hvn]
     rw[ev] at g2
     have ec:∀ j,sgC n g d k j-g v*d.a k j=sgC n g d (k+1) j:=fun j=>by simp only[sgC,zg]; rw[hve,if_pos hvn]; grind
     simp[v6,tU,n9,tL,rlk hρ,far,wv,e,hk,hve,h1',hvn,hvn']
     refine za s1 (by simp) (by simp) ?_
     simp[rlk hρ,far,e,hk,hvn,hvn',s2]
     refine za g1 (by simp) (by simp) ?_
     simp
     refine za g2 (by simp) (by simp) ?_
     simp[rlk hρ,rpt hρ,far,e,hk]
     refine zl (XK n m g d ρ (env::out) k) (fun _=>True) d.c (by simp[XK,tL,wv,hve]) trivial (fun l hl _=>?_) (fun _=>?_)
     ·have e2:(l:Int)<d.c:=by omega
      have w2:=zm (k:=l) (by omega)
      have t1:=vf (q:=d.a k l)
      have sa:=hsz.a k l (by omega) hl
      have sc:=ad2 (k:=k) (j:=l) hg (fun i hi=>hsz.a i l (by omega) hl)
      have mx:∀ x,x=sgC n g d (k+1) l→(fR (fun j=>if j<l then sgC n g d (k+1) j else sgC n g d k j) d.c).set l (fr x)=fR (fun j=>if j<l+1 then sgC n g d (k+1) j else sgC n g d k j) d.c:=fun x hx=>by
       rw[uF]
       refine yd fun j _=>?_
       unfold upd
       by_cases ej:j=l
       ·subst ej; rw[if_pos rfl,if_pos (by omega),hx]
       ·rw[if_neg ej]
        dsimp only
        by_cases ej2:j<l
        ·rw[if_pos ej2,if_pos (by omega)]
        ·rw[if_neg ej2,if_neg (by omega)]
      have mg:(fR (fun j=>if j<l then sgC n g d (k+1) j else sgC n g d k j) d.c)[l]?=some (fr (sgC n g d k l)):=by rw[am hl,if_neg (Nat.lt_irrefl l)]
      have ecl:=ec l
      by_cases h3:d.a k l=0
      ·have s3:yN (d.a k l)=0:=wH.2 h3
       have ms:fR (fun j=>if j<l then sgC n g d (k+1) j else sgC n g d k j) d.c=fR (fun j=>if j<l+1 then sgC n g d (k+1) j else sgC n g d k j) d.c:=by
        refine yd fun j _=>?_
        by_cases ej:j=l
        ·subst ej; rw[if_neg (Nat.lt_irrefl j),if_pos (by omega),← ecl,h3]; grind
        ·by_cases ej2:j<l
         ·rw[if_pos ej2,if_pos (by omega)]
         ·rw[if_neg ej2,if_neg (by omega)]
       simp[tX,XK,tL,rlk hρ,rpt hρ,far,wv,e2,hl,hve]
       refine za t1 (by simp) (by simp) ?_
       simp[tL,rlk hρ,wz hρ,y4 hρ,eno hE,ono hO,far,wv,s3,w2,XK,hve,ms]
      ·have s3:¬ yN (d.a k l)=0:=fun h=>h3 (wH.1 h)
       have t2:=k6 (K:=L) (by omega) (hg v hvn) sa
       have t3:=Tu (K:=L+(m+1)*(2*L+1)) (by omega) (zx sc (by omega)) (zx (yg (hg v hvn) sa) (by omega))
       rw[ecl] at t3
       have mx:=mx _ rfl
       simp[tX,XK,tL,rlk hρ,rpt hρ,far,wv,e2,hl,hve]
       refine za t1 (by simp) (by simp) ?_
       simp[rlk hρ,far,e2,hl,s3,hvn,hvn']
       refine za t2 (by simp) (by simp) ?_
       simp
       refine za t3 (by simp) (by simp) ?_
       simp[tL,rlk hρ,rpt hρ,wz hρ,y4 hρ,eno hE,ono hO,far,wv,e2,hl,splice,mx,w2,XK,hve]
     ·have hfull:fR (fun j=>if j<d.c then sgC n g d (k+1) j else sgC n g d k j) d.c=fR (sgC n g d (k+1)) d.c:=yd fun j hj=>if_pos hj
      simp[tX,XK,tL,wv,hfull,w]
      refine St.imp.trans (St.imp_of ?_) fin
      simp[n9,tL,wv]
  ·rw[AA]
   simp[v6,jD,bs,tL,rlk hρ,rpt hρ,far,wv]
   simpa [lg,tL,tC,hr] using h
@[simp] theorem acR {sz by_ d n j sz' off len:Nat} {rows:List (List AV)} {s:St} {K:St→Prop} (h:lk s.sto j=some (.uarr sz rows)) :
  xc sz by_ s (some d) K [.list n .full [],.us j sz' off len]=(sz'=sz∧off+len≤rows.length∧0<sz∧((rows.drop off).take len).length*by_≤140737488355328∧((rows.drop off).take len).length≤9223372036854775807∧lk s.sto (s.base+d)=none ∧
   K (((s.dg (s.base+d)).put (some d) (.us (s.base+d) sz 0 ((rows.drop off).take len).length)).new (some d) (some (.uarr sz (zX (s.base+d) ((rows.drop off).take len)))))):=by
 simp[xc,xb,h]
@[simp] theorem aaU {sz by_ d l j sz1 off1 len1 sz' off len:Nat} {rows1 rows:List (List AV)} {s:St} {K:St→Prop} (h1:lk s.sto l=some (.uarr sz rows1)) (h:lk s.sto j=some (.uarr sz rows)) :
  xc sz by_ s (some d) K [.us l sz1 off1 len1,.us j sz' off len]=(sz'=sz∧off+len≤rows.length∧0<sz∧(len1+((rows.drop off).take len).length)*by_≤140737488355328∧len1+((rows.drop off).take len).length≤9223372036854775807∧sz1=sz∧off1=0∧len1=rows1.length ∧
   K ({(s.dg l) with sto:=pt (s.dg l).sto l (.uarr sz (zX l (rows1++((rows.drop off).take len))))}.put (some d) (.us l sz 0 (len1+((rows.drop off).take len).length)))):=by
 simp[xc,xb,h,h1]
theorem L3 {g:Nat→List AV} {j c:Nat} (hj:j<c):(mR g c).take j++(mR g c).drop (j+1)=mR (fun k=>g (sk j k)) (c-1):=by
 apply List.ext_getElem?
 intro i
 by_cases h:i<j
 ·rw[List.getElem?_append_left (by simp; omega),List.getElem?_take,if_pos h,q7 (by omega),q7 (by omega)]
  unfold sk; rw[if_pos h]
 ·rw[List.getElem?_append_right (by simp; omega),List.getElem?_drop]
  have e:j+1+(i-((mR g c).take j).length)=i+1:=by simp; omega
  rw[e]
  by_cases h2:i<c-1
  ·rw[q7 (by omega),q7 h2]
   unfold sk; rw[if_neg h]
  ·rw[List.getElem?_eq_none (by simp; omega),List.getElem?_eq_none (by simp; omega)]
theorem LJ {f:Nat→Rat} {j c:Nat} (hj:j<c):(fR f c).take j++(fR f c).drop (j+1)=fR (fun k=>f (sk j k)) (c-1):=L3 (g:=fun k=>fr (f k)) hj
theorem abk {f:Nat→Nat} {j c:Nat} (hj:j<c):(nR f c).take j++(nR f c).drop (j+1)=nR (fun k=>f (sk j k)) (c-1):=L3 (g:=fun k=>[iv (f k)]) hj
theorem abl {f:Nat→Nat} {j c l:Nat}:zX l ((nR f c).take j)=(nR f c).take j:=yJ fun r hr=>by
 obtain ⟨i,_,rfl⟩:=List.mem_map.1 (List.mem_of_mem_take hr)
 rfl
theorem abj {f:Nat→Nat} {j c l:Nat}:zX l ((nR f c).drop j)=(nR f c).drop j:=yJ fun r hr=>by
 obtain ⟨i,_,rfl⟩:=List.mem_map.1 (List.mem_of_mem_drop hr)
 rfl
theorem abm {f:Nat→Nat} {j c:Nat}:((nR f c).drop j).take (c-j)=(nR f c).drop j:=List.take_of_length_le (by simp)
theorem least {p:Nat→Prop}:∀ {n:Nat},(∃ i,i<n∧p i)→∃ i,i<n∧p i∧∀ k,k<i→¬ p k
 | 0,⟨i,h,_⟩=>by omega
 | n+1,⟨i,h,hp⟩=>by
  by_cases e:∃ i,i<n∧p i
  ·obtain ⟨i,h1,h2,h3⟩:=least e
   exact ⟨i,by omega,h2,h3⟩
  ·refine ⟨i,h,hp,fun k hk hpk=>e ⟨k,by omega,hpk⟩⟩
def Rm (n m:Nat) (d e:zn):Prop:=∃ d1 j,(d1=d∨∃ i q,i<m∧q<d.c∧d.bas i=n+m∧d.a i q≠0∧d1=pivot d i q)∧j<d1.c∧d1.fre j=n+m∧e=po d1 j
theorem PU {M n:Nat} {f:Nat→Rat}:Am.low M (fL f n)=true:=rfl
theorem F7:yZ Tryz.prog vm=true:=by kernel_rfl
noncomputable def Zi (n m:Nat) (d:zn) (ρ:List (Nat × ze)) (out:List (List (Nat × AV))) (k:Nat):St :=
 {env:=[(0,.ptr 1015 0),(2,iv (n+m:Nat)),(23,.us 1987 1 0 m),(24,iv m),(25,iv k)],sto:=ρ++tL n m d,out:=out,base:=4500}
noncomputable def NQ (n m i:Nat) (d:zn) (ρ:List (Nat × ze)) (out:List (List (Nat × AV))) (k:Nat):St :=
 {env:=[(0,.ptr 1015 0),(2,iv (n+m:Nat)),(3,iv i),(39,fL (d.a i) d.c),(40,iv d.c),(41,iv k)],sto:=ρ++tL n m d,out:=out,base:=4500}
noncomputable def XN (n m:Nat) (d:zn) (ρ:List (Nat × ze)) (out:List (List (Nat × AV))) (k:Nat):St :=
 {env:=[(0,.ptr 1015 0),(2,iv (n+m:Nat)),(58,.us 2029 1 0 d.c),(59,iv d.c),(60,iv k)],sto:=ρ++tL n m d,out:=out,base:=4500}
noncomputable def sR (d:zn) (j k m:Nat):List (List AV):=mR (fun i=>if i<k then [fL (fun l=>d.a i (sk j l)) (d.c-1)] else [fL (d.a i) d.c]) m
theorem aai {d:zn} {j k m l:Nat}:zX l (sR d j k m)=sR d j k m:=tw fun i=>by split<;>simp
@[simp] theorem ah6 {d:zn} {j k m l:Nat}:xn l (sR d j k m)=false:=UQ fun i=>by split<;>simp
@[simp] theorem ah5 {d:zn} {j k m:Nat}:(sR d j k m).length=m:=nT
noncomputable def tS (n m j k:Nat) (d:zn):List (Nat × ze) :=
 [(1015,.var (tC n m d)),(1961,.uarr 1 (sR d j k m)),(1972,.uarr 3 (fR d.b m)),(1987,.uarr 1 (nR d.bas m)),(2029,.uarr 1 (nR d.fre d.c))]
noncomputable def Ge (n m j:Nat) (d:zn) (ρ:List (Nat × ze)) (out:List (List (Nat × AV))) (k:Nat):St :=
 {env:=[(0,.ptr 1015 0),(7,iv j),(71,.us 1961 1 0 m),(72,iv m),(73,iv k)],sto:=ρ++tS n m j k d,out:=out,base:=4500}
@[simp] theorem aey {a':Nat→Nat→Rat} {cl:Nat→Nat} {n a b:Nat}:((cR a' cl n).map fun r=>r.map (rn a b))=cR a' cl n:=tw fun _=>by simp[rn,rn1]
noncomputable def tW (n m j:Nat) (d:zn):List (Nat × ze) :=
 [(1015,.var [iv n,iv m,.us 1961 1 0 m,.us 1972 3 0 m,.list 3 (.own 4622) (fR (fun k=>d.cst (sk j k)) (d.c-1)),f0 d.v,f1 d.v,f2 d.v,.us 1987 1 0 m,.us 4603 1 0 (d.c-1)]),
  (1961,.uarr 1 (sR d j m m)),(1972,.uarr 3 (fR d.b m)),(1987,.uarr 1 (nR d.bas m)),(2029,.uarr 1 (nR d.fre d.c)),(4603,.uarr 1 (nR (fun k=>d.fre (sk j k)) (d.c-1)))]
theorem ab0 {d:zn} {j m:Nat}:sR d j m m=cR (fun i k=>d.a i (sk j k)) (fun _=>d.c-1) m:=uU fun _i hi=>if_pos hi
theorem aee {n m j:Nat} {d:zn} {ρ:List (Nat × ze)} {env:List (Nat × AV)} {out:List (List (Nat × AV))} {base:Nat} (hρ:rest ρ) (hE:xd 2000 env) (hO:yp 2000 out) :
  St.imp ⟨env,ρ++tW n m j d,out,base⟩ ⟨env,ρ++tL n m (po d j),out,base⟩:=by
 refine St.imp.trans (St.imp_cell_weak (k:=1015) (j:=4) (y:=fL (fun k=>d.cst (sk j k)) (d.c-1)) (by simp[tW,rlk hρ,far]; rfl) (by simp; rfl) vi.list) ?_
 simp[tW,rpt hρ,far]
 refine St.imp.trans (St.impW_drop (l:=2029) (by simp[rlk hρ,far]; exact ⟨rfl,rfl⟩)).imp ?_
 simp[wz hρ,far]
 refine St.imp.trans (St.imp_rn 4603 2029) ?_
 have hr0:=B2 (k:=4603) (l:=2029) hρ rfl rfl
 have he:=ZR (k:=4603) (by omega) (j:=2029) (by omega) hE
 have ho:=Sd (k:=4603) (by omega) (j:=2029) (by omega) hO
 simp only[St.rn,List.map_append,hr0,he,ho]
 simp only[List.map_cons,List.map_nil,Sv,XA,JS,Nx,XB,Jv,A3,aey,ab0,K9,Ja,Jb,sw,Nat.reduceEqDiff,if_true,if_false]
 exact St.imp.refl
theorem abP {n m:Nat} {d:zn} {ρ:List (Nat × ze)} {env:List (Nat × AV)} {out:List (List (Nat × AV))} {base:Nat} {K:AV→St→Prop} (hρ:rest ρ) (hE:xd 2000 env) (hO:yp 2000 out) (hm:m<1000000) (_hn:n<1000000) (hc:d.c<1000000)
  {j0:Nat} (hj0:j0<d.c) (hf0:d.fre j0=n+m) (hmin:∀ k,k<j0→¬ d.fre k=n+m) (h:K (.tuple []) ⟨env,ρ++tW n m j0 d,out,base⟩) :
  awp Tryz.prog (.loop wq) (XN n m d ρ (env::out) 0) (wZ 4 (Xy tB base K)):=by
 refine zl (XN n m d ρ (env::out)) (fun _=>True) j0 (by simp[XN]) trivial (fun k hk _=>?_) (fun _=>?_)
 ·have e:(k:Int)<d.c:=by omega
  have hkc:k<d.c:=by omega
  have w:=zm (k:=k) (by omega)
  have hne:¬ d.fre k=n+m:=hmin k hk
  have hne':¬ (d.fre k:Int)=(n:Int)+m:=by omega
  simp[wq,XN,tL,e,hkc,rlk hρ,far,hne',w,rD]
 ·have e:(j0:Int)<d.c:=by omega
  have hf0':(d.fre j0:Int)=(n:Int)+m:=by omega
  simp[wq,XN,tL,e,hj0,rlk hρ,far,hf0']
  have hj1:(j0:Int)≤d.c:=by omega
  have hj2:j0≤d.c:=by omega
  have wj:IntKind.i64.wrap ((j0:Int)+1)=((j0+1:Nat):Int):=zm (by omega)
  have hj3:(j0:Int)+1≤d.c:=by omega
  have hj5:(0:Int)≤(j0:Int)+1:=by omega
  have hj4:j0+1≤d.c:=by omega
  refine mr (Ge n m j0 d ρ (env::out)) (fun _=>True) m ?_ trivial (fun k hk _=>?_) (fun _=>?_)
  ·exact St.imp_of (by simp[Ge,tS,sR,cR])
  ·have e:(k:Int)<m:=by omega
   have w:=zm (k:=k) (by omega)
   have g:(sR d j0 k m)[k]?=some [fL (d.a k) d.c]:=by unfold sR; rw[q7 hk,if_neg (by omega)]
   have gE:∀ h,(sR d j0 k m)[k]'h=[fL (d.a k) d.c]:=fun h=>(List.getElem?_eq_some_iff.1 g).2
   simp[v5,Ge,tS,e,hk,gE,rlk hρ,rpt hρ,wz hρ,far,nZ hρ,edg hE,odg hO,-dgE,vq,wO,aai,w,hj1,hj2,wj,hj3,hj5]
   refine ⟨by omega,by omega,by omega,by omega,?_⟩
   rw[LJ hj0]
   have hset:(sR d j0 k m).set k [fL (fun l=>d.a k (sk j0 l)) (d.c-1)]=sR d j0 (k+1) m:=by
    unfold sR
    rw[UR]
    refine uU fun i _=>?_
    unfold upd
    by_cases ei:i=k
    ·subst ei; rw[if_pos rfl,if_pos (by omega)]
    ·rw[if_neg ei]
     dsimp only
     by_cases ei2:i<k
     ·rw[if_pos ei2,if_pos (by omega)]
     ·rw[if_neg ei2,if_neg (by omega)]
   refine St.imp.trans (St.imp_uarr (l:=1961) (sz:=1) (rows':=sR d j0 (k+1) m) (by simp[rlk hρ,far]; rfl) (by simp) fun i r r' hr hr'=>?_) ?_
   ·rw[← hset] at hr'
    rw[List.getElem?_set] at hr hr'
    by_cases ei:k=i
    ·subst ei
     rw[if_pos rfl] at hr hr'
     split at hr
     ·rename_i h1
      rw[if_pos h1] at hr'
      simp only[Option.some.injEq] at hr hr'
      subst hr hr'
      exact ⟨rfl,fun j c c' hj hj'=>by
       cases j with
       | zero=>simp only[List.getElem?_cons_zero,Option.some.injEq] at hj hj'; subst hj hj'; exact vi.list
       | succ j=>simp at hj⟩
     ·cases hr
    ·rw[if_neg ei] at hr hr'
     rw[hr] at hr'
     cases hr'
     exact ⟨rfl,fun j c c' hj hj'=>by rw[hj] at hj'; cases hj'; exact vi.refl⟩
   ·simp[rpt hρ,far]
    exact St.imp.refl
  ·simp[v5,Ge,tS,rlk hρ,rpt hρ,wz hρ,far,nZ hρ,edg hE,odg hO,-dgE,vq,wO,aai,rC,tB,abl,abj,abm,abk hj0,LJ hj0,U6,hj1,hj2,wj,hj3,hj4,hj5]
   rw[show j0+(d.c-(j0+1))=d.c-1 by omega]
   exact ⟨by omega,by omega,by omega,by omega,by omega,by omega,by omega,by omega,h⟩
theorem abQ {n m L:Nat} {d d1:zn} {ρ:List (Nat × ze)} {s:St} {K:AV→St→Prop} (hs:s.sto=ρ++tL n m d) (hρ:rest ρ) (hE:xd 2000 s.env) (hO:yp 2000 s.out) (hm:m<1000000) (hn:n<1000000) (hc:d.c<1000000) (hr:d.r=m)
  (hL:L≤10000000000) (hsz:szD L d)
  (h1:(d1=d∧∀ i,i<m→d.bas i≠n+m)∨∃ i q,i<m∧q<d.c∧d.bas i=n+m∧(∀ k,k<i→d.bas k≠n+m)∧d.a i q≠0∧(∀ k,k<q→d.a i k=0)∧d1=pivot d i q)
  {j0:Nat} (hj0:j0<d1.c) (hf0:d1.fre j0=n+m) (hmin:∀ k,k<j0→¬ d1.fre k=n+m) (h:K (.tuple []) ⟨s.env,ρ++tL n m (po d1 j0),s.out,s.base⟩) :
  yc Tryz.prog vm [.ptr 1015 0] s K:=by
 obtain ⟨env,σ,out,base⟩:=s
 simp only at hs hE hO h
 subst hs
 have hO2:yp 2000 (env::out):=lV.2 ⟨hE,hO⟩
 have wnm:IntKind.i64.wrap ((n:Int)+m)=(n:Int)+m:=by rw[wrap64]<;>omega
 refine yc.post (K:=fun r s'=>r=.tuple []∧s'=⟨env,ρ++tW n m j0 d1,out,base⟩) ?_ fun r s' ⟨e1,e2⟩=>.inr ⟨e1,⟨env,ρ++tL n m (po d1 j0),out,base⟩,by subst e2; exact aee hρ hE hO,by subst e1; exact h⟩
 refine vA 4500 dj (by simp) ?_
 have k7:=abP (n:=n) (m:=m) (d:=d1) (K:=fun r s'=>r=.tuple []∧s'=⟨env,ρ++tW n m j0 d1,out,base⟩) (base:=base) hρ hE hO hm hn (by rcases h1 with ⟨rfl,_⟩ | ⟨i,q,_,_,_,_,_,_,rfl⟩<;>exact hc) hj0 hf0 hmin ⟨rfl,rfl⟩
 rcases h1 with ⟨rfl,hno⟩ | ⟨i0,q0,hi0,hq0,hb0,hbmin,ha0,hamin,rfl⟩
 ·simp[th,tL,rlk hρ,far,wnm]
  refine zl (Zi n m d1 ρ (env::out)) (fun _=>True) m (by simp[Zi,tL]) trivial (fun k hk _=>?_) (fun _=>?_)
  ·have e:(k:Int)<m:=by omega
   have w:=zm (k:=k) (by omega)
   have hne:¬ (d1.bas k:Int)=(n:Int)+m:=by have:=hno k hk; omega
   simp[xw,Zi,tL,e,hk,rlk hρ,far,hne,w,vZ]
  ·simp[xw,Zi,tL,rlk hρ,far,v3]
   simpa [XN,tL] using k7
 ·simp[th,tL,rlk hρ,far,wnm]
  refine zl (Zi n m d ρ (env::out)) (fun _=>True) i0 (by simp[Zi,tL]) trivial (fun k hk _=>?_) (fun _=>?_)
  ·have hkm:k<m:=by omega
   have e:(k:Int)<m:=by omega
   have w:=zm (k:=k) (by omega)
   have hne:¬ (d.bas k:Int)=(n:Int)+m:=by have:=hbmin k hk; omega
   simp[xw,Zi,tL,e,hkm,rlk hρ,far,hne,w,vZ]
  ·have e:(i0:Int)<m:=by omega
   have heq:(d.bas i0:Int)=(n:Int)+m:=by omega
   simp[xw,Zi,tL,e,hi0,rlk hρ,far,heq]
   refine zl (NQ n m i0 d ρ (env::out)) (fun _=>True) q0 (by simp[NQ,tL]) trivial (fun k hk _=>?_) (fun _=>?_)
   ·have hkc:k<d.c:=by omega
    have e2:(k:Int)<d.c:=by omega
    have w:=zm (k:=k) (by omega)
    have g:=vf (q:=d.a i0 k)
    have z:yN (d.a i0 k)=0:=wH.2 (hamin k hk)
    simp[v4,NQ,tL,e2,hkc,rlk hρ,rpt hρ,far]
    refine za g (by simp) (by simp) ?_
    simp[z,w,NQ,tL,rlk hρ,wz hρ,y4 hρ,eno hE,ono hO,far]
   ·have e2:(q0:Int)<d.c:=by omega
    have g:=vf (q:=d.a i0 q0)
    have z:¬ yN (d.a i0 q0)=0:=fun h=>ha0 (wH.1 h)
    simp[v4,NQ,tL,e2,hq0,rlk hρ,rpt hρ,far]
    refine za g (by simp) (by simp) ?_
    simp[z,cm,rlk hρ,wz hρ,y4 hρ,eno hE,ono hO,far]
    refine yb (Nm (s:=⟨_,ρ++tL n m d,env::out,4500⟩) (d:=d) (ρ:=ρ) (n:=n) (m:=m) (L:=L) rfl hρ ?_ hO2 hm hc hr hi0 hq0 hL hsz ha0 ?_)
    ·simp[yF,xe,lW,rR,xP,PU]
    simp[rB,v3,tL,rlk hρ,far]
    simpa [XN,tL] using k7
end Go.Proofs.YtfmcplfbnkoglaaGreat
