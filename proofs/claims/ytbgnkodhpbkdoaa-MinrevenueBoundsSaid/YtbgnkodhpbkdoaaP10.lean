/- What the proof rests on, part 10: F14 F15 X0 X1 X2 X3 X4 X5 X6 X7 X8 X8b LP5 X9 X10 X11 X12 X13. -/
import Derived.Test.YtbgnkodhpbkdoaaP9
set_option maxRecDepth 100000
set_option maxHeartbeats 4000000
namespace Go.Proofs.Ytbgnkodhpbkdoaa
open Go Go.Am Go.Dig Go.LP
def cmpR (p q:Rat):Int:=if p<q then -1 else if q<p then 1 else 0
def sgnR (q:Rat):Int:=if q=0 then 0 else if q<0 then -1 else 1
theorem num_neg_iff {q:Rat}:q.num<0↔q<0:=by
 have:=Rat.lt_iff q 0
 simpa using this.symm
theorem cmpR_eq (p q:Rat):cmpR p q=if p.num*q.den<q.num*p.den then -1 else if q.num*p.den<p.num*q.den then 1 else 0:=by
 unfold cmpR
 simp only[Rat.lt_iff]
theorem cmp_abs (p q:Rat):(if decide (p.num<0)=decide (q.num<0) then (if decide (p.num<0)=true then cmpN (q.num.natAbs*p.den) (p.num.natAbs*q.den) else cmpN (p.num.natAbs*q.den) (q.num.natAbs*p.den))
  else if decide (p.num<0)=true then -1 else 1)=cmpR p q:=by
 have d1:(0:Int)<p.den:=by have:=p.den_pos; omega
 have d2:(0:Int)<q.den:=by have:=q.den_pos; omega
 rw[cmpR_eq]
 unfold cmpN
 have a1:((p.num.natAbs*q.den:Nat):Int)=(p.num.natAbs:Int)*q.den:=Int.natCast_mul _ _
 have a2:((q.num.natAbs*p.den:Nat):Int)=(q.num.natAbs:Int)*p.den:=Int.natCast_mul _ _
 by_cases h1:p.num<0<;>by_cases h2:q.num<0
 ·have e1:(p.num.natAbs:Int)=-p.num:=by omega
  have e2:(q.num.natAbs:Int)=-q.num:=by omega
  rw[e1,Int.neg_mul] at a1
  rw[e2,Int.neg_mul] at a2
  simp only[h1,h2,if_true,decide_true]
  generalize p.num*q.den=x at *
  generalize q.num*p.den=y at *
  repeat' split
  all_goals first | rfl | omega
 ·have m1:p.num*q.den<0:=Int.mul_neg_of_neg_of_pos h1 d2
  have m2:0≤q.num*p.den:=Int.mul_nonneg (by omega) (by omega)
  simp only[h1,h2,decide_true,decide_false,Bool.true_eq_false,if_false,if_true]
  rw[if_pos (by omega)]
 ·have m1:0≤p.num*q.den:=Int.mul_nonneg (by omega) (by omega)
  have m2:q.num*p.den<0:=Int.mul_neg_of_neg_of_pos h2 d1
  simp only[h1,h2,decide_true,decide_false,Bool.false_eq_true,if_false]
  rw[if_neg (by omega),if_pos (by omega)]
 ·have e1:(p.num.natAbs:Int)=p.num:=by omega
  have e2:(q.num.natAbs:Int)=q.num:=by omega
  rw[e1] at a1
  rw[e2] at a2
  simp only[h1,h2,decide_false,if_true,Bool.false_eq_true,if_false]
  generalize p.num*q.den=x at *
  generalize q.num*p.den=y at *
  repeat' split
  all_goals first | rfl | omega
theorem fromInt_frac {n:Int} (h1:-9223372036854775808≤n) (h2:n<9223372036854775808):SoundCall Try.prog F_f_FromInt [iv n] (frac n):=by
 rw[← int_rat]; exact fromInt_sound h1 h2
theorem sign_frac {q:Rat}:SoundCall Try.prog F_f_Sign [frac q] (iv (sgnR q)):=by
 unfold sgnR frac
 refine sound' t_f_Sign (by simp) ?_
 by_cases h0:q=0
 ·subst h0
  simp[c_f_Sign,r_f_Sign,digs_zero]
 ·have hn:q.num.natAbs≠0:=fun e=>h0 (Rat.num_eq_zero.1 (by omega))
  have hl0:¬ digs q.num.natAbs=[]:=by rw[digs_eq_nil]; exact hn
  have hl:¬ (digs q.num.natAbs).length=0:=by rw[List.length_eq_zero_iff]; exact hl0
  have hli:¬ ((digs q.num.natAbs).length:Int)=0:=by omega
  by_cases h1:q<0
  ·have h2:=num_neg_iff.2 h1
   simp[c_f_Sign,r_f_Sign,h0,h1,hl,h2]
  ·have h2:¬ q.num<0:=fun h=>h1 (num_neg_iff.1 h)
   simp[c_f_Sign,r_f_Sign,h0,h1,hl,h2]
theorem cmp_frac {K:Nat} {p q:Rat} (hK:K≤137438953472) (hp:sz K p) (hq:sz K q):SoundCall Try.prog F_f_Cmp [frac p,frac q] (iv (cmpR p q)):=by
 have h1:=sz_len hp
 have h2:=sz_len hq
 rw[← cmp_abs]
 have l1:=mul_len h1.1 h2.2
 have l2:=mul_len h2.1 h1.2
 have kx:=cross_sound (s:=decide (p.num<0)) (t:=decide (q.num<0)) (N:=p.num.natAbs) (D:=p.den) (M:=q.num.natAbs) (E:=q.den) (by omega) (by omega) (by omega) (by omega)
 have k1:=cmp_sound (m1:=.plain) (m2:=.plain) (ok_digs (p.num.natAbs*q.den)) (ok_digs (q.num.natAbs*p.den)) (by omega) (by omega)
 have k2:=cmp_sound (m1:=.plain) (m2:=.plain) (ok_digs (q.num.natAbs*p.den)) (ok_digs (p.num.natAbs*q.den)) (by omega) (by omega)
 simp only[val_digs] at k1 k2
 unfold frac
 generalize p.num.natAbs*q.den=x at *
 generalize q.num.natAbs*p.den=y at *
 generalize decide (p.num<0)=s at *
 generalize decide (q.num<0)=t at *
 refine sound' t_f_Cmp (by simp) ?_
 by_cases hst:s=t
 ·have e:(s == t)=true:=by simp[hst]
  rw[if_pos hst]
  simp[c_f_Cmp,eBin_neq_bool ub_bool,e]
  refine eCall_i kx (by simp) (by simp) ?_
  cases s
  ·simp
   refine eCall_i k1 (by simp) (by simp) ?_
   simp[r_f_Cmp]
  ·simp
   refine eCall_i k2 (by simp) (by simp) ?_
   simp[r_f_Cmp]
 ·have e:(s == t)=false:=by simp[hst]
  rw[if_neg hst]
  cases s<;>simp[c_f_Cmp,eBin_neq_bool ub_bool,e,r_f_Cmp]
def vfr (s:Bool) (a c:List Nat):Bool :=
 decide (a=digs (val a))&&decide (c=digs (val c))&&!decide (c=[])&&!(s&&decide (a=[]))&&(Nat.gcd (val a) (val c) == 1)
theorem vfr_frac (q:Rat):vfr (decide (q.num<0)) (digs q.num.natAbs) (digs q.den)=true:=by
 have h1:¬ q.den=0:=q.den_nz
 have h2:Nat.gcd q.num.natAbs q.den=1:=q.reduced
 have h3:¬ (q.num<0∧q.num.natAbs=0):=by omega
 simp only[vfr,val_digs,digs_eq_nil,h1,h2,beq_self_eq_true,decide_true,Bool.true_and,Bool.and_true,decide_false,Bool.not_false,Bool.not_eq_true',Bool.and_eq_false_iff,decide_eq_false_iff_not]
 by_cases hn:q.num<0
 ·right; omega
 ·left; exact hn
theorem vfr_inv {s:Bool} {a c:List Nat} (h:vfr s a c=true):∃ q:Rat,s=decide (q.num<0)∧a=digs q.num.natAbs∧c=digs q.den:=by
 simp only[vfr,Bool.and_eq_true,beq_iff_eq,decide_eq_true_eq,Bool.not_eq_true',decide_eq_false_iff_not,Bool.and_eq_false_iff] at h
 obtain ⟨⟨⟨⟨h1,h2⟩,h3⟩,h4⟩,h5⟩:=h
 have hc:val c≠0:=fun e=>h3 (by rw[h2,e,digs_zero])
 have hs:(sg s (val a)).natAbs=val a:=by unfold sg; split<;>omega
 refine ⟨⟨sg s (val a),val c,hc,by rw[hs]; exact h5⟩,?_,?_,h2⟩
 ·show s=decide (sg s (val a)<0)
  cases s
  ·simp[sg]
  ·have:val a≠0:=fun e=>by
    rcases h4 with h4 | h4
    ·cases h4
    ·exact h4 (by rw[h1,e,digs_zero])
   simp[sg]; omega
 ·show a=digs (sg s (val a)).natAbs
  rw[hs]; exact h1
theorem e_kind {ox oy:Operand} {s b:Bool} {K:AV→Option Entry→Prop} :
  eBin Try.prog .eql T_fraction_kind ox oy [.agg [bv s,bv b],.agg [bv true,bv true]] K=K (bv (s&&b)) none:=by
 rw[eBin_eql_agg kd_fraction_kind gd_fraction_kind ag_fraction_kind (xs:=[.bool s,.bool b]) (ys:=[.bool true,.bool true]) rfl rfl rfl rfl]
 cases s<;>cases b<;>rfl
theorem valid_frac {s:Bool} {a c:List Nat} {m1 m2:Am.Mode} (ha:ok a) (hc:ok c) (hna:a.length<17179869184) (hnc:c.length<17179869184) (f1:stm m1=m1) (f2:stm m2=m2) :
  SoundCall Try.prog F_f_Valid [.agg [bv s,nl m1 a,nl m2 c]] (bv (vfr s a c)):=by
 have k1:=valid_sound (m:=m1) ha (by omega)
 have k2:=valid_sound (m:=m2) hc (by omega)
 have kg:=gcd_sound (m1:=m1) (m2:=m2) ha hc (by omega) (by omega) f1 f2
 have kf:=fromUint_sound (x:=1) (by decide)
 have hvc:c≠[]→c=digs (val c)→val c≠0:=fun h e h0=>h (by rw[e,h0,digs_zero])
 have hgl:c≠[]→c=digs (val c)→(digs (Nat.gcd (val a) (val c))).length<17179869184:=fun h e=>by
  have h1:val c<B^c.length:=by
   have:=digs_len_le (x:=val c) (n:=c.length)
   rw[← this,← e]; exact Nat.le_refl _
  exact Nat.lt_of_le_of_lt (digs_len_le.2 (Nat.lt_of_le_of_lt (Nat.gcd_le_right _ (Nat.pos_of_ne_zero (hvc h e))) h1)) hnc
 have kc:(digs (Nat.gcd (val a) (val c))).length<17179869184→SoundCall Try.prog F_n_Cmp [nD (Nat.gcd (val a) (val c)),nD 1] (iv (cmpN (Nat.gcd (val a) (val c)) 1)):=fun h=>by
  have:=cmp_sound (m1:=.plain) (m2:=.plain) (ok_digs (Nat.gcd (val a) (val c))) (ok_digs 1) (by omega) (by rw[show digs 1=[1] by decide +kernel]; decide)
  simp only[val_digs] at this
  exact this
 unfold vfr
 generalize Nat.gcd (val a) (val c)=g at *
 generalize val a=x at *
 generalize hy:val c=y at *
 have hkk:SoundCall Try.prog F_f_kindOf [.agg [bv s,nl m1 a,nl m2 c]] (.agg [bv s,bv (decide (a=[]))]):=by
  refine sound' t_f_kindOf (by simp) ?_
  simp[c_f_kindOf,r_f_kindOf]
 have hcl:c=[]→c.length=0:=fun h=>by rw[h]; rfl
 have hcl':c≠[]→¬ c.length=0:=fun h h'=>h (List.length_eq_zero_iff.1 h')
 generalize d1:decide (a=digs x)=b1 at *
 generalize d2:decide (c=digs y)=b2 at *
 refine sound' t_f_Valid (by simp) ?_
 simp[c_f_Valid]
 refine eCall_i k1 (by simp[f1]) (by simp) ?_
 cases b1
 ·simp[r_f_Valid]
 simp
 refine eCall_i k2 (by simp[f2]) (by simp) ?_
 cases b2
 ·simp[r_f_Valid]
 by_cases e3:c=[]
 ·simp[e3,r_f_Valid]
 simp[e3]
 refine eCall_i hkk (by simp[f1,f2]) (by simp) ?_
 have hg:=hgl e3 (of_decide_eq_true d2)
 have hfin:decide (cmpN g 1=0)=(g == 1):=by
  have h2:cmpN g 1=0↔g=1:=by unfold cmpN; split<;>(try split)<;>omega
  simp only[h2]
  by_cases h1:g=1<;>simp[h1]
 generalize decide (a=[])=z at *
 cases s<;>cases z
 all_goals simp[e_kind,r_f_Valid]
 all_goals
  refine eCall_i kg (by simp[f1,f2]) (by simp) ?_
  simp
  refine eCall_i kf (by simp) (by simp) ?_
  simp
  refine eCall_i (kc hg) (by simp) (by simp) ?_
  simp[← hfin]
end Go.Proofs.Ytbgnkodhpbkdoaa

namespace Go.Proofs.Ytbgnkodhpbkdoaa
open Go Go.Am Go.Dig Go.LP
theorem neg_ratR (q:Rat):frA (!decide (q.num<0)&&decide (q.num.natAbs≠0)) q.num.natAbs q.den=frac (-q):=by
 unfold frac
 rw[Rat.neg_num,Rat.neg_den,Int.natAbs_neg]
 have:(!decide (q.num<0)&&decide (q.num.natAbs≠0))=decide (-q.num<0):=by
  by_cases h:q.num<0
  ·have h2:¬ -q.num<0:=by omega
   simp[h]; omega
  ·by_cases h0:q.num.natAbs=0
   ·have h2:¬ -q.num<0:=by omega
    simp[h0]; omega
   ·have h2:-q.num<0:=by omega
    simp[h,h0]; omega
 rw[this]
theorem fromInt_refq {n:Int} (h1:-9223372036854775808≤n) (h2:n<9223372036854775808):SoundCall Try.prog F_p_FromInt [iv n] (frac n):=by
 rw[← int_rat]; exact fromInt_ref h1 h2
theorem cmpR_sub (p q:Rat):sgnR (p-q)=cmpR p q:=by
 unfold sgnR cmpR
 by_cases h1:p<q
 ·have:¬ p-q=0:=by grind
  have h2:p-q<0:=by grind
  simp[h1,this,h2]
 ·by_cases h3:q<p
  ·have:¬ p-q=0:=by grind
   have h2:¬ p-q<0:=by grind
   simp[h1,h3,this,h2]
  ·have:p-q=0:=by grind
   simp[h1,h3,this]
theorem sign_refq {q:Rat}:SoundCall Try.prog F_p_Sign [frac q] (iv (sgnR q)):=by
 unfold sgnR frac
 refine sound' t_p_Sign (by simp) ?_
 by_cases h0:q=0
 ·subst h0
  simp[c_p_Sign,r_p_Sign,digs_zero]
 ·have hn:q.num.natAbs≠0:=fun e=>h0 (Rat.num_eq_zero.1 (by omega))
  have hl0:¬ digs q.num.natAbs=[]:=by rw[digs_eq_nil]; exact hn
  have hl:¬ (digs q.num.natAbs).length=0:=by rw[List.length_eq_zero_iff]; exact hl0
  have hli:¬ ((digs q.num.natAbs).length:Int)=0:=by omega
  by_cases h1:q<0
  ·have h2:=num_neg_iff.2 h1
   simp[c_p_Sign,r_p_Sign,h0,h1,h2]
  ·have h2:¬ q.num<0:=fun h=>h1 (num_neg_iff.1 h)
   simp[c_p_Sign,r_p_Sign,h0,h1,hl,h2]
section
variable {K:Nat} {p q:Rat} (hK:K≤137438953472) (hp:sz K p) (hq:sz K q)
include hK hp
theorem neg_refq:SoundCall Try.prog F_p_Neg [frac p] (frac (-p)):=by
 have h1:=sz_len hp
 rw[← neg_ratR]
 exact neg_ref (by omega) (by omega)
include hq
theorem mul_refq:SoundCall Try.prog F_p_Mul [frac p,frac q] (frac (p*q)):=by
 have h1:=sz_len hp
 have h2:=sz_len hq
 rw[← mul_rat]
 exact mulF_ref (by omega) (by omega) (by omega) (by omega) p.den_nz q.den_nz
theorem add_refq:SoundCall Try.prog F_p_Add [frac p,frac q] (frac (p+q)):=by
 have h1:=sz_len hp
 have h2:=sz_len hq
 rw[← add_rat]
 exact addF_ref (by omega) (by omega) (by omega) (by omega) p.den_nz q.den_nz
theorem sub_refq:SoundCall Try.prog F_p_Sub [frac p,frac q] (frac (p-q)):=by
 have k1:=neg_refq hK hq
 have k2:=add_refq hK hp (sz_neg hq)
 rw[Rat.sub_eq_add_neg]
 obtain ⟨a,ha⟩:∃ a,a=p+-q:=⟨_,rfl⟩
 obtain ⟨b,hb⟩:∃ b,b=-q:=⟨_,rfl⟩
 rw[← ha] at k2 ⊢
 rw[← hb] at k1 k2
 refine sound' t_p_Sub (by simp) ?_
 simp[c_p_Sub]
 refine eCall_i k1 (by simp) (by simp) ?_
 simp
 refine eCall_i k2 (by simp) (by simp) ?_
 simp[r_p_Sub]
theorem cmp_refq:SoundCall Try.prog F_p_Cmp [frac p,frac q] (iv (cmpR p q)):=by
 have k1:=sub_refq hK hp hq
 have k2:=sign_refq (q:=p-q)
 rw[cmpR_sub] at k2
 generalize cmpR p q=c at *
 obtain ⟨a,ha⟩:∃ a,a=p-q:=⟨_,rfl⟩
 rw[← ha] at k1 k2
 refine sound' t_p_Cmp (by simp) ?_
 simp[c_p_Cmp]
 refine eCall_i k1 (by simp) (by simp) ?_
 simp
 refine eCall_i k2 (by simp) (by simp) ?_
 simp[r_p_Cmp]
end
theorem imp_plain {sz:Nat} {m:Am.Mode} {rows:List (List AV)} (h:stm m=m):AV.imp (.list sz m rows) (.list sz .plain rows):=by
 cases m with
 | plain=>exact AV.imp.refl
 | full=>exact imp_full
 | own l=>cases h
theorem digs_one:digs 1=[1]:=by decide +kernel
theorem valid_refq {s:Bool} {a c:List Nat} {m1 m2:Am.Mode} (ha:ok a) (hc:ok c) (hna:a.length<17179869184) (hnc:c.length<17179869184) (f1:stm m1=m1) (f2:stm m2=m2) :
  SoundCall Try.prog F_p_Valid [.agg [bv s,nl m1 a,nl m2 c]] (bv (vfr s a c)):=by
 have k1:=valid_ref (m:=m1) ha (by omega)
 have k2:=valid_ref (m:=m2) hc (by omega)
 have kg:a=digs (val a)→c=digs (val c)→SoundCall Try.prog F_q_GCD [nl m1 a,nl m2 c] (nD (Nat.gcd (val a) (val c))):=fun h1 h2=>by
  have:=gcd_ref (A:=val a) (D:=val c) (by rw[← h1]; omega) (by rw[← h2]; omega)
  unfold nD at this
  rw[← h1,← h2] at this
  exact imp_arg2 (imp_arg2l this (imp_plain f1)) (imp_plain f2)
 have ha0:a=[]→val a=0:=fun h=>by rw[h]; rfl
 have hc1:c=digs (val c)→((val c == 1)=decide (c=[1])):=fun h=>by
  by_cases h1:val c=1
  ·rw[h1,digs_one] at h; rw[h1,decide_eq_true h]; rfl
  ·have:¬ c=[1]:=fun e=>h1 (by rw[e]; rfl)
   simp[h1,this]
 have hgd:∀ g,(g == 1)=decide (digs g=[1]):=fun g=>by
  by_cases h1:g=1
  ·subst h1; simp[digs_one]
  ·have:¬ digs g=[1]:=fun e=>h1 (digs_inj (by rw[e,digs_one]))
   simp[h1,this]
 have hone:∀ l:List Nat,(decide (l=[1]))=(decide (l.length=1)&&decide (l[0]?=some 1)):=fun l=>by
  match l with
  | []=>rfl
  | [z]=>simp
  | _::_::_=>simp
 unfold vfr
 generalize hx:val a=x at *
 generalize hy:val c=y at *
 generalize hg:Nat.gcd x y=g at *
 have hcl':c≠[]→¬ c.length=0:=fun h h'=>h (List.length_eq_zero_iff.1 h')
 generalize d1:decide (a=digs x)=b1 at *
 generalize d2:decide (c=digs y)=b2 at *
 refine sound' t_p_Valid (by simp) ?_
 simp[c_p_Valid]
 refine eCall_i k1 (by simp[f1]) (by simp) ?_
 cases b1
 ·simp[r_p_Valid]
 simp
 refine eCall_i k2 (by simp[f2]) (by simp) ?_
 cases b2
 ·simp[r_p_Valid]
 by_cases e3:c=[]
 ·simp[e3,r_p_Valid]
 by_cases e4:a=[]
 ·have hx0:=ha0 e4
  rw[hx0,Nat.gcd_zero_left] at hg
  have hg1:=hc1 (of_decide_eq_true d2)
  rw[hg] at hg1
  rw[hg1]
  match c,e3 with
  | [z],_ =>
   cases s
   ·by_cases hz:z=1
    ·subst hz; simp[e4,r_p_Valid]
    ·have hz':¬ (z:Int)=1:=by omega
     simp[e4,hz,hz',r_p_Valid]
   ·simp[e4,r_p_Valid]
  | z::z2::l,_ =>
   have hl:¬ ((l.length:Int)+1+1=1):=by omega
   have hl2:¬ ((l.length:Int)+1+1=0):=by omega
   cases s<;>simp[e4,hl,hl2,r_p_Valid]
 ·have kg':=kg (of_decide_eq_true d1) (of_decide_eq_true d2)
  rw[hgd g]
  have hl0:¬ (a.length:Int)=0:=by
   have:a.length≠0:=fun h=>e4 (List.length_eq_zero_iff.1 h)
   omega
  simp[e3,e4]
  refine eCall_i kg' (by simp[f1,f2]) (by simp) ?_
  match hl:digs g with
  | []=>simp[hl,r_p_Valid]
  | [z] =>
   by_cases hz:z=1
   ·subst hz; simp[hl,r_p_Valid]
   ·have hz':¬ (z:Int)=1:=by omega
    simp[hl,hz,hz',r_p_Valid]
  | z::z2::l =>
   have hl2:¬ ((l.length:Int)+1+1=1):=by omega
   simp[hl,hl2,r_p_Valid]
end Go.Proofs.Ytbgnkodhpbkdoaa

namespace Go.Proofs.Ytbgnkodhpbkdoaa
open Go Go.Am Go.Dig Go.LP
theorem ex_eq (x:AV):∃ y:AV,y=x:=⟨_,rfl⟩
noncomputable def f0 (q:Rat):AV:=Classical.choose (ex_eq (bv (decide (q.num<0))))
noncomputable def f1 (q:Rat):AV:=Classical.choose (ex_eq (nD q.num.natAbs))
noncomputable def f2 (q:Rat):AV:=Classical.choose (ex_eq (nD q.den))
theorem f0_eq (q:Rat):f0 q=bv (decide (q.num<0)):=Classical.choose_spec (ex_eq _)
theorem f1_eq (q:Rat):f1 q=nD q.num.natAbs:=Classical.choose_spec (ex_eq _)
theorem f2_eq (q:Rat):f2 q=nD q.den:=Classical.choose_spec (ex_eq _)
noncomputable def fr (q:Rat):List AV:=[f0 q,f1 q,f2 q]
@[simp] theorem fr_fold (q:Rat):[f0 q,f1 q,f2 q]=fr q:=rfl
theorem fr_eq (q:Rat):fr q=[bv (decide (q.num<0)),nD q.num.natAbs,nD q.den]:=by unfold fr; rw[f0_eq,f1_eq,f2_eq]
noncomputable abbrev fq (q:Rat):AV:=.agg (fr q)
theorem frac_fq (q:Rat):frac q=fq q:=by unfold fq; rw[fr_eq]
abbrev zz:List AV:=[.val (.bool false),.list 0 .full [],.list 0 .full []]
@[simp] theorem f0_rf (q:Rat):rf (f0 q)=true:=by rw[f0_eq]; rfl
@[simp] theorem f0_strip (q:Rat):strip (f0 q)=f0 q:=by rw[f0_eq]; rfl
@[simp] theorem f0_dg (q:Rat) (l:Nat):dg l (f0 q)=f0 q:=by rw[f0_eq]; simp
@[simp] theorem f0_frz (q:Rat) (l:Nat) (e:Entry):frz l e (f0 q)=f0 q:=by rw[f0_eq]; rfl
@[simp] theorem f0_rn (q:Rat) (a b:Nat):rn a b (f0 q)=f0 q:=by rw[f0_eq]; rfl
@[simp] theorem f0_low (q:Rat) (M:Nat):Am.low M (f0 q)=true:=by rw[f0_eq]; rfl
@[simp] theorem f0_refs (q:Rat) (k:Nat):refsTo k (f0 q)=false:=by rw[f0_eq]; rfl
@[simp] theorem f0_tok (q:Rat) (k:Nat):tokB k (f0 q)=false:=by rw[f0_eq]; rfl
@[simp] theorem f1_rf (q:Rat):rf (f1 q)=true:=by rw[f1_eq]; rfl
@[simp] theorem f1_strip (q:Rat):strip (f1 q)=f1 q:=by rw[f1_eq]; rfl
@[simp] theorem f1_dg (q:Rat) (l:Nat):dg l (f1 q)=f1 q:=by rw[f1_eq]; simp
@[simp] theorem f1_frz (q:Rat) (l:Nat) (e:Entry):frz l e (f1 q)=f1 q:=by rw[f1_eq]; rfl
@[simp] theorem f1_rn (q:Rat) (a b:Nat):rn a b (f1 q)=f1 q:=by rw[f1_eq]; rfl
@[simp] theorem f1_low (q:Rat) (M:Nat):Am.low M (f1 q)=true:=by rw[f1_eq]; rfl
@[simp] theorem f1_refs (q:Rat) (k:Nat):refsTo k (f1 q)=false:=by rw[f1_eq]; rfl
@[simp] theorem f1_tok (q:Rat) (k:Nat):tokB k (f1 q)=false:=by rw[f1_eq]; rfl
@[simp] theorem f2_rf (q:Rat):rf (f2 q)=true:=by rw[f2_eq]; rfl
@[simp] theorem f2_strip (q:Rat):strip (f2 q)=f2 q:=by rw[f2_eq]; rfl
@[simp] theorem f2_dg (q:Rat) (l:Nat):dg l (f2 q)=f2 q:=by rw[f2_eq]; simp
@[simp] theorem f2_frz (q:Rat) (l:Nat) (e:Entry):frz l e (f2 q)=f2 q:=by rw[f2_eq]; rfl
@[simp] theorem f2_rn (q:Rat) (a b:Nat):rn a b (f2 q)=f2 q:=by rw[f2_eq]; rfl
@[simp] theorem f2_low (q:Rat) (M:Nat):Am.low M (f2 q)=true:=by rw[f2_eq]; rfl
@[simp] theorem f2_refs (q:Rat) (k:Nat):refsTo k (f2 q)=false:=by rw[f2_eq]; rfl
@[simp] theorem f2_tok (q:Rat) (k:Nat):tokB k (f2 q)=false:=by rw[f2_eq]; rfl
@[simp] theorem fr_len {q:Rat}:(fr q).length=3:=by simp[fr_eq]
@[simp] theorem fr_rf {q:Rat}:(fr q).all rf=true:=by rw[fr_eq]; simp
@[simp] theorem fr_strip {q:Rat}:(fr q).map strip=fr q:=by rw[fr_eq]; simp
@[simp] theorem fr_dg {q:Rat} {l:Nat}:(fr q).map (dg l)=fr q:=by rw[fr_eq]; simp
@[simp] theorem fr_frz {q:Rat} {l:Nat} {e:Entry}:(fr q).map (frz l e)=fr q:=by rw[fr_eq]; rfl
@[simp] theorem fr_rn {q:Rat} {a b:Nat}:(fr q).map (rn a b)=fr q:=by rw[fr_eq]; rfl
@[simp] theorem fr_low {q:Rat} {M:Nat}:(fr q).all (Am.low M)=true:=by rw[fr_eq]; rfl
@[simp] theorem fr_ref {q:Rat} {k:Nat}:anyRef k (fr q)=false:=by rw[fr_eq]; simp
@[simp] theorem fr_tok {q:Rat} {k:Nat}:(fr q).any (tokB k)=false:=by rw[fr_eq]; rfl
@[simp] theorem goLoad_fr {q:Rat}:goLoad (fr q) 0 (some 3)=some (fq q):=by
 rw[goLoad_all fr_len fr_rf,fr_strip]
@[simp] theorem splice_fr {q:Rat} {a b c:AV}:splice [a,b,c] 0 (fr q)=fr q:=by rw[fr_eq]; simp[splice]
@[simp] theorem splice_frr {p q:Rat}:splice (fr p) 0 (fr q)=fr q:=by simp[splice]
@[simp] theorem splice_tab {q:Rat} {a b c d e x y z g h:AV}:splice [a,b,c,d,e,x,y,z,g,h] 5 (fr q)=[a,b,c,d,e,f0 q,f1 q,f2 q,g,h]:=by unfold fr; simp[splice,-fr_fold]
@[simp] theorem fr_drop {q:Rat}:(fr q).drop 3=[]:=by rw[fr_eq]; rfl
section
variable {K:Nat} {p q:Rat}
theorem fromInt_q {n:Int} (h1:-9223372036854775808≤n) (h2:n<9223372036854775808):SoundCall Try.prog F_f_FromInt [iv n] (fq n):=by rw[← frac_fq]; exact fromInt_frac h1 h2
theorem sign_q:SoundCall Try.prog F_f_Sign [fq q] (iv (sgnR q)):=by rw[← frac_fq]; exact sign_frac
theorem fromInt_r {n:Int} (h1:-9223372036854775808≤n) (h2:n<9223372036854775808):SoundCall Try.prog F_p_FromInt [iv n] (fq n):=by rw[← frac_fq]; exact fromInt_refq h1 h2
theorem sign_r:SoundCall Try.prog F_p_Sign [fq q] (iv (sgnR q)):=by rw[← frac_fq]; exact sign_refq
variable (hK:K≤137438953472) (hp:sz K p) (hq:sz K q)
include hK hp
theorem neg_q:SoundCall Try.prog F_f_Neg [fq p] (fq (-p)):=by simp only[← frac_fq]; exact neg_frac hK hp
include hq
theorem mul_q:SoundCall Try.prog F_f_Mul [fq p,fq q] (fq (p*q)):=by simp only[← frac_fq]; exact mul_frac hK hp hq
theorem add_q:SoundCall Try.prog F_f_Add [fq p,fq q] (fq (p+q)):=by simp only[← frac_fq]; exact add_frac hK hp hq
theorem sub_q:SoundCall Try.prog F_f_Sub [fq p,fq q] (fq (p-q)):=by simp only[← frac_fq]; exact sub_frac hK hp hq
theorem mul_r:SoundCall Try.prog F_p_Mul [fq p,fq q] (fq (p*q)):=by simp only[← frac_fq]; exact mul_refq hK hp hq
theorem add_r:SoundCall Try.prog F_p_Add [fq p,fq q] (fq (p+q)):=by simp only[← frac_fq]; exact add_refq hK hp hq
theorem sub_r:SoundCall Try.prog F_p_Sub [fq p,fq q] (fq (p-q)):=by simp only[← frac_fq]; exact sub_refq hK hp hq
theorem div_q (h:q≠0):SoundCall Try.prog F_f_Div [fq p,fq q] (.tuple [fq (p/q),iv 0]):=by simp only[← frac_fq]; exact div_frac hK hp hq h
theorem cmp_q:SoundCall Try.prog F_f_Cmp [fq p,fq q] (iv (cmpR p q)):=by simp only[← frac_fq]; exact cmp_frac hK hp hq
theorem cmp_r:SoundCall Try.prog F_p_Cmp [fq p,fq q] (iv (cmpR p q)):=by simp only[← frac_fq]; exact cmp_refq hK hp hq
end
noncomputable def fZ (f:Nat→Rat) (k n:Nat):List (List AV):=(List.range n).map fun j=>if j<k then fr (f j) else zz
noncomputable def fR (f:Nat→Rat) (n:Nat):List (List AV):=(List.range n).map fun j=>fr (f j)
noncomputable abbrev fL (f:Nat→Rat) (n:Nat):AV:=.list 3 .plain (fR f n)
@[simp] theorem fR_len {f:Nat→Rat} {n:Nat}:(fR f n).length=n:=by simp[fR]
@[simp] theorem fZ_len {f:Nat→Rat} {k n:Nat}:(fZ f k n).length=n:=by simp[fZ]
theorem fR_get {f:Nat→Rat} {n i:Nat} (h:i<n):(fR f n)[i]?=some (fr (f i)):=by simp[fR,h]
theorem fZ_get {f:Nat→Rat} {k n i:Nat} (h:i<n) (hk:i<k):(fZ f k n)[i]?=some (fr (f i)):=by simp[fZ,h,hk]
theorem fZ_get' {f:Nat→Rat} {k n i:Nat} (h:i<n) (hk:¬ i<k):(fZ f k n)[i]?=some zz:=by simp[fZ,h,hk]
@[simp] theorem fR_getE {f:Nat→Rat} {n i:Nat} {h:i<(fR f n).length}:(fR f n)[i]=fr (f i):=by simp[fR]
@[simp] theorem fZ_getK {f:Nat→Rat} {n k:Nat} {h:k<(fZ f k n).length}:(fZ f k n)[k]=zz:=by simp[fZ]
theorem fR_congr {f g:Nat→Rat} {n:Nat} (h:∀ i,i<n→f i=g i):fR f n=fR g n:=by
 unfold fR
 exact List.map_congr_left fun i hi=>by rw[h i (by simpa using hi)]
theorem fR_set {f:Nat→Rat} {n i:Nat} {x:Rat}:(fR f n).set i (fr x)=fR (upd f i x) n:=by
 apply List.ext_getElem?
 intro j
 rw[List.getElem?_set]
 by_cases hij:i=j
 ·subst hij
  rw[if_pos rfl,fR_len]
  by_cases hi:i<n
  ·rw[if_pos hi,fR_get hi]; simp[upd]
  ·rw[if_neg hi]; simp[fR,hi]
 ·rw[if_neg hij]
  by_cases hj:j<n
  ·rw[fR_get hj,fR_get hj]; simp[upd,Ne.symm hij]
  ·simp[fR,hj]
theorem fZ_set {f:Nat→Rat} {k n:Nat} (hk:k<n):(fZ f k n).set k (fr (f k))=fZ f (k+1) n:=by
 apply List.ext_getElem?
 intro j
 rw[List.getElem?_set]
 by_cases hij:k=j
 ·subst hij
  rw[if_pos rfl,fZ_len,if_pos hk,fZ_get hk (by omega)]
 ·rw[if_neg hij]
  by_cases hj:j<n
  ·by_cases hjk:j<k
   ·rw[fZ_get hj hjk,fZ_get hj (by omega)]
   ·rw[fZ_get' hj hjk,fZ_get' hj (by omega)]
  ·simp[fZ,hj]
theorem fZ_zero {f:Nat→Rat} {n:Nat}:List.replicate n zz=fZ f 0 n:=by
 apply List.ext_getElem?
 intro j
 by_cases h:j<n
 ·rw[fZ_get' h (by omega)]; simp[h]
 ·simp[fZ,h]
theorem fZ_full {f:Nat→Rat} {n:Nat}:fZ f n n=fR f n:=by
 unfold fZ fR
 exact List.map_congr_left fun i hi=>by rw[if_pos (by simpa using hi)]
theorem fR_succ {f:Nat→Rat} {n:Nat}:fR f (n+1)=fR f n++[fr (f n)]:=by simp[fR,List.range_succ]
theorem fR_all {f:Nat→Rat} {n:Nat} {g:List AV→Bool} (h:∀ q,g (fr q)=true):(fR f n).all g=true :=
 List.all_eq_true.2 fun r hr=>by
  obtain ⟨j,_,rfl⟩:=List.mem_map.1 hr
  exact h _
theorem fR_map {f:Nat→Rat} {n:Nat} {g:List AV→List AV} (h:∀ q,g (fr q)=fr q):(fR f n).map g=fR f n :=
 map_self fun r hr=>by
  obtain ⟨j,_,rfl⟩:=List.mem_map.1 hr
  exact h _
@[simp] theorem fR_rf {f:Nat→Rat} {n:Nat}:rowsRf (fR f n)=true:=fR_all fun _=>fr_rf
@[simp] theorem fR_st {f:Nat→Rat} {n:Nat}:rowsSt (fR f n)=fR f n:=fR_map fun _=>fr_strip
@[simp] theorem fR_dg {f:Nat→Rat} {n l:Nat}:rowsDg l (fR f n)=fR f n:=fR_map fun _=>fr_dg
@[simp] theorem fR_frz {f:Nat→Rat} {n l:Nat} {e:Entry}:((fR f n).map fun r=>r.map (frz l e))=fR f n:=fR_map fun _=>fr_frz
@[simp] theorem fR_rn {f:Nat→Rat} {n a b:Nat}:((fR f n).map fun r=>r.map (rn a b))=fR f n:=fR_map fun _=>fr_rn
@[simp] theorem fR_low {f:Nat→Rat} {n M:Nat}:((fR f n).all fun r=>r.all (Am.low M))=true:=fR_all fun _=>fr_low
theorem anyRefR_all {k:Nat}:∀ {rows:List (List AV)},(∀ r∈rows,anyRef k r=false)→anyRefR k rows=false
 | [],_=>rfl
 | r::rows,h=>by simp[anyRefR,h r (by simp),anyRefR_all (rows:=rows) fun r hr=>h r (by simp[hr])]
@[simp] theorem fR_ref {f:Nat→Rat} {n k:Nat}:anyRefR k (fR f n)=false:=anyRefR_all fun r hr=>by
 obtain ⟨j,_,rfl⟩:=List.mem_map.1 hr
 exact fr_ref
@[simp] theorem fR_nil {f:Nat→Rat} {n:Nat}:(fR f n=[])=(n=0):=by
 rw[← List.length_eq_zero_iff,fR_len]
@[simp] theorem fR_take {f:Nat→Rat} {n:Nat}:(fR f n).take n=fR f n:=List.take_of_length_le (by simp)
@[simp] theorem fR_any {f:Nat→Rat} {n k:Nat}:((fR f n).any fun r=>r.any (tokB k))=false :=
 List.any_eq_false.2 fun r hr=>by
  obtain ⟨j,_,rfl⟩:=List.mem_map.1 hr
  simp
theorem sgnR_zero {q:Rat}:sgnR q=0↔q=0:=by
 unfold sgnR; split
 ·simp[*]
 ·rename_i h; split<;>simp[h]
theorem sgnR_neg {q:Rat}:sgnR q<0↔q<0:=by
 unfold sgnR; split
 ·rename_i h; subst h; simp
 ·split<;>simp[*]
theorem sgnR_pos {q:Rat}:0<sgnR q↔0<q:=by
 unfold sgnR; split
 ·rename_i h; subst h; simp
 ·rename_i h
  split
  ·rename_i h2; simp; grind
  ·rename_i h2; simp; grind
theorem cmpR_lt {p q:Rat}:cmpR p q<0↔p<q:=by
 unfold cmpR; split
 ·simp[*]
 ·split<;>simp[*]
theorem cmpR_gt {p q:Rat}:0<cmpR p q↔q<p:=by
 unfold cmpR; split
 ·simp; grind
 ·split<;>simp[*]
theorem cmpR_eq0 {p q:Rat}:cmpR p q=0↔p=q:=by
 unfold cmpR; split
 ·simp; grind
 ·split
  ·simp; grind
  ·simp; grind
end Go.Proofs.Ytbgnkodhpbkdoaa

namespace Go.Proofs.Ytbgnkodhpbkdoaa
open Go Go.Am Go.Dig Go.LP
def elm (l:Nat→Rat) (f:Rat) (c:Nat) (pr:Nat→Rat) (j:Nat):Rat:=(if j=c then 0 else l j)-f*pr j
noncomputable def stEl (l pr:Nat→Rat) (n c:Nat) (b pb f:Rat) (k:Nat):St :=
 {env:=[(2,iv c),(3,fL pr n),(6,.ptr 6 0),(9,.ptr 9 0),(11,.ptr 11 0),(12,.ptr 12 0),(13,.sl 27 3 0 n),(28,fL l n),(29,iv n),(30,iv k)],
  sto:=[(6,.var (fr b)),(9,.var (fr pb)),(11,.var zz),(12,.var (fr f)),(27,.arr 3 (fZ (elm l f c pr) k n))]}
theorem eliminate_sound {n c K:Nat} {l pr:Nat→Rat} {b pb:Rat} (hn:n<1000000) (hc:c<n) (hK:K≤30000000000) (hl:∀ j,j<n→sz K (l j)) (hp:∀ j,j<n→sz K (pr j)) (hb:sz K b) (hpb:sz K pb) :
  SoundCall Try.prog F_s_eliminate [fL l n,fq b,iv c,fL pr n,fq pb] (.tuple [fL (elm l (l c) c pr) n,fq (b-l c*pb)]):=by
 obtain ⟨f,hf⟩:∃ f,l c=f:=⟨_,rfl⟩
 have szf:sz K f:=by rw[← hf]; exact hl c hc
 rw[hf]
 have e0:(c:Int)<n:=by omega
 have ks:=sign_q (q:=f)
 have k1:=mul_q (by omega) szf hpb
 have k2:=sub_q (K:=K+K) (by omega) (sz_mono hb (by omega)) (sz_mul szf hpb)
 refine sound' t_s_eliminate (by simp) ?_
 simp[c_s_eliminate,e0,hc,hf]
 refine eCall_i ks (by simp) (by simp) ?_
 by_cases h0:f=0
 ·have h1:sgnR f=0:=sgnR_zero.2 h0
  have h2:fR (elm l f c pr) n=fR l n:=fR_congr fun j hj=>by
   unfold elm
   rw[h0]
   split
   ·rename_i e; subst e; rw[hf,h0]; grind
   ·grind
  have h3:b-f*pb=b:=by rw[h0]; grind
  simp[h1,r_s_eliminate,h2,h3]
 ·have h1:¬ sgnR f=0:=fun h=>h0 (sgnR_zero.1 h)
  simp[h1,eMk]
  refine ⟨by omega,by omega,?_⟩
  rw[fZ_zero (f:=elm l f c pr)]
  refine awp_forW (stEl l pr n c b pb f) (fun _=>True) n (by simp[stEl]) trivial (fun k hk _=>?_) (fun _=>?_)
  ·have e:(k:Int)<n:=by omega
   have w:=wrap_succ (k:=k) (by omega)
   have hs:=fZ_set (f:=elm l f c pr) hk
   have g1:=mul_q (by omega) szf (hp k hk)
   have g2:=neg_q (K:=K+K) (by omega) (sz_mul szf (hp k hk))
   have g3:=sign_q (q:=pr k)
   have g4:=sub_q (K:=K+K) (by omega) (sz_mono (hl k hk) (by omega)) (sz_mul szf (hp k hk))
   by_cases hkc:k=c
   ·subst hkc
    have ev:elm l f k pr k=-(f*pr k):=by unfold elm; rw[if_pos rfl]; grind
    rw[ev] at hs
    simp[c_s_eliminate_l0,stEl,e,hk]
    refine eCall_i g1 (by simp) (by simp) ?_
    simp
    refine eCall_i g2 (by simp) (by simp) ?_
    simp[hk,w,hs,stEl]
   ·have ec:¬ (k:Int)=c:=by omega
    have ev:elm l f c pr k=l k-f*pr k:=by unfold elm; rw[if_neg hkc]
    rw[ev] at hs
    simp[c_s_eliminate_l0,stEl,e,hk,ec]
    refine eCall_i g3 (by simp) (by simp) ?_
    by_cases hz:pr k=0
    ·have z1:sgnR (pr k)=0:=sgnR_zero.2 hz
     have z2:l k-f*pr k=l k:=by rw[hz]; grind
     rw[z2] at hs
     simp[z1,hk,w,hs,stEl]
    ·have z1:¬ sgnR (pr k)=0:=fun h=>hz (sgnR_zero.1 h)
     simp[z1,hk]
     refine eCall_i g1 (by simp) (by simp) ?_
     simp
     refine eCall_i g4 (by simp) (by simp) ?_
     simp[hk,w,hs,stEl]
  ·simp[c_s_eliminate_l0,c_s_eliminate_k1,r_s_eliminate,stEl,fZ_full]
   refine eCall_i k1 (by simp) (by simp) ?_
   simp
   refine eCall_i k2 (by simp) (by simp) ?_
   simp
end Go.Proofs.Ytbgnkodhpbkdoaa

namespace Go.Proofs.Ytbgnkodhpbkdoaa
open Go Go.Am Go.Dig Go.LP
def mR (g:Nat→List AV) (n:Nat):List (List AV):=(List.range n).map g
section
variable {g h:Nat→List AV} {n i:Nat}
@[simp] theorem mR_len:(mR g n).length=n:=by simp[mR]
theorem mR_get (hi:i<n):(mR g n)[i]?=some (g i):=by simp[mR,hi]
@[simp] theorem mR_getE {hi:i<(mR g n).length}:(mR g n)[i]=g i:=by simp[mR]
theorem mR_congr (e:∀ i,i<n→g i=h i):mR g n=mR h n:=List.map_congr_left fun i hi=>e i (by simpa using hi)
theorem mR_set {x:List AV}:(mR g n).set i x=mR (upd g i x) n:=by
 apply List.ext_getElem?
 intro j
 rw[List.getElem?_set]
 by_cases hij:i=j
 ·subst hij
  rw[if_pos rfl,mR_len]
  by_cases hi:i<n
  ·rw[if_pos hi,mR_get hi]; simp[upd]
  ·rw[if_neg hi]; simp[mR,hi]
 ·rw[if_neg hij]
  by_cases hj:j<n
  ·rw[mR_get hj,mR_get hj]; simp[upd,Ne.symm hij]
  ·simp[mR,hj]
theorem mR_succ:mR g (n+1)=mR g n++[g n]:=by simp[mR,List.range_succ]
theorem mR_all {f:List AV→Bool} (h:∀ i,f (g i)=true):(mR g n).all f=true :=
 List.all_eq_true.2 fun r hr=>by
  obtain ⟨j,_,rfl⟩:=List.mem_map.1 hr
  exact h _
theorem mR_map {f:List AV→List AV} (h:∀ i,f (g i)=g i):(mR g n).map f=mR g n :=
 map_self fun r hr=>by
  obtain ⟨j,_,rfl⟩:=List.mem_map.1 hr
  exact h _
theorem mR_ref {k:Nat} (h:∀ i,anyRef k (g i)=false):anyRefR k (mR g n)=false:=anyRefR_all fun r hr=>by
 obtain ⟨j,_,rfl⟩:=List.mem_map.1 hr
 exact h _
end
def nR (f:Nat→Nat) (n:Nat):List (List AV):=mR (fun i=>[iv (f i)]) n
noncomputable def cR (a:Nat→Nat→Rat) (cl:Nat→Nat) (n:Nat):List (List AV):=mR (fun i=>[fL (a i) (cl i)]) n
section
variable {f:Nat→Nat} {a:Nat→Nat→Rat} {cl:Nat→Nat} {n i k:Nat} {e:Entry}
@[simp] theorem nR_len:(nR f n).length=n:=mR_len
@[simp] theorem cR_len:(cR a cl n).length=n:=mR_len
@[simp] theorem nR_getE {hi:i<(nR f n).length}:(nR f n)[i]=[iv (f i)]:=mR_getE
@[simp] theorem cR_getE {hi:i<(cR a cl n).length}:(cR a cl n)[i]=[fL (a i) (cl i)]:=mR_getE
theorem nR_set {x:Nat}:(nR f n).set i [iv x]=nR (upd f i x) n:=by
 unfold nR
 rw[mR_set]
 exact mR_congr fun j _=>by unfold upd; split<;>rfl
theorem cR_set {x:Nat→Rat} {l:Nat}:(cR a cl n).set i [fL x l]=cR (upd a i x) (upd cl i l) n:=by
 unfold cR
 rw[mR_set]
 exact mR_congr fun j _=>by unfold upd; split<;>rfl
theorem cR_congr {a':Nat→Nat→Rat} {cl':Nat→Nat} (h:∀ i,i<n→cl i=cl' i∧∀ j,j<cl i→a i j=a' i j):cR a cl n=cR a' cl' n :=
 mR_congr fun i hi=>by
  obtain ⟨h1,h2⟩:=h i hi
  rw[← h1,show fL (a i) (cl i)=fL (a' i) (cl i) from congrArg _ (fR_congr h2)]
@[simp] theorem nR_frz:((nR f n).map fun r=>r.map (frz k e))=nR f n:=mR_map fun _=>rfl
@[simp] theorem cR_frz:((cR a cl n).map fun r=>r.map (frz k e))=cR a cl n:=mR_map fun _=>by simp
@[simp] theorem nR_dg:rowsDg k (nR f n)=nR f n:=mR_map fun _=>by simp
@[simp] theorem cR_dg:rowsDg k (cR a cl n)=cR a cl n:=mR_map fun _=>by simp
@[simp] theorem nR_ref:anyRefR k (nR f n)=false:=mR_ref fun _=>by simp
@[simp] theorem cR_ref:anyRefR k (cR a cl n)=false:=mR_ref fun _=>by simp
@[simp] theorem nR_rf:rowsRf (nR f n)=true:=mR_all fun _=>by simp
@[simp] theorem cR_rf:rowsRf (cR a cl n)=true:=mR_all fun _=>by simp
@[simp] theorem nR_st:rowsSt (nR f n)=nR f n:=mR_map fun _=>by simp
@[simp] theorem cR_st:rowsSt (cR a cl n)=cR a cl n:=mR_map fun _=>by simp
end
end Go.Proofs.Ytbgnkodhpbkdoaa

namespace Go.Proofs.Ytbgnkodhpbkdoaa
open Go Go.Am Go.Dig Go.LP
def rest (ρ:List (Nat × Entry)):Prop:=∀ p∈ρ,(p.1<1000∨(3000≤p.1∧p.1<4000))∧lowE 1000 p.2=true
def far (k:Nat):Bool:=decide ((1000≤k∧k<3000)∨4000≤k)
section
variable {ρ:List (Nat × Entry)} {l:List (Nat × Entry)} {k:Nat} {e:Entry}
theorem rest_lk (h:rest ρ) (hk:far k=true):lk ρ k=none:=by
 have hk:(1000≤k∧k<3000)∨4000≤k:=of_decide_eq_true hk
 cases hl:lk ρ k with
 | none=>rfl
 | some e=>have:=(h _ (lk_mem hl)).1; simp at this; omega
theorem lk_app {_l':List (Nat × Entry)} (h:lk ρ k=none):lk (ρ++l) k=lk l k:=by
 induction ρ with
 | nil=>rfl
 | cons p ρ ih =>
  obtain ⟨m,x⟩:=p
  simp only[lk,List.cons_append] at h ⊢
  split at h
  ·cases h
  ·rename_i hne; rw[if_neg hne]; exact ih h
theorem rlk (h:rest ρ) (hk:far k=true):lk (ρ++l) k=lk l k:=lk_app (_l':=[]) (rest_lk h hk)
theorem rpt (h:rest ρ) (hk:far k=true):pt (ρ++l) k e=ρ++pt l k e:=by
 have:=rest_lk h hk
 clear h
 induction ρ with
 | nil=>rfl
 | cons p ρ ih =>
  obtain ⟨m,x⟩:=p
  simp only[lk] at this
  split at this
  ·cases this
  ·rename_i hne; simp only[List.cons_append,pt]; rw[if_neg hne,ih this]
theorem del_app {D:List Nat}:del D (ρ++l)=del D ρ++del D l:=by
 induction ρ with
 | nil=>rfl
 | cons p ρ ih =>
  obtain ⟨m,x⟩:=p
  simp only[List.cons_append,del]
  split
  ·exact ih
  ·rw[ih]; rfl
theorem rdel0 {D:List Nat} (h:rest ρ) (hD:D.all far=true):del D ρ=ρ:=by
 induction ρ with
 | nil=>rfl
 | cons p ρ ih =>
  obtain ⟨m,x⟩:=p
  simp only[del]
  have h1:=(h (m,x) (by simp)).1
  have:D.elem m=false:=by
   cases hc:D.elem m with
   | false=>rfl
   | true=>have:=List.all_eq_true.1 hD m (by simpa using hc); simp[far] at this h1; omega
  rw[this,ih fun p hp=>h p (by simp[hp])]; rfl
theorem rdel {D:List Nat} (h:rest ρ) (hD:D.all far=true):del D (ρ++l)=ρ++del D l:=by rw[del_app,rdel0 h hD]
theorem rest_low (h:rest ρ) (hk:1000≤k):noRefS k ρ=true:=by
 induction ρ with
 | nil=>rfl
 | cons p ρ ih =>
  obtain ⟨m,x⟩:=p
  have h1:=(h (m,x) (by simp)).2
  simp only[noRefS,lowE_refs hk h1,ih fun p hp=>h p (by simp[hp])]; rfl
theorem noRefS_app:noRefS k (ρ++l)=(noRefS k ρ&&noRefS k l):=by
 induction ρ with
 | nil=>rfl
 | cons p ρ ih =>
  obtain ⟨m,x⟩:=p
  simp only[List.cons_append,noRefS,ih,Bool.and_assoc]
theorem rnoRef (h:rest ρ) (hk:1000≤k):noRefS k (ρ++l)=noRefS k l:=by rw[noRefS_app,rest_low h hk]; rfl
theorem rfrz {e0:Entry} (h:rest ρ) (hk:1000≤k):((ρ++l).map fun p=>(p.1,frzE k e0 p.2))=ρ++l.map fun p=>(p.1,frzE k e0 p.2):=by
 rw[List.map_append]
 congr 1
 exact map_self fun p hp=>by rw[lowE_frz hk (h p hp).2]
theorem frzE_var {c:List AV}:frzE k e (.var c)=.var (c.map (frz k e)):=rfl
theorem frzE_uarr {n:Nat} {r:List (List AV)}:frzE k e (.uarr n r)=.uarr n (r.map fun r=>r.map (frz k e)):=rfl
theorem rfrz0 {e0:Entry} (h:rest ρ) (hk:1000≤k):(ρ.map fun p=>(p.1,frzE k e0 p.2))=ρ:=map_self fun p hp=>by rw[lowE_frz hk (h p hp).2]
theorem rdg0 (h:rest ρ) (hk:1000≤k):(ρ.map fun p=>(p.1,dgE k p.2))=ρ:=map_self fun p hp=>by rw[lowE_dg hk (h p hp).2]
end
theorem eno {k:Nat} {f:List (Nat × AV)} (h:lowF 2000 f) (hk:2000≤k):noRef k f=true:=lowF_noRef hk h
theorem ono {k:Nat} {f:List (List (Nat × AV))} (h:lowO 2000 f) (hk:2000≤k):noRefO k f=true:=lowO_noRef hk h
theorem efrz {k:Nat} {e:Entry} {f:List (Nat × AV)} (h:lowF 2000 f) (hk:2000≤k):(f.map fun p=>(p.1,frz k e p.2))=f:=lowF_frz hk h
theorem ofrz {k:Nat} {e:Entry} {f:List (List (Nat × AV))} (h:lowO 2000 f) (hk:2000≤k):(f.map fun f=>f.map fun p=>(p.1,frz k e p.2))=f:=lowO_frz hk h
theorem edg {k:Nat} {f:List (Nat × AV)} (h:lowF 2000 f) (hk:2000≤k):(f.map fun p=>(p.1,dg k p.2))=f:=lowF_dg hk h
theorem odg {k:Nat} {f:List (List (Nat × AV))} (h:lowO 2000 f) (hk:2000≤k):(f.map fun f=>f.map fun p=>(p.1,dg k p.2))=f:=lowO_dg hk h
noncomputable abbrev tC (n m:Nat) (d:Dict):List AV:=[iv n,iv m,.us 1961 1 0 m,.us 1972 3 0 m,fL d.cst d.c,f0 d.v,f1 d.v,f2 d.v,.us 1987 1 0 m,.us 2029 1 0 d.c]
noncomputable def tL (n m:Nat) (d:Dict):List (Nat × Entry) :=
 [(1015,.var (tC n m d)),(1961,.uarr 1 (cR d.a (fun _=>d.c) m)),(1972,.uarr 3 (fR d.b m)),(1987,.uarr 1 (nR d.bas m)),(2029,.uarr 1 (nR d.fre d.c))]
@[simp] theorem goLoad_tab {q:Rat} {a b c d e g h:AV}:goLoad [a,b,c,d,e,f0 q,f1 q,f2 q,g,h] 5 (some 3)=some (fq q):=by
 simp[goLoad]
def entE (d:Dict):Nat→Int
 | 0=>-1
 | k+1=>if 0<d.cst k∧(entE d k<0∨d.fre k<d.fre (entE d k).toNat) then k else entE d k
theorem entE_lt (d:Dict):∀ k,-1≤entE d k∧entE d k<k
 | 0=>by simp[entE]
 | k+1=>by have:=entE_lt d k; simp only[entE]; split<;>omega
noncomputable def stEn (n m:Nat) (d:Dict) (ρ:List (Nat × Entry)) (out:List (List (Nat × AV))) (k:Nat):St :=
 {env:=[(0,.ptr 1015 0),(3,iv (entE d k)),(9,.us 2029 1 0 d.c),(10,iv d.c),(11,iv k)],sto:=ρ++tL n m d,out:=out,base:=5000}
theorem enteringI {n m:Nat} {d:Dict} {ρ:List (Nat × Entry)} {s:St} {K:AV→St→Prop} (hs:s.sto=ρ++tL n m d) (hρ:rest ρ) (hc:d.c<1000000) (h:K (iv (entE d d.c)) s) :
  CallI Try.prog F__tb_entering [.ptr 1015 0] s K:=by
 obtain ⟨env,σ,out,base⟩:=s
 simp only at hs
 subst hs
 refine soundI' 5000 t__tb_entering (by simp) ?_
 simp[c__tb_entering,tL,rlk hρ,far]
 refine awp_forW (stEn n m d ρ (env::out)) (fun _=>True) d.c (by simp[stEn,tL,entE]) trivial (fun k hk _=>?_) (fun _=>?_)
 ·have e:(k:Int)<d.c:=by omega
  have w:=wrap_succ (k:=k) (by omega)
  have g3:=sign_q (q:=d.cst k)
  obtain ⟨b1,b2⟩:=entE_lt d k
  simp[c__tb_entering_l0,stEn,tL,e,hk,rlk hρ,far]
  refine eCall_i g3 (by simp) (by simp) ?_
  by_cases h0:0<d.cst k
  ·have h0':0<sgnR (d.cst k):=sgnR_pos.2 h0
   by_cases h1:entE d k<0
   ·have ev:entE d (k+1)=k:=by simp only[entE]; rw[if_pos ⟨h0,.inl h1⟩]
    simp[h0',h1,w,stEn,ev,tL]
   ·have b3:(entE d k).toNat<d.c:=by omega
    have b4:(0:Int)≤entE d k:=by omega
    have b5:entE d k<d.c:=by omega
    by_cases h2:d.fre k<d.fre (entE d k).toNat
    ·have ev:entE d (k+1)=k:=by simp only[entE]; rw[if_pos ⟨h0,.inr h2⟩]
     simp[h0',h1,h2,b3,b4,b5,w,stEn,ev,tL,rlk hρ,far]
    ·have ev:entE d (k+1)=entE d k:=by simp only[entE]; rw[if_neg fun h=>h.2.elim h1 h2]
     simp[h0',h1,h2,b3,b4,b5,w,stEn,ev,tL,rlk hρ,far]
  ·have h0':¬ 0<sgnR (d.cst k):=fun h=>h0 (sgnR_pos.1 h)
   have ev:entE d (k+1)=entE d k:=by simp only[entE]; rw[if_neg fun h=>h0 h.1]
   simp[h0',w,stEn,ev,tL]
 ·simp[c__tb_entering_l0,c__tb_entering_k1,r__tb_entering,stEn]
  exact h
end Go.Proofs.Ytbgnkodhpbkdoaa

namespace Go.Proofs.Ytbgnkodhpbkdoaa
open Go Go.Am Go.Dig Go.LP
def rat (d:Dict) (q i:Nat):Rat:=d.b i/d.a i q
def leaE (d:Dict) (q:Nat):Nat→Int
 | 0=>-1
 | k+1=>if 0<d.a k q∧(leaE d q k<0∨rat d q k<rat d q (leaE d q k).toNat∨(rat d q k=rat d q (leaE d q k).toNat∧d.bas k≤d.bas (leaE d q k).toNat)) then k else leaE d q k
theorem leaE_lt (d:Dict) (q:Nat):∀ k,-1≤leaE d q k∧leaE d q k<k
 | 0=>by simp[leaE]
 | k+1=>by have:=leaE_lt d q k; simp only[leaE]; split<;>omega
noncomputable def lst (d:Dict) (q k:Nat):List AV:=if leaE d q k<0 then zz else fr (rat d q (leaE d q k).toNat)
@[simp] theorem lst_ref {d:Dict} {q k j:Nat}:anyRef j (lst d q k)=false:=by unfold lst; split<;>simp
noncomputable def stLe (n m:Nat) (d:Dict) (q:Nat) (ρ:List (Nat × Entry)) (out:List (List (Nat × AV))) (k:Nat):St :=
 {env:=[(0,.ptr 1015 0),(1,iv q),(5,iv (leaE d q k)),(6,.ptr 5006 0),(15,.us 1961 1 0 m),(16,iv m),(17,iv k)],sto:=ρ++(tL n m d++[(5006,.var (lst d q k))]),out:=out,base:=5000}
theorem sz_div {K L:Nat} {a b:Rat} (ha:sz K a) (hb:sz L b):sz (K+L) (a/b):=by
 rw[show a/b=a*(1/b) by grind]
 exact sz_mul ha (sz_inv hb)
theorem leavingI {n m q L:Nat} {d:Dict} {ρ:List (Nat × Entry)} {s:St} {K:AV→St→Prop} (hs:s.sto=ρ++tL n m d) (hρ:rest ρ) (hE:lowF 2000 s.env) (hO:lowO 2000 s.out) (hm:m<1000000) (hq:q<d.c)
  (hL:L≤30000000000) (ha:∀ i,i<m→sz L (d.a i q)) (hb:∀ i,i<m→sz L (d.b i)) (h:K (iv (leaE d q m)) s) :
  CallI Try.prog F__tb_leaving [.ptr 1015 0,iv q] s K:=by
 obtain ⟨env,σ,out,base⟩:=s
 simp only at hs hE hO
 subst hs
 refine soundI' 5000 t__tb_leaving (by simp) ?_
 simp[c__tb_leaving,tL,rlk hρ,rpt hρ,far]
 refine awp_forW (stLe n m d q ρ (env::out)) (fun _=>True) m (by simp[stLe,tL,leaE,lst]) trivial (fun k hk _=>?_) (fun _=>?_)
 ·have e:(k:Int)<m:=by omega
  have eq:(q:Int)<d.c:=by omega
  have w:=wrap_succ (k:=k) (by omega)
  obtain ⟨r1,hr1⟩:∃ r,r=rat d q k:=⟨_,rfl⟩
  obtain ⟨r2,hr2⟩:∃ r,r=rat d q (leaE d q k).toNat:=⟨_,rfl⟩
  have g1:=sign_q (q:=d.a k q)
  have g2:d.a k q≠0→SoundCall Try.prog F_f_Div [fq (d.b k),fq (d.a k q)] (.tuple [fq r1,iv 0]):=fun h=>by rw[hr1]; exact div_q (by omega) (hb k hk) (ha k hk) h
  obtain ⟨b1,b2⟩:=leaE_lt d q k
  have z1:sz (L+L) r1:=by rw[hr1]; exact sz_div (hb k hk) (ha k hk)
  have z2:0≤leaE d q k→sz (L+L) r2:=fun h=>by rw[hr2]; exact sz_div (hb _ (by omega)) (ha _ (by omega))
  simp[c__tb_leaving_l0,stLe,tL,e,hk,rlk hρ,far,eq,hq]
  refine eCall_i g1 (by simp) (by simp) ?_
  by_cases h0:0<d.a k q
  ·have h0':¬ sgnR (d.a k q)≤0:=by have:=sgnR_pos.2 h0; omega
   have h00:d.a k q≠0:=by grind
   simp[h0',rlk hρ,far,e,eq,hk,hq]
   refine eCall_i (g2 h00) (by simp) (by simp) ?_
   by_cases h1:leaE d q k<0
   ·have ev:leaE d q (k+1)=k:=by simp only[leaE]; rw[if_pos ⟨h0,.inl h1⟩]
    have ev1:lst d q k=zz:=by unfold lst; rw[if_pos h1]
    have ev2:lst d q (k+1)=fr r1:=by unfold lst; rw[ev,if_neg (by omega),hr1]; rfl
    have h1':¬ 0≤leaE d q k:=by omega
    simp[h1',rlk hρ,rpt hρ,rdel hρ,rnoRef hρ,eno hE,ono hO,far,stLe,tL,ev,ev1,ev2,w]
   ·have h1':0≤leaE d q k:=by omega
    have b3:(leaE d q k).toNat<m:=by omega
    have b5:leaE d q k<m:=by omega
    have ev1:lst d q k=fr r2:=by unfold lst; rw[if_neg h1,hr2]
    have g3:=cmp_q (by omega) z1 (z2 h1')
    simp[h1',rlk hρ,rpt hρ,far,ev1]
    refine eCall_i g3 (by simp) (by simp) ?_
    by_cases c1:r1<r2
    ·have ev:leaE d q (k+1)=k:=by simp only[leaE]; rw[if_pos ⟨h0,.inr (.inl (by rw[← hr1,← hr2]; exact c1))⟩]
     have ev2:lst d q (k+1)=fr r1:=by unfold lst; rw[ev,if_neg (by omega),hr1]; rfl
     have k1:¬ 0<cmpR r1 r2:=by have:=cmpR_lt.2 c1; omega
     have k2:¬ cmpR r1 r2=0:=by have:=cmpR_lt.2 c1; omega
     simp[k1,k2,rlk hρ,rpt hρ,rdel hρ,rnoRef hρ,eno hE,ono hO,far,stLe,tL,ev,ev2,w]
    ·by_cases c2:r1=r2
     ·have k2:cmpR r1 r2=0:=cmpR_eq0.2 c2
      have k1:¬ 0<cmpR r1 r2:=by omega
      by_cases c3:d.bas k≤d.bas (leaE d q k).toNat
      ·have ev:leaE d q (k+1)=k:=by simp only[leaE]; rw[if_pos ⟨h0,.inr (.inr ⟨by rw[← hr1,← hr2]; exact c2,c3⟩)⟩]
       have ev2:lst d q (k+1)=fr r1:=by unfold lst; rw[ev,if_neg (by omega),hr1]; rfl
       have c3':¬ d.bas (leaE d q k).toNat<d.bas k:=by omega
       simp[k2,c3',hk,e,b3,b5,h1',rlk hρ,rpt hρ,rdel hρ,rnoRef hρ,eno hE,ono hO,far,stLe,tL,ev,ev2,w]
      ·have ev:leaE d q (k+1)=leaE d q k:=by simp only[leaE]; rw[if_neg]; rw[← hr1,← hr2]; simp[h1,c1,c3]
       have ev2:lst d q (k+1)=fr r2:=by unfold lst; rw[ev,if_neg (by omega),hr2]
       have c3':d.bas (leaE d q k).toNat<d.bas k:=by omega
       simp[k2,c3',hk,e,b3,b5,h1',rlk hρ,rdel hρ,rnoRef hρ,eno hE,ono hO,far,stLe,tL,ev,ev2,w]
     ·have ev:leaE d q (k+1)=leaE d q k:=by simp only[leaE]; rw[if_neg]; rw[← hr1,← hr2]; simp[h1,c1,c2]
      have ev2:lst d q (k+1)=fr r2:=by unfold lst; rw[ev,if_neg (by omega),hr2]
      have k1:0<cmpR r1 r2:=cmpR_gt.2 (by grind)
      simp[k1,rlk hρ,rdel hρ,rnoRef hρ,eno hE,ono hO,far,stLe,tL,ev,ev2,w]
  ·have h0':sgnR (d.a k q)≤0:=Int.not_lt.1 fun h=>h0 (sgnR_pos.1 h)
   have ev:leaE d q (k+1)=leaE d q k:=by simp only[leaE]; rw[if_neg fun h=>h0 h.1]
   have ev2:lst d q (k+1)=lst d q k:=by unfold lst; rw[ev]
   simp[h0',w,stLe,ev,ev2,tL,rlk hρ,rdel hρ,rnoRef hρ,eno hE,ono hO,far]
 ·simp[c__tb_leaving_l0,c__tb_leaving_k1,r__tb_leaving,stLe,tL,rdel hρ,far,rnoRef hρ,eno hE,ono hO]
  exact h
end Go.Proofs.Ytbgnkodhpbkdoaa

namespace Go.Proofs.Ytbgnkodhpbkdoaa
open Go Go.Am Go.Dig Go.LP
def prow (d:Dict) (p q:Nat):Nat→Rat:=upd (fun j=>d.a p j*(1/d.a p q)) q (1/d.a p q)
def pkD (d:Dict) (p q k:Nat):Dict :=
 {d with a:=fun i=>if i<k∧i≠p then elm (d.a i) (d.a i q) q (prow d p q) else d.a i,b:=fun i=>if i<k∧i≠p then d.b i-d.a i q*(d.b p*(1/d.a p q)) else d.b i}
theorem pkD_zero {d:Dict} {p q:Nat}:pkD d p q 0=d:=by simp[pkD]
theorem pkD_skip {d:Dict} {p q:Nat}:pkD d p q (p+1)=pkD d p q p:=by
 simp only[pkD,Dict.mk.injEq,true_and,and_true]
 constructor
 ·funext i; by_cases h:i<p
  ·rw[if_pos ⟨by omega,by omega⟩,if_pos ⟨h,by omega⟩]
  ·rw[if_neg (by omega),if_neg (by omega)]
 ·funext i; by_cases h:i<p
  ·rw[if_pos ⟨by omega,by omega⟩,if_pos ⟨h,by omega⟩]
  ·rw[if_neg (by omega),if_neg (by omega)]
theorem pivot_a {d:Dict} {p q i:Nat} (hi:i<d.r):(pivot d p q).a i=(upd (pkD d p q d.r).a p (prow d p q)) i:=by
 funext j
 simp only[pivot,upd,pkD]
 by_cases h:i=p
 ·subst h; simp only[if_true,prow,upd]
 ·simp only[h,hi,if_false,if_true,ne_eq,not_false_eq_true,and_self,elm,prow,upd]
  split<;>grind
theorem pivot_b {d:Dict} {p q i:Nat} (hi:i<d.r):(pivot d p q).b i=(upd (pkD d p q d.r).b p (d.b p*(1/d.a p q))) i:=by
 simp only[pivot,upd,pkD]
 by_cases h:i=p
 ·subst h; simp only[if_true]
 ·simp only[h,hi,if_false,if_true,ne_eq,not_false_eq_true,and_self]
section
variable {d:Dict} {p q k:Nat}
@[simp] theorem pkD_c:(pkD d p q k).c=d.c:=rfl
@[simp] theorem pkD_r:(pkD d p q k).r=d.r:=rfl
@[simp] theorem pkD_cst:(pkD d p q k).cst=d.cst:=rfl
@[simp] theorem pkD_v:(pkD d p q k).v=d.v:=rfl
@[simp] theorem pkD_bas:(pkD d p q k).bas=d.bas:=rfl
@[simp] theorem pkD_fre:(pkD d p q k).fre=d.fre:=rfl
theorem pivot_cst:(pivot d p q).cst=elm d.cst (d.cst q) q (prow d p q):=by
 funext j
 simp only[pivot,elm,prow,upd]
 split<;>grind
end
noncomputable def stP0 (n m:Nat) (d:Dict) (p q:Nat) (v:Rat) (f:Nat→Rat) (ρ:List (Nat × Entry)) (out:List (List (Nat × AV))) (k:Nat):St :=
 {env:=[(0,.ptr 1015 0),(1,iv p),(2,iv q),(6,.ptr 5006 0),(8,.sl 5034 3 0 d.c),(41,fL (d.a p) d.c),(42,iv d.c),(43,iv k)],
  sto:=ρ++(tL n m d++[(5006,.var (fr v)),(5034,.arr 3 (fZ f k d.c))]),out:=out,base:=5000}
noncomputable def stP1 (n m:Nat) (d:Dict) (p q:Nat) (v:Rat) (f:Nat→Rat) (ρ:List (Nat × Entry)) (out:List (List (Nat × AV))) (k:Nat):St :=
 {env:=[(0,.ptr 1015 0),(1,iv p),(2,iv q),(8,fL f d.c),(11,.ptr 5011 0),(72,iv m),(73,iv k)],
  sto:=ρ++(tL n m (pkD d p q k)++[(5011,.var (fr v))]),out:=out,base:=5000}
theorem pivotI {n m p q L:Nat} {d:Dict} {ρ:List (Nat × Entry)} {s:St} {K:AV→St→Prop} (hs:s.sto=ρ++tL n m d) (hρ:rest ρ) (hE:lowF 2000 s.env) (hO:lowO 2000 s.out) (hm:m<1000000) (hc:d.c<1000000) (hr:d.r=m) (hp:p<m) (hq:q<d.c)
  (hL:L≤10000000000) (hsz:szD L d) (ha0:d.a p q≠0) (h:K (.tuple []) ⟨s.env,ρ++tL n m (pivot d p q),s.out,s.base⟩) :
  CallI Try.prog F__tb_pivot [.ptr 1015 0,iv p,iv q] s K:=by
 obtain ⟨env,σ,out,base⟩:=s
 simp only at hs hE hO h
 subst hs
 have ep:(p:Int)<m:=by omega
 have eq:(q:Int)<d.c:=by omega
 have sa:∀ i j,i<m→j<d.c→sz L (d.a i j):=fun i j h1 h2=>hsz.a i j (by omega) h2
 have sb:∀ i,i<m→sz L (d.b i):=fun i h1=>hsz.b i (by omega)
 obtain ⟨inv,hinv⟩:∃ x,1/d.a p q=x:=⟨_,rfl⟩
 have sinv:sz L inv:=by rw[← hinv]; exact sz_inv (sa p q hp hq)
 have one:sz L 1:=by
  have:1≤2^L:=Nat.one_le_two_pow
  exact ⟨this,this⟩
 have g1:SoundCall Try.prog F_f_FromInt [iv 1] (fq 1):=fromInt_q (n:=1) (by decide) (by decide)
 have g2:=div_q (by omega) one (sa p q hp hq) ha0
 rw[hinv] at g2
 have g3:=mul_q (by omega) (sb p hp) sinv
 obtain ⟨bnd,hbnd⟩:∃ x,d.b p*inv=x:=⟨_,rfl⟩
 have sbnd:sz (L+L) bnd:=by rw[← hbnd]; exact sz_mul (sb p hp) sinv
 rw[hbnd] at g3
 refine soundI' 5000 t__tb_pivot (by simp) ?_
 simp[c__tb_pivot,tL,rlk hρ,far]
 refine eCall_i g1 (by simp) (by simp) ?_
 simp[rlk hρ,far,ep,eq,hp,hq]
 refine eCall_i g2 (by simp) (by simp) ?_
 simp[rlk hρ,rpt hρ,far,ep,hp,eMk]
 refine ⟨by omega,by omega,?_⟩
 rw[fZ_zero (f:=fun j=>d.a p j*inv)]
 refine awp_forW (stP0 n m d p q inv (fun j=>d.a p j*inv) ρ (env::out)) (fun _=>True) d.c (by simp[stP0,tL]) trivial (fun k hk _=>?_) (fun _=>?_)
 ·have e:(k:Int)<d.c:=by omega
  have w:=wrap_succ (k:=k) (by omega)
  have f1:=mul_q (by omega) (sa p k hp hk) sinv
  have hset:=fZ_set (f:=fun j=>d.a p j*inv) hk
  simp[c__tb_pivot_l0,stP0,tL,e,hk,tL,rlk hρ,rpt hρ,far]
  refine eCall_i f1 (by simp) (by simp) ?_
  simp[hk,w,hset,stP0,tL,rlk hρ,rpt hρ,rdel hρ,rnoRef hρ,eno hE,ono hO,far]
 ·have hprow:upd (fun j=>d.a p j*inv) q inv=prow d p q:=by unfold prow; rw[hinv]
  have hset:(fR (fun j=>d.a p j*inv) d.c).set q (fr inv)=fR (prow d p q) d.c:=by rw[fR_set,hprow]
  have spr:∀ j,j<d.c→sz (L+L) (prow d p q j):=fun j hj=>by
   rw[← hprow]; unfold upd; split
   ·exact sz_mono sinv (by omega)
   ·exact sz_mul (sa p j hp hj) sinv
  generalize hpr:prow d p q=pr at *
  simp[c__tb_pivot_l0,stP0,tL,rlk hρ,rpt hρ,rdel hρ,rnoRef hρ,eno hE,ono hO,rfrz hρ,efrz hE,ofrz hO,far,fZ_full,c__tb_pivot_k3,hq,eq,ep,hp,hset,eFreeze,frzE_var,frzE_uarr,frz_plain,frz_us]
  refine eCall_i g3 (by simp) (by simp) ?_
  simp[rlk hρ,rpt hρ,rdel hρ,rnoRef hρ,eno hE,ono hO,far]
  refine awp_forW (stP1 n m d p q bnd pr ρ (env::out)) (fun _=>True) m (by simp[stP1,tL,pkD_zero]) trivial (fun k hk _=>?_) (fun _=>?_)
  ·have e:(k:Int)<m:=by omega
   have w:=wrap_succ (k:=k) (by omega)
   have pa:(pkD d p q k).a k=d.a k:=by simp[pkD]
   have pb:(pkD d p q k).b k=d.b k:=by simp[pkD]
   have pc:(pkD d p q k).c=d.c:=rfl
   by_cases hkp:k=p
   ·subst hkp
    simp[c__tb_pivot_l1,stP1,tL,e,w,pkD_skip]
   ·have ek:¬ (k:Int)=p:=by omega
    have f1:=eliminate_sound (K:=L+L) (pb:=bnd) hc hq (by omega) (fun j hj=>sz_mono (sa k j hk hj) (by omega)) spr (sz_mono (sb k hk) (by omega)) sbnd
    simp[c__tb_pivot_l1,stP1,tL,rlk hρ,far,e,hk,ek,pa,pb]
    refine eCall_i f1 (by simp) (by simp) ?_
    have hs1:(cR (pkD d p q k).a (fun _=>d.c) m).set k [fL (elm (d.a k) (d.a k q) q pr) d.c]=cR (pkD d p q (k+1)).a (fun _=>d.c) m:=by
     rw[cR_set]
     refine cR_congr fun i hi=>⟨by unfold upd; split<;>rfl,fun j hj=>?_⟩
     by_cases hik:i=k
     ·subst hik
      simp only[upd,if_true,pkD]
      rw[if_pos ⟨by omega,hkp⟩,hpr]
     ·have:(i<k+1)=(i<k):=by simp only[eq_iff_iff]; omega
      simp only[upd,if_neg hik,pkD,this]
    have hs2:(fR (pkD d p q k).b m).set k (fr (d.b k-d.a k q*bnd))=fR (pkD d p q (k+1)).b m:=by
     rw[fR_set]
     refine fR_congr fun i hi=>?_
     by_cases hik:i=k
     ·subst hik
      simp only[upd,if_true,pkD]
      rw[if_pos ⟨by omega,hkp⟩,hinv,hbnd]
     ·have:(i<k+1)=(i<k):=by simp only[eq_iff_iff]; omega
      simp only[upd,if_neg hik,pkD,this]
    simp[tL,rlk hρ,rpt hρ,far,hs1,hs2,hk,e,w,stP1]
  ·have f1:=eliminate_sound (K:=L+L) (pb:=bnd) hc hq (by omega) (fun j hj=>sz_mono (hsz.cst j hj) (by omega)) spr (sz_mono hsz.v (by omega)) sbnd
   have f2:=mul_q (K:=L+L) (by omega) (sz_mono (hsz.cst q hq) (by omega)) sbnd
   have f3:=add_q (K:=L+(L+L)) (by omega) (sz_mono hsz.v (by omega)) (sz_mul (hsz.cst q hq) sbnd)
   have e1:(cR (pkD d p q m).a (fun _=>d.c) m).set p [fL pr d.c]=cR (pivot d p q).a (fun _=>d.c) m:=by
    rw[cR_set]
    refine cR_congr fun i hi=>⟨by unfold upd; split<;>rfl,fun j hj=>?_⟩
    rw[pivot_a (by omega),hpr,hr]
   have e2:(fR (pkD d p q m).b m).set p (fr bnd)=fR (pivot d p q).b m:=by
    rw[fR_set]
    refine fR_congr fun i hi=>?_
    rw[pivot_b (by omega),hinv,hbnd,hr]
   have e3:(nR d.bas m).set p [iv (d.fre q)]=nR (pivot d p q).bas m:=nR_set
   have e4:(nR d.fre d.c).set q [iv (d.bas p)]=nR (pivot d p q).fre d.c:=nR_set
   have e5:elm d.cst (d.cst q) q pr=(pivot d p q).cst:=by rw[pivot_cst,hpr]
   have e6:d.v+d.cst q*bnd=(pivot d p q).v:=by simp only[pivot]; rw[hinv,hbnd]
   have e7:(pivot d p q).c=d.c:=rfl
   rw[e5] at f1
   rw[e6] at f3
   generalize pivot d p q=d' at *
   simp[c__tb_pivot_l1,stP1,tL,rlk hρ,rpt hρ,far,c__tb_pivot_k2,hq,eq]
   refine eCall_i f1 (by simp) (by simp) ?_
   simp[rlk hρ,rpt hρ,far]
   refine eCall_i f2 (by simp) (by simp) ?_
   simp
   refine eCall_i f3 (by simp) (by simp) ?_
   simp[rlk hρ,rpt hρ,rdel hρ,rnoRef hρ,eno hE,ono hO,far,r__tb_pivot,hp,hq,ep,eq,e1,e2,e3,e4]
   simp only[tL,tC,e7] at h
   exact h
end Go.Proofs.Ytbgnkodhpbkdoaa

namespace Go.Proofs.Ytbgnkodhpbkdoaa
open Go Go.Am Go.Dig Go.LP
theorem entE_neg {d:Dict}:∀ k,entE d k<0→∀ j,j<k→d.cst j≤0
 | 0,_,j,hj=>by omega
 | k+1,h,j,hj=>by
  simp only[entE] at h
  split at h
  ·omega
  ·rename_i hn
   by_cases e:j=k
   ·subst e
    have:¬ 0<d.cst j:=fun h0=>hn ⟨h0,.inl h⟩
    grind
   ·exact entE_neg k h j (by omega)
theorem entE_pos {d:Dict}:∀ k,0≤entE d k→0<d.cst (entE d k).toNat∧∀ j,j<k→0<d.cst j→d.fre (entE d k).toNat≤d.fre j
 | 0,h=>by simp[entE] at h
 | k+1,h=>by
  have b:=entE_lt d k
  simp only[entE] at h ⊢
  split
  ·rename_i hc
   refine ⟨by simpa using hc.1,fun j hj h0=>?_⟩
   by_cases e:j=k
   ·subst e; simp
   ·by_cases h1:entE d k<0
    ·have:=entE_neg k h1 j (by omega); grind
    ·have h2:=hc.2.resolve_left h1
     have:=(entE_pos k (by omega)).2 j (by omega) h0
     simp; omega
  ·rename_i hc
   rw[if_neg hc] at h
   obtain ⟨h1,h2⟩:=entE_pos k h
   refine ⟨h1,fun j hj h0=>?_⟩
   by_cases e:j=k
   ·subst e
    have:¬ d.fre j<d.fre (entE d j).toNat:=fun h=>hc ⟨h0,.inr h⟩
    omega
   ·exact h2 j (by omega) h0
theorem leaE_neg {d:Dict} {q:Nat}:∀ k,leaE d q k<0→∀ i,i<k→d.a i q≤0
 | 0,_,j,hj=>by omega
 | k+1,h,j,hj=>by
  simp only[leaE] at h
  split at h
  ·omega
  ·rename_i hn
   by_cases e:j=k
   ·subst e
    have:¬ 0<d.a j q:=fun h0=>hn ⟨h0,.inl h⟩
    grind
   ·exact leaE_neg k h j (by omega)
theorem leaE_pos {d:Dict} {q:Nat}:∀ k,0≤leaE d q k→0<d.a (leaE d q k).toNat q∧∀ i,i<k→0<d.a i q→rat d q (leaE d q k).toNat≤rat d q i∧(rat d q (leaE d q k).toNat=rat d q i→d.bas (leaE d q k).toNat≤d.bas i)
 | 0,h=>by simp[leaE] at h
 | k+1,h=>by
  have b:=leaE_lt d q k
  simp only[leaE] at h ⊢
  split
  ·rename_i hc
   simp only[Int.toNat_natCast]
   refine ⟨hc.1,fun i hi h0=>?_⟩
   by_cases e:i=k
   ·subst e; exact ⟨by grind,fun _=>Nat.le_refl _⟩
   ·by_cases h1:leaE d q k<0
    ·have:=leaE_neg k h1 i (by omega); grind
    ·obtain ⟨g1,g2⟩:=(leaE_pos k (by omega)).2 i (by omega) h0
     rcases hc.2 with h2 | h2 | h2
     ·omega
     ·exact ⟨by grind,fun h=>by grind⟩
     ·refine ⟨by grind,fun h=>Nat.le_trans h2.2 (g2 (by grind))⟩
  ·rename_i hc
   rw[if_neg hc] at h
   obtain ⟨h1,h2⟩:=leaE_pos k h
   refine ⟨h1,fun i hi h0=>?_⟩
   by_cases e:i=k
   ·subst e
    have h3:¬ rat d q i<rat d q (leaE d q i).toNat:=fun h=>hc ⟨h0,.inr (.inl h)⟩
    refine ⟨by grind,fun h=>?_⟩
    have h4:¬ d.bas i≤d.bas (leaE d q i).toNat:=fun h5=>hc ⟨h0,.inr (.inr ⟨h.symm,h5⟩)⟩
    omega
   ·exact h2 i (by omega) h0
theorem rat_cross {b1 a1 b2 a2:Rat} (h1:0<a1) (h2:0<a2):(b1/a1≤b2/a2↔b1*a2≤b2*a1)∧(b1/a1=b2/a2↔b1*a2=b2*a1):=by
 have e1:b1=b1/a1*a1:=by grind
 have e2:b2=b2/a2*a2:=by grind
 generalize b1/a1=x at *
 generalize b2/a2=y at *
 have hp:0<a1*a2:=Rat.mul_pos h1 h2
 have k1:b2*a1-b1*a2=(y-x)*(a1*a2):=by rw[e1,e2]; grind
 clear e1 e2
 constructor
 ·constructor
  ·intro h
   have:=Rat.mul_nonneg (show 0≤y-x by grind) (show 0≤a1*a2 by grind)
   rw[← k1] at this; grind
  ·intro h
   rcases lt_or_le y x with h3 | h3
   ·have:=Rat.mul_pos (show 0<x-y by grind) hp
    have e:(x-y)*(a1*a2)=-((y-x)*(a1*a2)):=by grind
    rw[e,← k1] at this; grind
   ·exact h3
 ·constructor
  ·intro h
   have:(y-x)*(a1*a2)=0:=by rw[h]; grind
   rw[← k1] at this; grind
  ·intro h
   have h5:(y-x)*(a1*a2)=0:=by rw[← k1]; grind
   rcases Rat.mul_eq_zero.1 h5 with h | h
   ·grind
   ·rw[h] at hp; exact absurd hp (by grind)
def qq' (d:Dict):Nat:=(entE d d.c).toNat
def pp' (d:Dict):Nat:=(leaE d (qq' d) d.r).toNat
def goOn (d:Dict):Prop:=0≤entE d d.c∧0≤leaE d (qq' d) d.r
theorem goOn_bland {d:Dict} (h:goOn d):Bland d (pp' d) (qq' d):=by
 have b1:=entE_lt d d.c
 have b2:=leaE_lt d (qq' d) d.r
 obtain ⟨h1,h2⟩:=h
 obtain ⟨g1,g2⟩:=entE_pos d.c h1
 obtain ⟨g3,g4⟩:=leaE_pos d.r h2
 refine ⟨by unfold pp'; omega,by unfold qq'; omega,g1,g2,g3,fun i hi h0=>?_⟩
 obtain ⟨g5,g6⟩:=g4 i hi h0
 obtain ⟨c1,c2⟩:=rat_cross (b1:=d.b (pp' d)) (b2:=d.b i) g3 h0
 exact ⟨c1.1 g5,fun h=>g6 (c2.2 h)⟩
def nextD (d:Dict):Dict:=pivot d (pp' d) (qq' d)
def runD (d:Dict):Nat→Dict
 | 0=>d
 | k+1=>nextD (runD d k)
theorem run_ends {d:Dict} {N:Nat} (hb:Bij d N) (hf:feas d):∃ K,(∀ k,k<K→goOn (runD d k))∧¬ goOn (runD d K):=by
 apply Classical.byContradiction
 intro hno
 have all:∀ k,∀ j,j<k→goOn (runD d j):=by
  intro k
  induction k with
  | zero=>intro j hj; omega
  | succ k ih =>
   intro j hj
   by_cases e:j=k
   ·subst e
    exact Classical.byContradiction fun h=>hno ⟨j,ih,h⟩
   ·exact ih j (by omega)
 have r:Run (runD d) (fun k=>pp' (runD d k)) (fun k=>qq' (runD d k)) (2^N) N:=⟨hb,hf,fun k hk=>⟨goOn_bland (all _ k hk),rfl⟩⟩
 have:=r.le
 omega
theorem run_same {d:Dict} {N K:Nat} (hb:Bij d N) (hf:feas d) (h:∀ k,k<K→goOn (runD d k)):∀ k,k≤K→Same (runD d k) d N∧feas (runD d k)∧(runD d k).r=d.r∧(runD d k).c=d.c:=by
 intro k
 induction k with
 | zero=>intro _; exact ⟨Same.refl hb,hf,rfl,rfl⟩
 | succ k ih =>
  intro hk
  obtain ⟨h1,h2,h3,h4⟩:=ih (by omega)
  have hB:=goOn_bland (h k (by omega))
  have ha:(runD d k).a (pp' (runD d k)) (qq' (runD d k))≠0:=by have:=hB.2.2.2.2.1; grind
  exact ⟨(Same.pivot h1.bd hB.1 hB.2.1 ha).trans h1,hB.feas h2,h3,h4⟩
structure Fin (d e:Dict) (N:Nat) (x:AV):Prop where
 same:Same e d N
 feas:feas e
 r:e.r=d.r
 c:e.c=d.c
 out:(x=.tuple [iv 0,bv true]∧∀ j,j<e.c→e.cst j≤0)∨∃ q:Nat,x=.tuple [iv q,bv false]∧q<e.c∧0<e.cst q∧∀ i,i<e.r→e.a i q≤0
noncomputable def stOp (n m:Nat) (d:Dict) (ρ:List (Nat × Entry)) (out:List (List (Nat × AV))) (k:Nat):St :=
 {env:=[(0,.ptr 1015 0)],sto:=ρ++tL n m (runD d k),out:=out,base:=4500}
theorem eCallI_of {P:Program} {f:FuncId} {xs:List AV} {s:St} {dst:Option Nat} {K:St→Prop} (h:CallI P f xs s fun r s'=>s'.base=s.base∧K (s'.put dst r)):eCallI P f xs s dst K:=h
theorem ok_entering:okFn Try.prog F__tb_entering=true:=by kernel_rfl
theorem ok_leaving:okFn Try.prog F__tb_leaving=true:=by kernel_rfl
theorem ok_pivot:okFn Try.prog F__tb_pivot=true:=by kernel_rfl
theorem low_iv {M:Nat} {n:Int}:Am.low M (iv n)=true:=rfl
theorem low_bv {M:Nat} {b:Bool}:Am.low M (bv b)=true:=rfl
theorem low_ptr {M k off:Nat}:Am.low M (.ptr k off)=decide (k<M):=rfl
def finR (e:Dict):AV:=if entE e e.c<0 then .tuple [iv 0,bv true] else .tuple [iv (qq' e),bv false]
theorem fin_of {d e:Dict} {N:Nat} (h1:Same e d N) (h2:LP.feas e) (h3:e.r=d.r) (h4:e.c=d.c) (hJe:¬ goOn e):Fin d e N (finR e):=by
 have b1:=entE_lt e e.c
 have b2:=leaE_lt e (qq' e) e.r
 refine ⟨h1,h2,h3,h4,?_⟩
 unfold finR
 by_cases g1:entE e e.c<0
 ·rw[if_pos g1]; exact .inl ⟨rfl,entE_neg _ g1⟩
 ·rw[if_neg g1]
  have g2:leaE e (qq' e) e.r<0:=by
   rcases Int.lt_or_le (leaE e (qq' e) e.r) 0 with h | h
   ·exact h
   ·exact absurd ⟨by omega,h⟩ hJe
  exact .inr ⟨qq' e,rfl,by unfold qq'; omega,(entE_pos (d:=e) e.c (by omega)).1,leaE_neg _ g2⟩
theorem optimizeI {N:Nat} {d:Dict} (hb:Bij d N) (hf:feas d):∃ e,Fin d e N (finR e)∧∀ {n m L:Nat} {ρ:List (Nat × Entry)} {s:St} {K:AV→St→Prop},s.sto=ρ++tL n m d→rest ρ→lowF 2000 s.env→lowO 2000 s.out→m<1000000→d.c<1000000→d.r=m →
  L≤10000000000→(∀ e,Same e d N→e.r=d.r→e.c=d.c→szD L e)→K (finR e) ⟨s.env,ρ++tL n m e,s.out,s.base⟩ →
  CallI Try.prog F__tb_optimize [.ptr 1015 0] s K:=by
 obtain ⟨J,hJ,hJe⟩:=run_ends hb hf
 have hrun:=run_same hb hf hJ
 obtain ⟨hf1,hf2,hf3,hf4⟩:=hrun J (by omega)
 refine ⟨runD d J,fin_of hf1 hf2 hf3 hf4 hJe,?_⟩
 intro n m L ρ s K hs hρ hE hO hm hc hr hL hsz h
 obtain ⟨env,σ,out,base⟩:=s
 simp only at hs hE hO h
 subst hs
 have hO2:lowO 2000 (env::out):=lowO_cons.2 ⟨hE,hO⟩
 refine soundI' 4500 t__tb_optimize (by simp) ?_
 simp[c__tb_optimize]
 refine awp_againW (stOp n m d ρ (env::out)) (fun _=>True) J (by simp[stOp,runD]) trivial (fun k hk _=>?_) (fun _=>?_)
 ·obtain ⟨h1,h2,h3,h4⟩:=hrun k (by omega)
  have hg:=hJ k hk
  have hB:=goOn_bland hg
  have b1:=entE_lt (runD d k) (runD d k).c
  have b2:=leaE_lt (runD d k) (qq' (runD d k)) (runD d k).r
  have hz:=hsz _ h1 h3 h4
  have ea:entE (runD d k) (runD d k).c=(qq' (runD d k):Nat):=by unfold qq'; have:=hg.1; omega
  have eb:leaE (runD d k) (qq' (runD d k)) (runD d k).r=(pp' (runD d k):Nat):=by unfold pp'; have:=hg.2; omega
  have e3:runD d (k+1)=pivot (runD d k) (pp' (runD d k)) (qq' (runD d k)):=rfl
  have hrm:(runD d k).r=m:=by omega
  rw[hrm] at eb
  generalize hd2:runD d (k+1)=d2 at *
  generalize hd1:runD d k=d1 at *
  generalize qq' d1=q at *
  generalize pp' d1=p at *
  have hst1:stOp n m d ρ (env::out) k={env:=[(0,.ptr 1015 0)],sto:=ρ++tL n m d1,out:=env::out,base:=4500}:=by unfold stOp; rw[hd1]
  rw[hst1]
  have nq:¬ ((q:Int)<0):=by omega
  have np:¬ ((p:Int)<0):=by omega
  simp[c__tb_optimize_l0,ok_entering]
  refine eCallI_of (enteringI (s:=⟨_,ρ++tL n m d1,env::out,4500⟩) (d:=d1) (ρ:=ρ) (n:=n) (m:=m) rfl hρ (by omega) ?_)
  rw[ea]
  simp[ok_leaving,nq]
  refine eCallI_of (leavingI (s:=⟨_,ρ++tL n m d1,env::out,4500⟩) (d:=d1) (ρ:=ρ) (n:=n) (m:=m) (L:=L) rfl hρ ?_ hO2 hm hB.2.1 (by omega) (fun i hi=>hz.a i q (by omega) hB.2.1) (fun i hi=>hz.b i (by omega)) ?_)
  ·simp[lowF_cons,lowF_nil,low_iv,low_bv,low_ptr]
  rw[eb]
  simp[ok_pivot,np]
  refine eCallI_of (pivotI (s:=⟨_,ρ++tL n m d1,env::out,4500⟩) (d:=d1) (ρ:=ρ) (n:=n) (m:=m) (L:=L) rfl hρ ?_ hO2 hm (by omega) hrm (by have:=hB.1; omega) hB.2.1 hL hz (by have:=hB.2.2.2.2.1; grind) ?_)
  ·simp[lowF_cons,lowF_nil,low_iv,low_bv,low_ptr]
  rw[← e3]
  simp[stOp]
  exact .inl (by rw[hd2])
 ·obtain ⟨h1,h2,h3,h4⟩:=hrun J (by omega)
  have b1:=entE_lt (runD d J) (runD d J).c
  have b2:=leaE_lt (runD d J) (qq' (runD d J)) (runD d J).r
  have hz:=hsz _ h1 h3 h4
  have hrm:(runD d J).r=m:=by omega
  generalize hd1:runD d J=d1 at *
  have hst1:stOp n m d ρ (env::out) J={env:=[(0,.ptr 1015 0)],sto:=ρ++tL n m d1,out:=env::out,base:=4500}:=by unfold stOp; rw[hd1]
  rw[hst1]
  simp[c__tb_optimize_l0,ok_entering]
  refine eCallI_of (enteringI (s:=⟨_,ρ++tL n m d1,env::out,4500⟩) (d:=d1) (ρ:=ρ) (n:=n) (m:=m) rfl hρ (by omega) ?_)
  by_cases g1:entE d1 d1.c<0
  ·have hfr:finR d1=.tuple [iv 0,bv true]:=if_pos g1
   rw[hfr] at h
   simp[g1,r__tb_optimize]
   exact h
  ·have hfr:finR d1=.tuple [iv (qq' d1),bv false]:=if_neg g1
   rw[hfr] at h
   have ea:entE d1 d1.c=(qq' d1:Nat):=by unfold qq'; omega
   have g2:leaE d1 (qq' d1) d1.r<0:=by
    rcases Int.lt_or_le (leaE d1 (qq' d1) d1.r) 0 with h | h
    ·exact h
    ·exact absurd ⟨by omega,h⟩ hJe
   have hq:qq' d1<d1.c:=by unfold qq'; omega
   rw[hrm] at g2
   rw[ea]
   generalize qq' d1=q at *
   have nq:¬ ((q:Int)<0):=by omega
   simp[ok_leaving,nq]
   refine eCallI_of (leavingI (s:=⟨_,ρ++tL n m d1,env::out,4500⟩) (d:=d1) (ρ:=ρ) (n:=n) (m:=m) (L:=L) rfl hρ ?_ hO2 hm hq (by omega) (fun i hi=>hz.a i q (by omega) hq) (fun i hi=>hz.b i (by omega)) ?_)
   ·simp[lowF_cons,lowF_nil,low_iv,low_bv,low_ptr]
   simp[g2,r__tb_optimize]
   exact h
end Go.Proofs.Ytbgnkodhpbkdoaa

namespace Go.Proofs.Ytbgnkodhpbkdoaa
open Go Go.Am Go.Dig Go.LP
section
variable {k n:Nat} {c:List AV} {r:List (List AV)}
theorem dgE_var:dgE k (.var c)=.var (c.map (dg k)):=rfl
theorem dgE_uarr:dgE k (.uarr n r)=.uarr n (rowsDg k r):=rfl
theorem eno1 {k:Nat} {f:List (Nat × AV)} (h:lowF 1000 f) (hk:1000≤k):noRef k f=true:=lowF_noRef hk h
theorem ono1 {k:Nat} {f:List (List (Nat × AV))} (h:lowO 1000 f) (hk:1000≤k):noRefO k f=true:=lowO_noRef hk h
theorem edg1 {k:Nat} {f:List (Nat × AV)} (h:lowF 1000 f) (hk:1000≤k):(f.map fun p=>(p.1,dg k p.2))=f:=lowF_dg hk h
theorem odg1 {k:Nat} {f:List (List (Nat × AV))} (h:lowO 1000 f) (hk:1000≤k):(f.map fun f=>f.map fun p=>(p.1,dg k p.2))=f:=lowO_dg hk h
theorem dgE_arr:dgE k (.arr n r)=.arr n r:=rfl
end
@[simp] theorem eAppendU_moreL {sz by_ d l sz1 off len sz':Nat} {rows1 rows:List (List AV)} {s:St} {K:St→Prop} (h:lk s.sto l=some (.uarr sz rows1)) :
  eAppendU sz by_ s (some d) K [.us l sz1 off len,.lit sz' rows]=(sz'=sz∧0<sz∧(len+rows.length)*by_≤140737488355328∧len+rows.length≤9223372036854775807∧sz1=sz∧off=0∧len=rows1.length ∧
   K ({(s.dg l) with sto:=pt (s.dg l).sto l (.uarr sz (rowsDg l (rows1++rows)))}.put (some d) (.us l sz 0 (len+rows.length)))):=by
 simp[eAppendU,addRowsU,h]
@[simp] theorem goLoad_row {x:AV} {q:Rat}:goLoad (x::fr q) 1 (some 3)=some (fq q):=by
 simp only[goLoad,fr,List.length_cons,List.length_nil,List.drop_succ_cons,List.drop_zero,List.take]
 simp
abbrev nilA:AV:=.list 0 .full []
noncomputable def oR (a:Nat→Nat→Rat) (md:Nat→Am.Mode) (cl:Nat→Nat) (n:Nat):List (List AV):=mR (fun i=>[.list 3 (md i) (fR (a i) (cl i))]) n
def om (i:Nat):Am.Mode:=.own (1000000+i)
noncomputable def pR (A:Nat→Nat→Rat) (bb:Nat→Rat) (n m:Nat):List (List AV):=mR (fun i=>[fL (A i) n,f0 (bb i),f1 (bb i),f2 (bb i)]) m
noncomputable abbrev pA (A:Nat→Nat→Rat) (bb gg:Nat→Rat) (n m:Nat):AV:=.agg [fL gg n,.list 4 .plain (pR A bb n m)]
section
variable {a:Nat→Nat→Rat} {bb:Nat→Rat} {md:Nat→Am.Mode} {cl:Nat→Nat} {n m i k:Nat} {e:Entry}
@[simp] theorem oR_len:(oR a md cl n).length=n:=mR_len
@[simp] theorem pR_len:(pR a bb n m).length=m:=mR_len
@[simp] theorem oR_getE {hi:i<(oR a md cl n).length}:(oR a md cl n)[i]=[.list 3 (md i) (fR (a i) (cl i))]:=mR_getE
@[simp] theorem pR_getE {hi:i<(pR a bb n m).length}:(pR a bb n m)[i]=[fL (a i) n,f0 (bb i),f1 (bb i),f2 (bb i)]:=mR_getE
@[simp] theorem oR_ref:anyRefR k (oR a md cl n)=false:=mR_ref fun _=>by simp
@[simp] theorem pR_rf:rowsRf (pR a bb n m)=true:=mR_all fun _=>by simp
@[simp] theorem pR_st:rowsSt (pR a bb n m)=pR a bb n m:=mR_map fun _=>by simp
end
theorem mR_congr2 {g h:Nat→List AV} {n:Nat} {f:List AV→List AV} (e:∀ i,i<n→f (g i)=h i):(mR g n).map f=mR h n:=by
 unfold mR
 rw[List.map_map]
 exact List.map_congr_left fun i hi=>e i (by simpa using hi)
@[simp] theorem nR_rn {f:Nat→Nat} {n a b:Nat}:((nR f n).map fun r=>r.map (rn a b))=nR f n:=mR_map fun _=>rfl
@[simp] theorem pR_rn {a:Nat→Nat→Rat} {bb:Nat→Rat} {n m k l:Nat}:((pR a bb n m).map fun r=>r.map (rn k l))=pR a bb n m:=mR_map fun _=>by
 simp[rn,rn1]
theorem oR_rn {A:Nat→Nat→Rat} {cl:Nat→Nat} {n k l:Nat} (hk:k<1000000) (hl:n≤l):((oR A om cl n).map fun r=>r.map (rn k (1000000+l)))=oR A om cl n:=mR_congr2 fun i hi=>by
 have:sw k (1000000+l) (1000000+i)=1000000+i:=by unfold sw; rw[if_neg (by omega),if_neg (by omega)]
 simp[rn,rn1,om,this]
theorem oR_dg {A:Nat→Nat→Rat} {cl:Nat→Nat} {n k:Nat} (hk:k<1000000):rowsDg k (oR A om cl n)=oR A om cl n:=mR_congr2 fun i hi=>by
 have:¬ 1000000+i=k:=by omega
 simp[om,dg,this]
theorem rowsDg_app {k:Nat} {a b:List (List AV)}:rowsDg k (a++b)=rowsDg k a++rowsDg k b:=List.map_append
theorem anyRefR_app {k:Nat} {a b:List (List AV)}:anyRefR k (a++b)=(anyRefR k a||anyRefR k b):=by
 induction a with
 | nil=>rfl
 | cons r a ih=>simp only[List.cons_append,anyRefR,ih,Bool.or_assoc]
section
variable {a b:Nat}
theorem rnE_var {c:List AV}:rnE a b (.var c)=.var (c.map (rn a b)):=rfl
theorem rnE_uarr {n:Nat} {r:List (List AV)}:rnE a b (.uarr n r)=.uarr n (r.map fun r=>r.map (rn a b)):=rfl
theorem rn_ptr {k o:Nat}:rn a b (.ptr k o)=.ptr (sw a b k) o:=rfl
theorem rn_us {k s o l:Nat}:rn a b (.us k s o l)=.us (sw a b k) s o l:=rfl
theorem rn_val {v:Value}:rn a b (.val v)=.val v:=rfl
theorem rn_plain {s:Nat} {r:List (List AV)}:rn a b (.list s .plain r)=.list s .plain r:=rfl
theorem rn_full {s:Nat} {r:List (List AV)}:rn a b (.list s .full r)=.list s .full r:=rfl
theorem rn_own {s l:Nat} {r:List (List AV)}:rn a b (.list s (.own l) r)=.list s (.own (sw a b l)) r:=rfl
end
theorem rrn0 {ρ:List (Nat × Entry)} {k l:Nat} (h:rest ρ) (hk:far k=true) (hl:far l=true):(ρ.map fun p=>(sw k l p.1,rnE k l p.2))=ρ:=map_self fun p hp=>by
 have hk:(1000≤k∧k<3000)∨4000≤k:=of_decide_eq_true hk
 have hl:(1000≤l∧l<3000)∨4000≤l:=of_decide_eq_true hl
 obtain ⟨h1,h2⟩:=h p hp
 have:sw k l p.1=p.1:=by unfold sw; rw[if_neg (by omega),if_neg (by omega)]
 rw[this,lowE_rn (by omega) (by omega) h2]
noncomputable def cst0 (k:Nat):AV:=if k=0 then nilA else .list 3 (.own 2039) (fR (fun _=>0) k)
theorem cst0_dg {l k:Nat} (h:¬ l=2039):dg l (cst0 k)=cst0 k:=by
 unfold cst0
 split
 ·simp
 ·simp only[dg]; rw[if_neg (fun e=>h e.symm)]
theorem cst0_rn {l j k:Nat} (h:¬ l=2039) (hj:¬ j=2039):rn l j (cst0 k)=cst0 k:=by
 unfold cst0
 split
 ·rfl
 ·simp only[rn,rn1,sw]; rw[if_neg (fun e=>h e.symm),if_neg (fun e=>hj e.symm)]
@[simp] theorem cst0_refs {l k:Nat}:refsTo l (cst0 k)=false:=by unfold cst0; split<;>rfl
theorem nR_app {f:Nat→Nat} {k:Nat}:nR f k++[[iv (f k)]]=nR f (k+1):=mR_succ.symm
theorem oR_app {a:Nat→Nat→Rat} {md:Nat→Am.Mode} {cl:Nat→Nat} {k:Nat}:oR a md cl k++[[.list 3 (md k) (fR (a k) (cl k))]]=oR a md cl (k+1):=mR_succ.symm
noncomputable def stN0 (A:Nat→Nat→Rat) (bb gg:Nat→Rat) (n m:Nat) (ρ:List (Nat × Entry)) (out:List (List (Nat × AV))) (k:Nat):St :=
 {env:=[(1,.ptr 1001 0),(3,.ptr 1015 0),(18,iv n),(19,iv k)],
  sto:=ρ++[(1001,.var [fL gg n,.list 4 .plain (pR A bb n m)]),(1015,.var [iv n,iv m,nilA,nilA,cst0 k,f0 0,f1 0,f2 0,nilA,.us 2029 1 0 k]),(2029,.uarr 1 (nR id k))],out:=out,base:=1000}
noncomputable def stN1 (A:Nat→Nat→Rat) (bb _gg:Nat→Rat) (n m:Nat) (ρ:List (Nat × Entry)) (out:List (List (Nat × AV))) (k:Nat):St :=
 {env:=[(3,.ptr 1015 0),(44,.list 4 .plain (pR A bb n m)),(45,iv m),(46,iv k)],
  sto:=ρ++[(1015,.var [iv n,iv m,.us 1961 1 0 k,.us 1972 3 0 k,cst0 n,f0 0,f1 0,f2 0,.us 1987 1 0 k,.us 2029 1 0 n]),(2029,.uarr 1 (nR id n)),
   (1961,.uarr 1 (oR A om (fun _=>n) k)),(1972,.uarr 3 (fR bb k)),(1987,.uarr 1 (nR (fun i=>n+i) k))],out:=out,base:=1000}
theorem newTableauI {n m:Nat} {A:Nat→Nat→Rat} {bb gg:Nat→Rat} {ρ:List (Nat × Entry)} {s:St} {K:AV→St→Prop} (hs:s.sto=ρ) (hρ:rest ρ) (hE:lowF 1000 s.env) (hO:lowO 1000 s.out) (hm:m<1000000) (hn:n<1000000)
  (h:K (.ptr 1015 0) ⟨s.env,ρ++[(1015,.var [iv n,iv m,.us 1961 1 0 m,.us 1972 3 0 m,cst0 n,f0 0,f1 0,f2 0,.us 1987 1 0 m,.us 2029 1 0 n]),(2029,.uarr 1 (nR id n)),
   (1961,.uarr 1 (oR A om (fun _=>n) m)),(1972,.uarr 3 (fR bb m)),(1987,.uarr 1 (nR (fun i=>n+i) m))],s.out,s.base⟩) :
  CallI Try.prog F_s_newTableau [pA A bb gg n m] s K:=by
 obtain ⟨env,σ,out,base⟩:=s
 simp only at hs hE hO h
 subst hs
 have g0:SoundCall Try.prog F_f_FromInt [iv 0] (fq 0):=fromInt_q (n:=0) (by decide) (by decide)
 have hpt:∀ k e,far k=true→pt σ k e=σ++[(k,e)]:=fun k e hk=>by
  have:=rpt (l:=[]) (e:=e) hρ hk
  simpa using this
 have hlk:∀ k,far k=true→lk σ k=none:=fun k hk=>rest_lk hρ hk
 refine soundI' 1000 t_s_newTableau (by simp) ?_
 simp[c_s_newTableau,hpt,hlk,rlk hρ,far]
 refine eCall_i g0 (by simp) (by simp) ?_
 simp[rlk hρ,rpt hρ,far]
 have hE2:lowF 2000 env:=lowF_mono (by omega) hE
 have hO2:lowO 2000 out:=lowO_mono (by omega) hO
 have hne:∀ k,k≠0→cst0 k=.list 3 (.own 2039) (fR (fun _=>0) k):=fun k hk=>by unfold cst0; rw[if_neg hk]
 have hz:cst0 0=nilA:=rfl
 refine awp_forS (stN0 A bb gg n m σ (env::out)) (fun _=>True) n ?_ trivial (fun k hk _=>?_) (fun _=>?_)
 ·refine St.imp.trans (St.imp_tok 2029 1 (by simp[rlk hρ,far])) ?_
  simp[St.dg,rdg0 hρ,edg1 hE,odg1 hO,rpt hρ,far,-dgE,dgE_var]
  refine St.imp.trans (St.imp_cell_nil (k:=1015) (j:=9) (l:=2029) (sz:=1) (by simp[rlk hρ,far]; rfl) (by simp; rfl) (by simp[rlk hρ,far])) ?_
  simp[rpt hρ,far,stN0,hz]
  exact St.imp.refl
 ·have e:(k:Int)<n:=by omega
  have w:=wrap_succ (k:=k) (by omega)
  have hap:nR id k++[[iv k]]=nR id (k+1):=nR_app (f:=id)
  have hfp:fR (fun _=>0) k++[fr 0]=fR (fun _=>0) (k+1):=fR_succ.symm
  have hne1:=hne (k+1) (by omega)
  have hcd:∀ l,¬ l=2039→dg l (cst0 k)=cst0 k:=fun l h=>cst0_dg h
  simp[c_s_newTableau_l0,stN0,e,rlk hρ,rpt hρ,far,rdg0 hρ,edg1 hE,odg1 hO,-dgE,dgE_var,dgE_uarr,hap,hcd]
  refine ⟨by omega,by omega,?_⟩
  refine eCall_i g0 (by simp) (by simp) ?_
  by_cases k0:k=0
  ·subst k0
   have w1:IntKind.i64.wrap 1=1:=by decide
   have h1:fR (fun _=>(0:Rat)) 1=[fr 0]:=rfl
   simp[hz,rlk hρ,rpt hρ,far,rdg0 hρ,edg1 hE,odg1 hO,-dgE,dgE_var,dgE_uarr,w1,stN0,hne 1 (by omega),h1]
   refine St.imp.trans (St.imp_rn 1039 2039) ?_
   have hr0:=rrn0 (k:=1039) (l:=2039) hρ rfl rfl
   have he:=lowF_rn (k:=1039) (by omega) (j:=2039) (by omega) hE
   have ho:=lowO_rn (k:=1039) (by omega) (j:=2039) (by omega) hO
   simp only[St.rn,List.map_append,hr0]
   simp only[List.map_cons,List.map_nil,rnE_var,rnE_uarr,rn_ptr,rn_us,rn_val,rn_plain,rn_own,rn_full,nR_rn,f0_rn,f1_rn,f2_rn,sw,Nat.reduceEqDiff,if_true,if_false,he,ho]
   exact St.imp.refl
  ·simp[hne k k0,rlk hρ,rpt hρ,far,rdg0 hρ,edg1 hE,odg1 hO,-dgE,dgE_var,dgE_uarr,hfp,w,stN0,hne1]
   exact ⟨by omega,by omega,St.imp.refl⟩
 ·have hcd:∀ l,¬ l=2039→dg l (cst0 n)=cst0 n:=fun l h=>cst0_dg h
  simp[c_s_newTableau_l0,stN0,c_s_newTableau_k3,rlk hρ,rdel hρ,far,-dgE,rnoRef hρ,eno1 hE,ono1 hO]
  refine awp_forS (stN1 A bb gg n m σ (env::out)) (fun _=>True) m ?_ trivial (fun k hk _=>?_) (fun _=>?_)
  ·refine St.imp.trans (St.imp_tok 1961 1 (by simp[rlk hρ,far])) ?_
   simp[St.dg,rpt hρ,far,rdg0 hρ,edg1 hE,odg1 hO,-dgE,dgE_var,dgE_uarr,hcd]
   refine St.imp.trans (St.imp_cell_nil (k:=1015) (j:=2) (l:=1961) (sz:=1) (by simp[rlk hρ,far]; rfl) (by simp; rfl) (by simp[rlk hρ,far])) ?_
   simp[rpt hρ,far]
   refine St.imp.trans (St.imp_tok 1972 3 (by simp[rlk hρ,far])) ?_
   simp[St.dg,rpt hρ,far,rdg0 hρ,edg1 hE,odg1 hO,-dgE,dgE_var,dgE_uarr,hcd]
   refine St.imp.trans (St.imp_cell_nil (k:=1015) (j:=3) (l:=1972) (sz:=3) (by simp[rlk hρ,far]; rfl) (by simp; rfl) (by simp[rlk hρ,far])) ?_
   simp[rpt hρ,far]
   refine St.imp.trans (St.imp_tok 1987 1 (by simp[rlk hρ,far])) ?_
   simp[St.dg,rpt hρ,far,rdg0 hρ,edg1 hE,odg1 hO,-dgE,dgE_var,dgE_uarr,hcd]
   refine St.imp.trans (St.imp_cell_nil (k:=1015) (j:=8) (l:=1987) (sz:=1) (by simp[rlk hρ,far]; rfl) (by simp; rfl) (by simp[rlk hρ,far])) ?_
   simp[rpt hρ,far,stN1]
   exact St.imp.refl
  ·have e:(k:Int)<m:=by omega
   have w:=wrap_succ (k:=k) (by omega)
   have hau:rowsAU 1 [[nilA]] [0] [.list 3 (.own 1059) (fR (A k) n)]=some [[.list 3 (.own 1059) (fR (A k) n)]]:=rfl
   have hd1:∀ l,¬ l=1059→rowsDg l [[.list 3 (.own 1059) (fR (A k) n)]]=[[.list 3 (.own 1059) (fR (A k) n)]]:=fun l h=>by
    have:¬ 1059=l:=fun e=>h e.symm
    simp[rowsDg,dg,this]
   have hfb:fR bb k++[fr (bb k)]=fR bb (k+1):=fR_succ.symm
   have hnb:nR (fun i=>n+i) k++[[iv (n+k:Nat)]]=nR (fun i=>n+i) (k+1):=nR_app (f:=fun i=>n+i)
   have hnb':nR (fun i=>n+i) k++[[iv ((n:Int)+k)]]=nR (fun i=>n+i) (k+1):=by rw[← hnb,Int.natCast_add]
   have wn:IntKind.i64.wrap (n+k)=(n:Int)+(k:Int):=by rw[wrap64]<;>omega
   simp[c_s_newTableau_l1,stN1,e,hk,rlk hρ,rpt hρ,rdel hρ,far,rdg0 hρ,edg1 hE,odg1 hO,-dgE,dgE_var,dgE_uarr,hcd,rnoRef hρ,eno1 hE,ono1 hO,hau,oR_dg,rowsDg_app,hd1,hfb,wn,w,anyRefR_app]
   refine ⟨by omega,by omega,by omega,by omega,by omega,by omega,by omega,by omega,?_⟩
   refine St.imp.trans (St.imp_rn 1059 (1000000+k)) ?_
   have ho:om k=.own (1000000+k):=rfl
   have hap:=oR_app (a:=A) (md:=om) (cl:=fun _=>n) (k:=k)
   rw[ho] at hap
   have s1:∀ l,l<1000000→¬ l=1059→sw 1059 (1000000+k) l=l:=fun l h1 h2=>by unfold sw; rw[if_neg h2,if_neg (by omega)]
   have s2:sw 1059 (1000000+k) 1059=1000000+k:=by unfold sw; rw[if_pos rfl]
   have hf:far (1000000+k)=true:=decide_eq_true (by omega)
   have hc:=cst0_rn (l:=1059) (j:=1000000+k) (k:=n) (by omega) (by omega)
   have hr:=oR_rn (A:=A) (cl:=fun _=>n) (n:=k) (k:=1059) (l:=k) (by omega) (Nat.le_refl _)
   have he:=lowF_rn (k:=1059) (by omega) (j:=1000000+k) (by omega) hE
   have ho':=lowO_rn (k:=1059) (by omega) (j:=1000000+k) (by omega) hO
   have hq:rowsDg 1987 [[iv ((n:Int)+k)]]=[[iv ((n+k:Nat):Int)]]:=by rw[Int.natCast_add]; rfl
   have hr0:=rrn0 (k:=1059) (l:=1000000+k) hρ rfl hf
   simp only[St.rn,List.map_append,List.map_cons,List.map_nil,hr0,s1,s2,rnE_var,rnE_uarr,rn_ptr,rn_us,rn_val,rn_plain,rn_own,hr,hc,he,ho',nR_rn,fR_rn,f0_rn,f1_rn,f2_rn,hap,hq,Nat.reduceLT,Nat.reduceEqDiff,not_false_eq_true,Int.natCast_add]
   rw[hnb']
   exact St.imp.refl
  ·simp[c_s_newTableau_l1,stN1,c_s_newTableau_k2,r_s_newTableau,-dgE]
   exact h
end Go.Proofs.Ytbgnkodhpbkdoaa

namespace Go.Proofs.Ytbgnkodhpbkdoaa
open Go Go.Am Go.Dig Go.LP
noncomputable def stZi (n:Nat) (out:List (List (Nat × AV))) (k:Nat):St:={env:=[(3,.sl 1006 3 0 n),(8,iv n),(9,iv k)],sto:=[(1006,.arr 3 (fZ (fun _=>0) k n))],out:=out,base:=1000}
theorem zerosI {n:Nat} {s:St} {K:AV→St→Prop} (hs:s.sto=[]) (hn:n<1000000) (h:K (.sl 1006 3 0 n) ⟨s.env,[(1006,.arr 3 (fR (fun _=>0) n))],s.out,s.base⟩) :
  CallI Try.prog F_s_zeros [iv n] s K:=by
 obtain ⟨env,σ,out,base⟩:=s
 simp only at hs h
 subst hs
 refine soundI' 1000 t_s_zeros (by simp) ?_
 simp[c_s_zeros,eMk]
 refine ⟨by omega,by omega,?_⟩
 rw[fZ_zero (f:=fun _=>0)]
 have k0:SoundCall Try.prog F_f_FromInt [iv 0] (fq 0):=fromInt_q (n:=0) (by decide) (by decide)
 refine awp_forW (stZi n (env::out)) (fun _=>True) n (by simp[stZi]) trivial (fun k hk _=>?_) (fun _=>?_)
 ·have e:(k:Int)<n:=by omega
  have w:=wrap_succ (k:=k) (by omega)
  have hs:=fZ_set (f:=fun _=>0) hk
  simp[c_s_zeros_l0,stZi,e]
  refine eCall_i k0 (by simp) (by simp) ?_
  simp[splice,hk,w,hs,stZi]
 ·simp[c_s_zeros_l0,c_s_zeros_k1,r_s_zeros,stZi,fZ_full]
  exact h
theorem ok_zeros:okFn Try.prog F_s_zeros=true:=by kernel_rfl
noncomputable def tR (n m:Nat) (d:Dict):AV:=.ro [iv n,iv m,.list 1 .plain (cR d.a (fun _=>d.c) m),fL d.b m,fL d.cst d.c,f0 d.v,f1 d.v,f2 d.v,.list 1 .plain (nR d.bas m),.list 1 .plain (nR d.fre d.c)]
def priD (n m:Nat) (d:Dict):Nat→Nat→Rat
 | 0=>fun _=>0
 | k+1=>if n≤d.fre k∧d.fre k<n+m then upd (priD n m d k) (d.fre k-n) (-d.cst k) else priD n m d k
noncomputable def stPr (n m:Nat) (d:Dict) (k:Nat):St :=
 {env:=[(0,tR n m d),(3,.sl 1006 3 0 m),(14,.list 1 .plain (nR d.fre d.c)),(15,iv d.c),(16,iv k)],sto:=[(1006,.arr 3 (fR (priD n m d k) m))]}
theorem prices_sound {n m L:Nat} {d:Dict} (hm:m<1000000) (hn:n<1000000) (hc:d.c<1000000) (hfre:∀ j,j<d.c→d.fre j<4000000) (hL:L≤100000000000) (hsz:∀ j,j<d.c→sz L (d.cst j)) :
  SoundCall Try.prog F__tb_prices [tR n m d] (fL (priD n m d d.c) m):=by
 refine sound' t__tb_prices (by simp[tR]) ?_
 simp[c__tb_prices,tR,ok_zeros]
 refine eCallI_of (zerosI rfl hm ?_)
 simp
 refine awp_forW (stPr n m d) (fun _=>True) d.c (by simp[stPr,tR,priD]) trivial (fun k hk _=>?_) (fun _=>?_)
 ·have e:(k:Int)<d.c:=by omega
  have w:=wrap_succ (k:=k) (by omega)
  have g:=neg_q (K:=L) (by omega) (hsz k hk)
  have hf:=hfre k hk
  obtain ⟨f,hfe⟩:∃ f,d.fre k=f:=⟨_,rfl⟩
  rw[hfe] at hf
  have w1:IntKind.i64.wrap ((n:Int)+m)=(n:Int)+m:=by rw[wrap64]<;>omega
  by_cases h1:n≤f
  ·by_cases h2:f<n+m
   ·have ev:priD n m d (k+1)=upd (priD n m d k) (f-n) (-d.cst k):=by simp only[priD]; rw[hfe,if_pos ⟨h1,h2⟩]
    have h1':(n:Int)≤f:=by omega
    have h2':(f:Int)<n+m:=by omega
    have w2:IntKind.i64.wrap ((f:Int)-n)=((f-n:Nat):Int):=by rw[wrap64]<;>omega
    have h3:f-n<m:=by omega
    have h4:((f-n:Nat):Int)<m:=by omega
    generalize f-n=g0 at *
    simp[c__tb_prices_l0,stPr,tR,e,hk,hfe,w1,h1',h2',w2]
    refine eCall_i g (by simp) (by simp) ?_
    simp[splice,h3,h4,w,stPr,tR,ev,fR_set]
   ·have ev:priD n m d (k+1)=priD n m d k:=by simp only[priD]; rw[hfe,if_neg fun h=>h2 h.2]
    have h1':(n:Int)≤f:=by omega
    have h2':¬ (f:Int)<n+m:=by omega
    simp[c__tb_prices_l0,stPr,tR,e,hk,hfe,w1,h1',h2',w,ev]
  ·have ev:priD n m d (k+1)=priD n m d k:=by simp only[priD]; rw[hfe,if_neg fun h=>h1 h.1]
   have h1':¬ (n:Int)≤f:=by omega
   simp[c__tb_prices_l0,stPr,tR,e,hk,hfe,h1',w,ev]
 ·simp[c__tb_prices_l0,c__tb_prices_k1,r__tb_prices,stPr]
def poiD (n:Nat) (d:Dict):Nat→Nat→Rat
 | 0=>fun _=>0
 | k+1=>if d.bas k<n then upd (poiD n d k) (d.bas k) (d.b k) else poiD n d k
noncomputable def stPo (n m:Nat) (d:Dict) (k:Nat):St :=
 {env:=[(0,tR n m d),(3,.sl 1006 3 0 n),(14,.list 1 .plain (nR d.bas m)),(15,iv m),(16,iv k)],sto:=[(1006,.arr 3 (fR (poiD n d k) n))]}
theorem point_sound {n m:Nat} {d:Dict} (hm:m<1000000) (hn:n<1000000) :
  SoundCall Try.prog F__tb_point [tR n m d] (fL (poiD n d m) n):=by
 refine sound' t__tb_point (by simp[tR]) ?_
 simp[c__tb_point,tR,ok_zeros]
 refine eCallI_of (zerosI rfl hn ?_)
 simp
 refine awp_forW (stPo n m d) (fun _=>True) m (by simp[stPo,tR,poiD]) trivial (fun k hk _=>?_) (fun _=>?_)
 ·have e:(k:Int)<m:=by omega
  have w:=wrap_succ (k:=k) (by omega)
  obtain ⟨f,hfe⟩:∃ f,d.bas k=f:=⟨_,rfl⟩
  by_cases h1:f<n
  ·have ev:poiD n d (k+1)=upd (poiD n d k) f (d.b k):=by simp only[poiD]; rw[hfe,if_pos h1]
   have h1':(f:Int)<n:=by omega
   simp[c__tb_point_l0,stPo,tR,e,hk,hfe,h1,h1',w,ev,splice,fR_set]
  ·have ev:poiD n d (k+1)=poiD n d k:=by simp only[poiD]; rw[hfe,if_neg h1]
   have h1':¬ (f:Int)<n:=by omega
   simp[c__tb_point_l0,stPo,tR,e,hk,hfe,h1',w,ev]
 ·simp[c__tb_point_l0,c__tb_point_k1,r__tb_point,stPo]
def rayD (n:Nat) (d:Dict) (q:Nat):Nat→Nat→Rat
 | 0=>if d.fre q<n then upd (fun _=>0) (d.fre q) 1 else fun _=>0
 | k+1=>if d.bas k<n then upd (rayD n d q k) (d.bas k) (-d.a k q) else rayD n d q k
noncomputable def stRa (n m q:Nat) (d:Dict) (k:Nat):St :=
 {env:=[(0,tR n m d),(1,iv q),(5,.sl 1006 3 0 n),(38,.list 1 .plain (nR d.bas m)),(39,iv m),(40,iv k)],sto:=[(1006,.arr 3 (fR (rayD n d q k) n))]}
theorem ray_sound {n m q L:Nat} {d:Dict} (hm:m<1000000) (hn:n<1000000) (hq:q<d.c) (hL:L≤100000000000) (hsz:∀ i,i<m→sz L (d.a i q)) :
  SoundCall Try.prog F__tb_ray [tR n m d,iv q] (fL (rayD n d q m) n):=by
 have h1g:SoundCall Try.prog F_f_FromInt [iv 1] (fq 1):=fromInt_q (n:=1) (by decide) (by decide)
 have eq0:(q:Int)<d.c:=by omega
 obtain ⟨f,hfe⟩:∃ f,d.fre q=f:=⟨_,rfl⟩
 have loop:awp Try.prog (.loop c__tb_ray_l0) (stRa n m q d 0) (blockC 0 (seqC Try.prog c__tb_ray_k1 (retC r__tb_ray (fL (rayD n d q m) n)))):=by
  refine awp_forW (stRa n m q d) (fun _=>True) m (by simp[stRa]) trivial (fun k hk _=>?_) (fun _=>?_)
  ·have e:(k:Int)<m:=by omega
   have w:=wrap_succ (k:=k) (by omega)
   have g:=neg_q (K:=L) (by omega) (hsz k hk)
   obtain ⟨f,hfe⟩:∃ f,d.bas k=f:=⟨_,rfl⟩
   by_cases h1:f<n
   ·have ev:rayD n d q (k+1)=upd (rayD n d q k) f (-d.a k q):=by simp only[rayD]; rw[hfe,if_pos h1]
    have h1':(f:Int)<n:=by omega
    simp[c__tb_ray_l0,stRa,tR,e,hk,hq,eq0,hfe,h1']
    refine eCall_i g (by simp) (by simp) ?_
    simp[stRa,tR,h1,h1',w,ev,splice,fR_set]
   ·have ev:rayD n d q (k+1)=rayD n d q k:=by simp only[rayD]; rw[hfe,if_neg h1]
    have h1':¬ (f:Int)<n:=by omega
    simp[c__tb_ray_l0,stRa,tR,e,hk,hfe,h1',w,ev]
  ·simp[c__tb_ray_l0,c__tb_ray_k1,r__tb_ray,stRa]
 refine sound' t__tb_ray (by simp[tR]) ?_
 simp[c__tb_ray,tR,ok_zeros]
 refine eCallI_of (zerosI rfl hn ?_)
 by_cases h1:f<n
 ·have h1':(f:Int)<n:=by omega
  have ev:rayD n d q 0=upd (fun _=>0) f 1:=by simp only[rayD]; rw[hfe,if_pos h1]
  simp[hq,eq0,hfe,h1']
  refine eCall_i h1g (by simp) (by simp) ?_
  simp[h1,h1',splice,fR_set]
  simpa [stRa,tR,ev] using loop
 ·have h1':¬ (f:Int)<n:=by omega
  have ev:rayD n d q 0=fun _=>0:=by simp only[rayD]; rw[hfe,if_neg h1]
  simp[hq,eq0,hfe,h1']
  simpa [stRa,tR,ev] using loop
end Go.Proofs.Ytbgnkodhpbkdoaa

namespace Go.Proofs.Ytbgnkodhpbkdoaa
open Go Go.Am Go.Dig Go.LP
noncomputable def stZj (n:Nat) (σ:List (Nat × Entry)) (out:List (List (Nat × AV))) (k:Nat):St:={env:=[(3,.sl 5006 3 0 n),(8,iv n),(9,iv k)],sto:=σ++[(5006,.arr 3 (fZ (fun _=>0) k n))],out:=out,base:=5000}
theorem zerosT {n n' m:Nat} {d:Dict} {ρ:List (Nat × Entry)} {s:St} {K:AV→St→Prop} (hs:s.sto=ρ++tL n' m d) (hρ:rest ρ) (hn:n<1000000)
  (h:K (.sl 5006 3 0 n) ⟨s.env,ρ++(tL n' m d++[(5006,.arr 3 (fR (fun _=>0) n))]),s.out,s.base⟩) :
  CallI Try.prog F_s_zeros [iv n] s K:=by
 obtain ⟨env,σ,out,base⟩:=s
 simp only at hs h
 subst hs
 refine soundI' 5000 t_s_zeros (by simp) ?_
 simp[c_s_zeros,eMk,tL,rlk hρ,rpt hρ,far]
 refine ⟨by omega,by omega,?_⟩
 rw[fZ_zero (f:=fun _=>0)]
 have k0:SoundCall Try.prog F_f_FromInt [iv 0] (fq 0):=fromInt_q (n:=0) (by decide) (by decide)
 refine awp_forW (stZj n (ρ++tL n' m d) (env::out)) (fun _=>True) n (by simp[stZj,tL]) trivial (fun k hk _=>?_) (fun _=>?_)
 ·have e:(k:Int)<n:=by omega
  have w:=wrap_succ (k:=k) (by omega)
  have hs:=fZ_set (f:=fun _=>0) hk
  simp[c_s_zeros_l0,stZj,tL,e]
  refine eCall_i k0 (by simp) (by simp) ?_
  simp[splice,hk,w,hs,stZj,rlk hρ,rpt hρ,far]
 ·simp[c_s_zeros_l0,c_s_zeros_k1,r_s_zeros,stZj,tL,fZ_full]
  exact h
noncomputable def stFi (ls:List (Nat × AV)) (σ:List (Nat × Entry)) (f:Nat→Rat) (len:Nat) (out:List (List (Nat × AV))) (last:Bool):St :=
 if last then ⟨ls++[(3,fL f len)],σ,out,4500⟩ else ⟨ls++[(3,.sl 5006 3 0 len)],σ++[(5006,.arr 3 (fR f len))],out,4500⟩
theorem stFi_false {ls:List (Nat × AV)} {σ:List (Nat × Entry)} {f:Nat→Rat} {len:Nat} {out:List (List (Nat × AV))}:stFi ls σ f len out false=⟨ls++[(3,.sl 5006 3 0 len)],σ++[(5006,.arr 3 (fR f len))],out,4500⟩:=rfl
theorem noRef_of_low {M k len:Nat} {ls:List (Nat × AV)} {f:Nat→Rat} (hl:lowF M ls) (hk:M≤k):noRef k (ls++[(3,fL f len)])=true :=
 lowF_noRef (M:=M) hk fun p hp=>by
  rcases List.mem_append.1 hp with h | h
  ·exact hl p h
  ·simp only[List.mem_singleton] at h; subst h; rfl
theorem stFi_imp {ls:List (Nat × AV)} {n m:Nat} {d:Dict} {ρ:List (Nat × Entry)} {f:Nat→Rat} {len:Nat} {out:List (List (Nat × AV))} {last:Bool} (hρ:rest ρ) (hl:lowF 3000 ls) (hO:lowO 2000 out) :
  St.imp (stFi ls (ρ++tL n m d) f len out false) (stFi ls (ρ++tL n m d) f len out last):=by
 cases last with
 | false=>exact St.imp.refl
 | true =>
  refine St.imp_freeze (k:=5006) ?_
  have hn1:noRef 5006 (ls++[(3,fL f len)])=true:=noRef_of_low hl (by omega)
  have e1:=lowF_frz (k:=5006) (e:=.arr 3 (fR f len)) (by omega) hl
  simp[eFreeze,stFi,tL,rlk hρ,rdel hρ,rnoRef hρ,ono hO,rfrz hρ,ofrz hO,far,frzE_var,frzE_uarr,frz_plain,frz_us,e1,hn1]
abbrev lsA (d:Dict) (k:Nat):List (Nat × AV):=[(0,.ptr 1015 0),(14,.us 2029 1 0 d.c),(15,iv d.c),(16,iv k)]
theorem lsA_low {d:Dict} {k:Nat}:lowF 3000 (lsA d k):=by simp[lowF_cons,lowF_nil,low_iv,low_ptr]; rfl
theorem pricesI {n m L:Nat} {d:Dict} {ρ:List (Nat × Entry)} {s:St} {K:AV→St→Prop} (hs:s.sto=ρ++tL n m d) (hρ:rest ρ) (hE:lowF 2000 s.env) (hO:lowO 2000 s.out) (hm:m<1000000) (hn:n<1000000) (hc:d.c<1000000) (hfre:∀ j,j<d.c→d.fre j<4000000) (hL:L≤100000000000) (hsz:∀ j,j<d.c→sz L (d.cst j))
  (h:K (fL (priD n m d d.c) m) ⟨s.env,ρ++tL n m d,s.out,s.base⟩):CallI Try.prog F__tb_prices [.ptr 1015 0] s K:=by
 obtain ⟨env,σ,out,base⟩:=s
 simp only at hs hE hO h
 subst hs
 have hO2:lowO 2000 (env::out):=lowO_cons.2 ⟨hE,hO⟩
 refine soundI' 4500 t__tb_prices (by simp) ?_
 simp[c__tb_prices,ok_zeros,tL,rlk hρ,far]
 refine eCallI_of (zerosT (d:=d) (n':=n) (m:=m) rfl hρ hm ?_)
 simp[tL,rlk hρ,far]
 refine awp_forS (fun k=>stFi (lsA d k) (ρ++tL n m d) (priD n m d k) m (env::out) (k == d.c)) (fun _=>True) d.c (St.imp.trans (St.imp_of (by simp[stFi,tL,priD])) (stFi_imp hρ lsA_low hO2)) trivial (fun k hk _=>?_) (fun _=>?_)
 ·have e:(k:Int)<d.c:=by omega
  have hlast:(k == d.c)=false:=by simp; omega
  rw[hlast]
  have fin:=stFi_imp (last:=k+1 == d.c) (n:=n) (m:=m) (d:=d) (f:=priD n m d (k+1)) (len:=m) hρ (lsA_low (d:=d) (k:=k+1)) hO2
  have w:=wrap_succ (k:=k) (by omega)
  have g:=neg_q (K:=L) (by omega) (hsz k hk)
  have hf:=hfre k hk
  obtain ⟨f,hfe⟩:∃ f,d.fre k=f:=⟨_,rfl⟩
  rw[hfe] at hf
  have w1:IntKind.i64.wrap ((n:Int)+m)=(n:Int)+m:=by rw[wrap64]<;>omega
  by_cases h1:n≤f
  ·by_cases h2:f<n+m
   ·have ev:priD n m d (k+1)=upd (priD n m d k) (f-n) (-d.cst k):=by simp only[priD]; rw[hfe,if_pos ⟨h1,h2⟩]
    have h1':(n:Int)≤f:=by omega
    have h2':(f:Int)<n+m:=by omega
    have w2:IntKind.i64.wrap ((f:Int)-n)=((f-n:Nat):Int):=by rw[wrap64]<;>omega
    have h3:f-n<m:=by omega
    have h4:((f-n:Nat):Int)<m:=by omega
    rw[ev] at fin
    generalize f-n=g0 at *
    simp[c__tb_prices_l0,stFi_false,tL,rlk hρ,far,e,hk,hfe,w1,h1',h2',w2]
    refine eCall_i g (by simp) (by simp) ?_
    simp[splice,h3,h4,w,fR_set,rlk hρ,rpt hρ,far]
    rw[ev]
    refine St.imp.trans (St.imp_of ?_) fin
    simp[stFi,tL]
   ·have ev:priD n m d (k+1)=priD n m d k:=by simp only[priD]; rw[hfe,if_neg fun h=>h2 h.2]
    have h1':(n:Int)≤f:=by omega
    have h2':¬ (f:Int)<n+m:=by omega
    simp[c__tb_prices_l0,stFi_false,tL,rlk hρ,far,e,hk,hfe,w1,h1',h2',w]
    refine St.imp.trans (St.imp_of ?_) fin
    simp[stFi,tL,ev]
  ·have ev:priD n m d (k+1)=priD n m d k:=by simp only[priD]; rw[hfe,if_neg fun h=>h1 h.1]
   have h1':¬ (n:Int)≤f:=by omega
   simp[c__tb_prices_l0,stFi_false,tL,rlk hρ,far,e,hk,hfe,h1',w]
   refine St.imp.trans (St.imp_of ?_) fin
   simp[stFi,tL,ev]
 ·simp[c__tb_prices_l0,c__tb_prices_k1,r__tb_prices,stFi]
  exact h
end Go.Proofs.Ytbgnkodhpbkdoaa

namespace Go.LP
def sk (j k:Nat):Nat:=if k<j then k else k+1
theorem sk_ne {j k:Nat}:sk j k≠j:=by unfold sk; split<;>omega
theorem sk_lt {j k n:Nat} (hj:j<n) (h:k<n-1):sk j k<n:=by unfold sk; split<;>omega
theorem sumR_skip {j:Nat} {f:Nat→Rat}:∀ {n:Nat},j<n+1→sumR (n+1) f=sumR n (fun k=>f (sk j k))+f j
 | 0,h=>by
  obtain rfl:j=0:=by omega
  simp[sumR]
 | n+1,h=>by
  by_cases e:j=n+1
  ·subst e
   simp only[sumR]
   rw[sumR_congr (n:=n) (f:=fun k=>f (sk (n+1) k)) (g:=f) fun k hk=>by unfold sk; rw[if_pos (by omega)]]
   unfold sk; rw[if_pos (by omega)]
  ·have ih:=sumR_skip (f:=f) (n:=n) (show j<n+1 by omega)
   rw[show sumR (n+1+1) f=sumR (n+1) f+f (n+1) from rfl,ih]
   simp only[sumR]
   rw[show sk j n=n+1 by unfold sk; rw[if_neg (by omega)]]
   grind
def dropD (d:Dict) (j:Nat):Dict:=⟨d.r,d.c-1,fun i k=>d.a i (sk j k),d.b,fun k=>d.cst (sk j k),d.v,d.bas,fun k=>d.fre (sk j k)⟩
theorem feas_deg {d:Dict} {p q:Nat} (h:feas d) (hb:d.b p=0):feas (pivot d p q):=by
 intro i hi
 have:=h i hi
 simp only[pivot,hb]
 split<;>grind
section
variable {n m:Nat} {A:Nat→Nat→Rat} {bb gg:Nat→Rat}
theorem start_a {p:Nat}:(dA n m A bb).a p n≠0:=by
 simp only[dA,Nat.lt_irrefl,if_false]
 grind
theorem start_same {p:Nat} (hp:p<m):Same (pivot (dA n m A bb) p n) (dA n m A bb) (n+m+1):=Same.pivot dA_bij hp (Nat.lt_succ_self n) start_a
theorem start_feas {p:Nat} (h0:bb p<0) (hmin:∀ i,i<m→bb p≤bb i):feas (pivot (dA n m A bb) p n):=by
 intro i hi
 have:=hmin i hi
 simp only[pivot,dA,Nat.lt_irrefl,if_false]
 split<;>grind
section
variable {d:Dict} (h:Same d (dA n m A bb) (n+m+1))
include h
theorem ph1_obj {x:Nat→Rat} (hx:sol d x):obj d x=- x (n+m):=by rw[h.obj x hx,obj_dA]
theorem ph1_v (hf:feas d):d.v≤0:=by
 have h1:=ph1_obj h (vl_sol h.bd)
 rw[vl_obj h.bd] at h1
 have:=vl_nonneg h.bd hf (n+m)
 grind
theorem ph1_bounded (hf:feas d) {q:Nat} (hq:q<d.c) (hc:0<d.cst q) (ha:∀ i,i<d.r→d.a i q≤0):False:=by
 have hv:=ph1_v h hf
 have hy0:0≤1/d.cst q:=by have:=inv_pos' hc; grind
 have hy:0≤(1-d.v)*(1/d.cst q):=Rat.mul_nonneg (by grind) hy0
 have h1:=ph1_obj h (ptq_sol h.bd hq (y:=(1-d.v)*(1/d.cst q)))
 rw[ptq_obj h.bd hq] at h1
 have h2:d.v+d.cst q*((1-d.v)*(1/d.cst q))=1:=by grind
 have h3:0≤ptq d q ((1-d.v)*(1/d.cst q)) (n+m):=by
  unfold ptq
  generalize (1-d.v)*(1/d.cst q)=y at *
  have:0≤sumR d.r (fun i=>if d.bas i=n+m then d.b i-d.a i q*y else 0):=sumR_nonneg fun i hi=>by
   split
   ·have h4:=hf i hi
    have h5:=Rat.mul_nonneg (show 0≤- d.a i q by have:=ha i hi; grind) hy
    grind
   ·grind
  split<;>grind
 rw[h2] at h1
 grind
theorem ph1_piv {i:Nat} (hi:i<d.r) (hb:d.bas i=n+m):∃ j,j<d.c∧d.a i j≠0:=by
 apply Classical.byContradiction
 intro hno
 have hz:∀ j,j<d.c→d.a i j=0:=fun j hj=>Classical.byContradiction fun e=>hno ⟨j,hj,e⟩
 have hx:=(h.sol _).2 (sol_dA' (n:=n) (m:=m) (A:=A) (bb:=bb) (x:=fun k=>if k<n then 0 else if k=n+m then d.b i+1 else bb (k-n)+(d.b i+1)) fun l hl=>by
  rw[if_neg (by omega),if_neg (by omega),if_neg (by omega),if_pos rfl,Nat.add_sub_cancel_left,sumR_zero fun j hj=>by rw[if_pos hj]; grind]
  grind)
 have h1:=hx i hi
 rw[hb,sumR_zero fun j hj=>by rw[hz j hj]; grind] at h1
 dsimp only at h1
 rw[if_neg (by omega),if_pos rfl] at h1
 grind
theorem ph1_b0 {i:Nat} (hi:i<d.r) (hb:d.bas i=n+m) (hv:d.v=0):d.b i=0:=by
 have h1:=ph1_obj h (vl_sol h.bd)
 rw[vl_obj h.bd,← hb,vl_bas h.bd hi] at h1
 grind
theorem drop_bij {j:Nat} (hj:j<d.c) (hfre:d.fre j=n+m):Bij (dropD d j) (n+m):=by
 intro g
 have h1:=h.bd fun k=>if k=n+m then 0 else g k
 obtain ⟨c,hc⟩:∃ c,d.c=c+1:=⟨d.c-1,by omega⟩
 simp only[sumR,if_true] at h1
 rw[hc,sumR_skip (j:=j) (by omega)] at h1
 simp only[dropD,hc,Nat.add_sub_cancel]
 rw[hfre,if_pos rfl,sumR_congr (n:=n+m) (g:=g) fun k hk=>if_neg (by omega),
  sumR_congr (n:=c) (g:=fun k=>g (d.fre (sk j k))) fun k hk=>if_neg fun e=>sk_ne (fre_inj h.bd (sk_lt (n:=d.c) (k:=k) hj (by omega)) hj (by rw[e,hfre])),
  sumR_congr (n:=d.r) (g:=fun i=>g (d.bas i)) fun i hi=>if_neg fun e=>fre_ne_bas h.bd hi hj (by rw[e,hfre])] at h1
 grind
theorem drop_sol {j:Nat} (hj:j<d.c) (hfre:d.fre j=n+m) (x:Nat→Rat):sol (dropD d j) x↔sol (dG n m A bb gg) x:=by
 obtain ⟨c,hc⟩:∃ c,d.c=c+1:=⟨d.c-1,by omega⟩
 have e1:sol (dropD d j) x↔sol d (fun k=>if k=n+m then 0 else x k):=by
  refine forall_congr' fun i=>forall_congr' fun hi=>?_
  simp only[dropD,hc,Nat.add_sub_cancel]
  rw[if_neg fun e=>fre_ne_bas h.bd hi hj (by rw[e,hfre]),sumR_skip (j:=j) (by omega),hfre,if_pos rfl,
   sumR_congr (n:=c) (f:=fun k=>d.a i (sk j k)*(if d.fre (sk j k)=n+m then 0 else x (d.fre (sk j k)))) (g:=fun k=>d.a i (sk j k)*x (d.fre (sk j k))) fun k hk=>by
    rw[if_neg fun e=>sk_ne (fre_inj h.bd (sk_lt (n:=d.c) (k:=k) hj (by omega)) hj (by rw[e,hfre]))]]
  grind
 rw[e1,h.sol]
 constructor
 ·intro hx i hi
  have:=sol_dA hx hi
  rw[if_neg (by simp only[dG] at hi; omega),if_pos rfl,sumR_congr (n:=n) (g:=fun j=>A i j*x j) fun k hk=>by rw[if_neg (by omega)]] at this
  simp only[dG]
  grind
 ·intro hx
  refine sol_dA' fun i hi=>?_
  have:=sol_dG hx hi
  rw[if_neg (by omega),if_pos rfl,sumR_congr (n:=n) (g:=fun j=>A i j*x j) fun k hk=>by rw[if_neg (by omega)]]
  grind
end
end
theorem vl_sz {d:Dict} {N L:Nat} (hb:Bij d N) (hs:szD L d) (k:Nat):sz L (vl d k):=by
 by_cases h:inB d k
 ·obtain ⟨i,hi,rfl⟩:=h
  rw[vl_bas hb hi]; exact hs.b i hi
 ·rw[vl_fre h]; exact sz_zero
theorem cv_sz {d:Dict} {N L:Nat} (hb:Bij d N) (hs:szD L d) (k:Nat):sz L (cv d k):=by
 by_cases h:∃ j,j<d.c∧d.fre j=k
 ·obtain ⟨j,hj,rfl⟩:=h
  rw[cv_fre hb hj]; exact hs.cst j hj
 ·have:cv d k=0:=sumR_zero fun j hj=>if_neg fun e=>h ⟨j,hj,e⟩
  rw[this]; exact sz_zero
theorem rayq_sz {d:Dict} {N L q:Nat} (hb:Bij d N) (hs:szD L d) (hq:q<d.c) (k:Nat):sz L (rayq d q k):=by
 by_cases h:inB d k
 ·obtain ⟨i,hi,rfl⟩:=h
  have e:rayq d q (d.bas i)=- d.a i q:=by rw[rayq_eq,ptq_bas hb hq hi,ptq_bas hb hq hi]; grind
  rw[e]; exact sz_neg (hs.a i q hi hq)
 ·unfold rayq
  rw[sumR_zero fun i hi=>if_neg fun e=>h ⟨i,hi,e⟩]
  split
  ·rw[show (0:Rat)+1=1 by grind]; exact sz_one
  ·rw[show (0:Rat)+0=0 by grind]; exact sz_zero
def sgV (n:Nat) (g:Nat→Rat) (d:Dict) (k:Nat):Rat:=sumR k fun i=>if d.bas i<n then g (d.bas i)*d.b i else 0
def sgC (n:Nat) (g:Nat→Rat) (d:Dict) (k j:Nat):Rat:=(if d.fre j<n then g (d.fre j) else 0)-sumR k fun i=>if d.bas i<n then g (d.bas i)*d.a i j else 0
def goalD (n:Nat) (g:Nat→Rat) (d:Dict):Dict:={d with cst:=sgC n g d d.r,v:=sgV n g d d.r}
section
variable {n m:Nat} {A:Nat→Nat→Rat} {bb gg:Nat→Rat}
theorem goal_same {d:Dict} (hb:Bij d (n+m)) (hs:∀ x,sol d x↔sol (dG n m A bb gg) x):Same (goalD n gg d) (dG n m A bb gg) (n+m):=by
 refine ⟨hb,dG_bij,hs,fun x hx=>?_⟩
 have hx':sol d x:=hx
 rw[obj_dG]
 have h1:=hb fun k=>if k<n then gg k*x k else 0
 rw[sumR_app,sumR_congr (n:=n) (g:=fun k=>gg k*x k) fun k hk=>if_pos hk,sumR_zero (n:=m) fun k hk=>if_neg (by omega)] at h1
 have h2:sumR d.r (fun i=>if d.bas i<n then gg (d.bas i)*x (d.bas i) else 0)=sgV n gg d d.r-sumR d.c fun j=>sumR d.r (fun i=>if d.bas i<n then gg (d.bas i)*d.a i j else 0)*x (d.fre j):=by
  rw[sumR_congr (n:=d.c) (g:=fun j=>sumR d.r fun i=>if d.bas i<n then gg (d.bas i)*d.a i j*x (d.fre j) else 0) fun j hj=>by
   rw[← sumR_mul']; exact sumR_congr fun i hi=>by split<;>grind]
  rw[← sumR_comm,sgV,← sumR_sub]
  refine sumR_congr fun i hi=>?_
  by_cases e:d.bas i<n
  ·simp only[if_pos e]
   rw[hx' i hi,sumR_congr (n:=d.c) (f:=fun j=>gg (d.bas i)*d.a i j*x (d.fre j)) (g:=fun j=>gg (d.bas i)*(d.a i j*x (d.fre j))) fun j hj=>by grind,sumR_mul]
   grind
  ·simp only[if_neg e]
   rw[sumR_zero fun j hj=>rfl]
   grind
 have h3:sumR d.c (fun j=>sgC n gg d d.r j*x (d.fre j))=sumR d.c (fun j=>if d.fre j<n then gg (d.fre j)*x (d.fre j) else 0)-sumR d.c fun j=>sumR d.r (fun i=>if d.bas i<n then gg (d.bas i)*d.a i j else 0)*x (d.fre j):=by
  rw[← sumR_sub]
  refine sumR_congr fun j hj=>?_
  unfold sgC
  split<;>grind
 show sgV n gg d d.r+sumR d.c (fun j=>sgC n gg d d.r j*x (d.fre j))=_
 rw[h3]
 grind
end
end Go.LP

namespace Go.Proofs.Ytbgnkodhpbkdoaa
open Go Go.Am Go.Dig Go.LP
theorem sgV_sz {n k L:Nat} {g:Nat→Rat} {d:Dict} (hg:∀ j,j<n→sz L (g j)) (hb:∀ i,i<k→sz L (d.b i)):sz (k*(2*L+1)) (sgV n g d k):=by
 induction k with
 | zero=>exact sz_zero
 | succ k ih =>
  have h1:=ih fun i hi=>hb i (by omega)
  have e:(k+1)*(2*L+1)=k*(2*L+1)+(L+L)+1:=by rw[Nat.succ_mul]; omega
  rw[e]
  refine sz_add h1 ?_
  dsimp only
  split
  ·rename_i h; exact sz_mul (hg _ h) (hb k (by omega))
  ·exact sz_zero
theorem sgC_sz {n k L j:Nat} {g:Nat→Rat} {d:Dict} (hg:∀ j,j<n→sz L (g j)) (ha:∀ i,i<k→sz L (d.a i j)):sz (L+k*(2*L+1)+1) (sgC n g d k j):=by
 refine sz_sub ?_ ?_
 ·split
  ·rename_i h; exact hg _ h
  ·exact sz_zero
 ·induction k with
  | zero=>exact sz_zero
  | succ k ih =>
   have h1:=ih fun i hi=>ha i (by omega)
   have e:(k+1)*(2*L+1)=k*(2*L+1)+(L+L)+1:=by rw[Nat.succ_mul]; omega
   rw[e]
   refine sz_add h1 ?_
   dsimp only
   split
   ·rename_i h; exact sz_mul (hg _ h) (ha k (by omega))
   ·exact sz_zero
def wv (d:Dict) (v:Rat):Dict:={d with v:=v}
noncomputable def stG0 (n m:Nat) (g:Nat→Rat) (d:Dict) (ρ:List (Nat × Entry)) (out:List (List (Nat × AV))) (k:Nat):St :=
 {env:=[(0,.ptr 1015 0),(1,fL g n),(4,.sl 5020 3 0 d.c),(24,.us 2029 1 0 d.c),(25,iv d.c),(26,iv k)],
  sto:=ρ++(tL n m (wv d 0)++[(5020,.arr 3 (fZ (sgC n g d 0) k d.c))]),out:=out,base:=5000}
noncomputable def stG3o (n m:Nat) (g:Nat→Rat) (d:Dict) (ρ:List (Nat × Entry)) (out:List (List (Nat × AV))) (k:Nat):St :=
 {env:=[(0,.ptr 1015 0),(1,fL g n),(4,.sl 5020 3 0 d.c),(52,.us 1987 1 0 m),(53,iv m),(54,iv k)],
  sto:=ρ++(tL n m (wv d (sgV n g d k))++[(5020,.arr 3 (fR (sgC n g d k) d.c))]),out:=out,base:=5000}
noncomputable def stG3 (n m:Nat) (g:Nat→Rat) (d:Dict) (ρ:List (Nat × Entry)) (out:List (List (Nat × AV))) (k:Nat):St :=
 if k=m then ⟨[(0,.ptr 1015 0),(1,fL g n),(4,fL (sgC n g d k) d.c),(52,.us 1987 1 0 m),(53,iv m),(54,iv k)],
  ρ++tL n m (wv d (sgV n g d k)),out,5000⟩ else stG3o n m g d ρ out k
theorem stG3_lt {n m:Nat} {g:Nat→Rat} {d:Dict} {ρ:List (Nat × Entry)} {out:List (List (Nat × AV))} {k:Nat} (h:k<m):stG3 n m g d ρ out k=stG3o n m g d ρ out k:=if_neg (by omega)
theorem stG3_end {n m:Nat} {g:Nat→Rat} {d:Dict} {ρ:List (Nat × Entry)} {out:List (List (Nat × AV))}:stG3 n m g d ρ out m=⟨[(0,.ptr 1015 0),(1,fL g n),(4,fL (sgC n g d m) d.c),(52,.us 1987 1 0 m),(53,iv m),(54,iv m)],
  ρ++tL n m (wv d (sgV n g d m)),out,5000⟩:=if_pos rfl
theorem stG3_imp {n m:Nat} {g:Nat→Rat} {d:Dict} {ρ:List (Nat × Entry)} {out:List (List (Nat × AV))} (hρ:rest ρ) (hO:lowO 2000 out) (k:Nat):St.imp (stG3o n m g d ρ out k) (stG3 n m g d ρ out k):=by
 unfold stG3
 split
 ·refine St.imp_freeze (k:=5020) ?_
  simp[eFreeze,stG3o,tL,rlk hρ,rdel hρ,rnoRef hρ,ono hO,rfrz hρ,ofrz hO,far,wv,frzE_var,frzE_uarr,frz_plain,frz_us]
 ·exact St.imp.refl
noncomputable def stG1 (n m:Nat) (g:Nat→Rat) (d:Dict) (ρ:List (Nat × Entry)) (out:List (List (Nat × AV))) (k:Nat) (l:Nat):St :=
 {env:=[(0,.ptr 1015 0),(1,fL g n),(4,.sl 5020 3 0 d.c),(8,iv (d.bas k)),(52,.us 1987 1 0 m),(53,iv m),(54,iv k),(99,fL (d.a k) d.c),(100,iv d.c),(101,iv l)],
  sto:=ρ++(tL n m (wv d (sgV n g d (k+1)))++[(5020,.arr 3 (fR (fun j=>if j<l then sgC n g d (k+1) j else sgC n g d k j) d.c))]),out:=out,base:=5000}
theorem setGoalI {n m L:Nat} {g:Nat→Rat} {d:Dict} {ρ:List (Nat × Entry)} {s:St} {K:AV→St→Prop} (hs:s.sto=ρ++tL n m d) (hρ:rest ρ) (hE:lowF 2000 s.env) (hO:lowO 2000 s.out) (hm:m<1000000) (_hn:n<1000000) (hc:d.c<1000000) (hr:d.r=m)
  (hL:L+(m+1)*(2*L+1)≤100000000000) (hsz:szD L d) (hg:∀ j,j<n→sz L (g j)) (h:K (.tuple []) ⟨s.env,ρ++tL n m (goalD n g d),s.out,s.base⟩) :
  CallI Try.prog F__tb_setGoal [.ptr 1015 0,fL g n] s K:=by
 obtain ⟨env,σ,out,base⟩:=s
 simp only at hs hE hO h
 subst hs
 have g0:SoundCall Try.prog F_f_FromInt [iv 0] (fq 0):=fromInt_q (n:=0) (by decide) (by decide)
 have v0:sgV n g d 0=0:=rfl
 refine soundI' 5000 t__tb_setGoal (by simp) ?_
 simp[c__tb_setGoal,tL]
 refine eCall_i g0 (by simp) (by simp) ?_
 simp[rlk hρ,rpt hρ,far,eMk]
 refine ⟨by omega,by omega,?_⟩
 rw[fZ_zero (f:=sgC n g d 0)]
 refine awp_forW (stG0 n m g d ρ (env::out)) (fun _=>True) d.c (by simp[stG0,tL,wv]) trivial (fun k hk _=>?_) (fun _=>?_)
 ·have e:(k:Int)<d.c:=by omega
  have w:=wrap_succ (k:=k) (by omega)
  have hset:=fZ_set (f:=sgC n g d 0) hk
  obtain ⟨f,hfe⟩:∃ f,d.fre k=f:=⟨_,rfl⟩
  by_cases h1:f<n
  ·have h1':(f:Int)<n:=by omega
   have ev:sgC n g d 0 k=g f:=by simp only[sgC,sumR]; rw[hfe,if_pos h1]; grind
   rw[ev] at hset
   simp[c__tb_setGoal_l0,stG0,tL,rlk hρ,far,wv,e,hk,hfe]
   refine eCall_i g0 (by simp) (by simp) ?_
   simp[tL,rlk hρ,rpt hρ,far,wv,e,hk,h1,h1',w,splice,hset,stG0]
  ·have h1':¬ (f:Int)<n:=by omega
   have ev:sgC n g d 0 k=0:=by simp only[sgC,sumR]; rw[hfe,if_neg h1]; grind
   rw[ev] at hset
   simp[c__tb_setGoal_l0,stG0,tL,rlk hρ,far,wv,e,hk,hfe]
   refine eCall_i g0 (by simp) (by simp) ?_
   simp[tL,rlk hρ,rpt hρ,far,wv,e,hk,h1',w,splice,hset,stG0]
 ·simp[c__tb_setGoal_l0,stG0,c__tb_setGoal_k5,tL,rlk hρ,far,wv,fZ_full]
  have hO2:lowO 2000 (env::out):=lowO_cons.2 ⟨hE,hO⟩
  refine awp_forS (stG3 n m g d ρ (env::out)) (fun _=>True) m (St.imp.trans (St.imp_of (by simp[stG3o,tL,wv,v0])) (stG3_imp hρ hO2 0)) trivial (fun k hk _=>?_) (fun _=>?_)
  ·rw[stG3_lt hk]
   have fin:=stG3_imp (n:=n) (m:=m) (g:=g) (d:=d) hρ hO2 (k+1)
   have e:(k:Int)<m:=by omega
   have w:=wrap_succ (k:=k) (by omega)
   have hkm:k*(2*L+1)≤m*(2*L+1):=Nat.mul_le_mul_right _ (by omega)
   have hms:(m+1)*(2*L+1)=m*(2*L+1)+(2*L+1):=Nat.succ_mul _ _
   rw[hms] at hL
   obtain ⟨v,hve⟩:∃ v,d.bas k=v:=⟨_,rfl⟩
   by_cases h1:n≤v
   ·have h1':(n:Int)≤v:=by omega
    have h1n:¬ v<n:=by omega
    have ev:sgV n g d (k+1)=sgV n g d k:=by simp only[sgV,sumR]; rw[hve,if_neg (by omega)]; grind
    have ec:sgC n g d (k+1)=sgC n g d k:=by funext j; simp only[sgC,sumR]; rw[hve,if_neg h1n]; grind
    simp[c__tb_setGoal_l3,c__tb_setGoal_k2,stG3o,tL,rlk hρ,far,wv,e,hk,hve,h1',w]
    refine St.imp.trans (St.imp_of ?_) fin
    simp[stG3o,tL,wv,ev,ec]
   ·have hvn:v<n:=by omega
    have hvn':(v:Int)<n:=by omega
    have h1':¬ (n:Int)≤v:=by omega
    have s1:=sign_q (q:=g v)
    by_cases h2:g v=0
    ·have s2:sgnR (g v)=0:=sgnR_zero.2 h2
     have ev:sgV n g d (k+1)=sgV n g d k:=by simp only[sgV,sumR]; rw[hve,if_pos hvn,h2]; grind
     have ec:sgC n g d (k+1)=sgC n g d k:=by funext j; simp only[sgC,sumR]; rw[hve,if_pos hvn,h2]; grind
     simp[c__tb_setGoal_l3,c__tb_setGoal_k2,stG3o,tL,rlk hρ,far,wv,e,hk,hve,h1',hvn,hvn']
     refine eCall_i s1 (by simp) (by simp) ?_
     simp[w,s2]
     refine St.imp.trans (St.imp_of ?_) fin
     simp[stG3o,tL,wv,ev,ec]
    ·have s2:¬ sgnR (g v)=0:=fun h=>h2 (sgnR_zero.1 h)
     have sb:=hsz.b k (by omega)
     have sv:=sgV_sz (k:=k) hg (fun i hi=>hsz.b i (by omega))
     have g1:=mul_q (K:=L) (by omega) (hg v hvn) sb
     have g2:=add_q (K:=L+(m+1)*(2*L+1)) (by omega) (sz_mono sv (by omega)) (sz_mono (sz_mul (hg v hvn) sb) (by omega))
     have ev:sgV n g d k+g v*d.b k=sgV n g d (k+1):=by simp only[sgV,sumR]; rw[hve,if_pos hvn]
     rw[ev] at g2
     have ec:∀ j,sgC n g d k j-g v*d.a k j=sgC n g d (k+1) j:=fun j=>by simp only[sgC,sumR]; rw[hve,if_pos hvn]; grind
     simp[c__tb_setGoal_l3,c__tb_setGoal_k2,stG3o,tL,rlk hρ,far,wv,e,hk,hve,h1',hvn,hvn']
     refine eCall_i s1 (by simp) (by simp) ?_
     simp[rlk hρ,far,e,hk,hvn,hvn',s2]
     refine eCall_i g1 (by simp) (by simp) ?_
     simp
     refine eCall_i g2 (by simp) (by simp) ?_
     simp[rlk hρ,rpt hρ,far,e,hk]
     refine awp_forW (stG1 n m g d ρ (env::out) k) (fun _=>True) d.c (by simp[stG1,tL,wv,hve]) trivial (fun l hl _=>?_) (fun _=>?_)
     ·have e2:(l:Int)<d.c:=by omega
      have w2:=wrap_succ (k:=l) (by omega)
      have t1:=sign_q (q:=d.a k l)
      have sa:=hsz.a k l (by omega) hl
      have sc:=sgC_sz (k:=k) (j:=l) hg (fun i hi=>hsz.a i l (by omega) hl)
      have mx:∀ x,x=sgC n g d (k+1) l→(fR (fun j=>if j<l then sgC n g d (k+1) j else sgC n g d k j) d.c).set l (fr x)=fR (fun j=>if j<l+1 then sgC n g d (k+1) j else sgC n g d k j) d.c:=fun x hx=>by
       rw[fR_set]
       refine fR_congr fun j _=>?_
       unfold upd
       by_cases ej:j=l
       ·subst ej; rw[if_pos rfl,if_pos (by omega),hx]
       ·rw[if_neg ej]
        dsimp only
        by_cases ej2:j<l
        ·rw[if_pos ej2,if_pos (by omega)]
        ·rw[if_neg ej2,if_neg (by omega)]
      have mg:(fR (fun j=>if j<l then sgC n g d (k+1) j else sgC n g d k j) d.c)[l]?=some (fr (sgC n g d k l)):=by rw[fR_get hl,if_neg (Nat.lt_irrefl l)]
      have ecl:=ec l
      by_cases h3:d.a k l=0
      ·have s3:sgnR (d.a k l)=0:=sgnR_zero.2 h3
       have ms:fR (fun j=>if j<l then sgC n g d (k+1) j else sgC n g d k j) d.c=fR (fun j=>if j<l+1 then sgC n g d (k+1) j else sgC n g d k j) d.c:=by
        refine fR_congr fun j _=>?_
        by_cases ej:j=l
        ·subst ej; rw[if_neg (Nat.lt_irrefl j),if_pos (by omega),← ecl,h3]; grind
        ·by_cases ej2:j<l
         ·rw[if_pos ej2,if_pos (by omega)]
         ·rw[if_neg ej2,if_neg (by omega)]
       simp[c__tb_setGoal_l1,stG1,tL,rlk hρ,rpt hρ,far,wv,e2,hl,hve]
       refine eCall_i t1 (by simp) (by simp) ?_
       simp[tL,rlk hρ,rdel hρ,rnoRef hρ,eno hE,ono hO,far,wv,s3,w2,stG1,hve,ms]
      ·have s3:¬ sgnR (d.a k l)=0:=fun h=>h3 (sgnR_zero.1 h)
       have t2:=mul_q (K:=L) (by omega) (hg v hvn) sa
       have t3:=sub_q (K:=L+(m+1)*(2*L+1)) (by omega) (sz_mono sc (by omega)) (sz_mono (sz_mul (hg v hvn) sa) (by omega))
       rw[ecl] at t3
       have mx:=mx _ rfl
       simp[c__tb_setGoal_l1,stG1,tL,rlk hρ,rpt hρ,far,wv,e2,hl,hve]
       refine eCall_i t1 (by simp) (by simp) ?_
       simp[rlk hρ,far,e2,hl,s3,hvn,hvn']
       refine eCall_i t2 (by simp) (by simp) ?_
       simp
       refine eCall_i t3 (by simp) (by simp) ?_
       simp[tL,rlk hρ,rpt hρ,rdel hρ,rnoRef hρ,eno hE,ono hO,far,wv,e2,hl,splice,mx,w2,stG1,hve]
     ·have hfull:fR (fun j=>if j<d.c then sgC n g d (k+1) j else sgC n g d k j) d.c=fR (sgC n g d (k+1)) d.c:=fR_congr fun j hj=>if_pos hj
      simp[c__tb_setGoal_l1,stG1,tL,wv,hfull,w]
      refine St.imp.trans (St.imp_of ?_) fin
      simp[stG3o,tL,wv]
  ·rw[stG3_end]
   simp[c__tb_setGoal_l3,c__tb_setGoal_k4,r__tb_setGoal,tL,rlk hρ,rpt hρ,far,wv]
   simpa [goalD,tL,tC,hr] using h
end Go.Proofs.Ytbgnkodhpbkdoaa

namespace Go.Proofs.Ytbgnkodhpbkdoaa
open Go Go.Am Go.Dig Go.LP
@[simp] theorem eAppendU_newU {sz by_ d n j sz' off len:Nat} {rows:List (List AV)} {s:St} {K:St→Prop} (h:lk s.sto j=some (.uarr sz rows)) :
  eAppendU sz by_ s (some d) K [.list n .full [],.us j sz' off len]=(sz'=sz∧off+len≤rows.length∧0<sz∧((rows.drop off).take len).length*by_≤140737488355328∧((rows.drop off).take len).length≤9223372036854775807∧lk s.sto (s.base+d)=none ∧
   K (((s.dg (s.base+d)).put (some d) (.us (s.base+d) sz 0 ((rows.drop off).take len).length)).new (some d) (some (.uarr sz (rowsDg (s.base+d) ((rows.drop off).take len)))))):=by
 simp[eAppendU,addRowsU,h]
@[simp] theorem eAppendU_moreU {sz by_ d l j sz1 off1 len1 sz' off len:Nat} {rows1 rows:List (List AV)} {s:St} {K:St→Prop} (h1:lk s.sto l=some (.uarr sz rows1)) (h:lk s.sto j=some (.uarr sz rows)) :
  eAppendU sz by_ s (some d) K [.us l sz1 off1 len1,.us j sz' off len]=(sz'=sz∧off+len≤rows.length∧0<sz∧(len1+((rows.drop off).take len).length)*by_≤140737488355328∧len1+((rows.drop off).take len).length≤9223372036854775807∧sz1=sz∧off1=0∧len1=rows1.length ∧
   K ({(s.dg l) with sto:=pt (s.dg l).sto l (.uarr sz (rowsDg l (rows1++((rows.drop off).take len))))}.put (some d) (.us l sz 0 (len1+((rows.drop off).take len).length)))):=by
 simp[eAppendU,addRowsU,h,h1]
theorem mR_skip {g:Nat→List AV} {j c:Nat} (hj:j<c):(mR g c).take j++(mR g c).drop (j+1)=mR (fun k=>g (sk j k)) (c-1):=by
 apply List.ext_getElem?
 intro i
 by_cases h:i<j
 ·rw[List.getElem?_append_left (by simp; omega),List.getElem?_take,if_pos h,mR_get (by omega),mR_get (by omega)]
  unfold sk; rw[if_pos h]
 ·rw[List.getElem?_append_right (by simp; omega),List.getElem?_drop]
  have e:j+1+(i-((mR g c).take j).length)=i+1:=by simp; omega
  rw[e]
  by_cases h2:i<c-1
  ·rw[mR_get (by omega),mR_get h2]
   unfold sk; rw[if_neg h]
  ·rw[List.getElem?_eq_none (by simp; omega),List.getElem?_eq_none (by simp; omega)]
theorem fR_skip {f:Nat→Rat} {j c:Nat} (hj:j<c):(fR f c).take j++(fR f c).drop (j+1)=fR (fun k=>f (sk j k)) (c-1):=mR_skip (g:=fun k=>fr (f k)) hj
theorem nR_skip {f:Nat→Nat} {j c:Nat} (hj:j<c):(nR f c).take j++(nR f c).drop (j+1)=nR (fun k=>f (sk j k)) (c-1):=mR_skip (g:=fun k=>[iv (f k)]) hj
theorem nR_tkdg {f:Nat→Nat} {j c l:Nat}:rowsDg l ((nR f c).take j)=(nR f c).take j:=map_self fun r hr=>by
 obtain ⟨i,_,rfl⟩:=List.mem_map.1 (List.mem_of_mem_take hr)
 rfl
theorem nR_drdg {f:Nat→Nat} {j c l:Nat}:rowsDg l ((nR f c).drop j)=(nR f c).drop j:=map_self fun r hr=>by
 obtain ⟨i,_,rfl⟩:=List.mem_map.1 (List.mem_of_mem_drop hr)
 rfl
theorem nR_tkdr {f:Nat→Nat} {j c:Nat}:((nR f c).drop j).take (c-j)=(nR f c).drop j:=List.take_of_length_le (by simp)
theorem least {p:Nat→Prop}:∀ {n:Nat},(∃ i,i<n∧p i)→∃ i,i<n∧p i∧∀ k,k<i→¬ p k
 | 0,⟨i,h,_⟩=>by omega
 | n+1,⟨i,h,hp⟩=>by
  by_cases e:∃ i,i<n∧p i
  ·obtain ⟨i,h1,h2,h3⟩:=least e
   exact ⟨i,by omega,h2,h3⟩
  ·refine ⟨i,h,hp,fun k hk hpk=>e ⟨k,by omega,hpk⟩⟩
theorem low_fL {M n:Nat} {f:Nat→Rat}:Am.low M (fL f n)=true:=rfl
theorem ok_remove:okFn Try.prog F__tb_removeAuxiliary=true:=by kernel_rfl
noncomputable def stR3 (n m:Nat) (d:Dict) (ρ:List (Nat × Entry)) (out:List (List (Nat × AV))) (k:Nat):St :=
 {env:=[(0,.ptr 1015 0),(2,iv (n+m:Nat)),(23,.us 1987 1 0 m),(24,iv m),(25,iv k)],sto:=ρ++tL n m d,out:=out,base:=4500}
noncomputable def stR0 (n m i:Nat) (d:Dict) (ρ:List (Nat × Entry)) (out:List (List (Nat × AV))) (k:Nat):St :=
 {env:=[(0,.ptr 1015 0),(2,iv (n+m:Nat)),(3,iv i),(39,fL (d.a i) d.c),(40,iv d.c),(41,iv k)],sto:=ρ++tL n m d,out:=out,base:=4500}
noncomputable def stR7 (n m:Nat) (d:Dict) (ρ:List (Nat × Entry)) (out:List (List (Nat × AV))) (k:Nat):St :=
 {env:=[(0,.ptr 1015 0),(2,iv (n+m:Nat)),(58,.us 2029 1 0 d.c),(59,iv d.c),(60,iv k)],sto:=ρ++tL n m d,out:=out,base:=4500}
noncomputable def sR (d:Dict) (j k m:Nat):List (List AV):=mR (fun i=>if i<k then [fL (fun l=>d.a i (sk j l)) (d.c-1)] else [fL (d.a i) d.c]) m
theorem sR_dg {d:Dict} {j k m l:Nat}:rowsDg l (sR d j k m)=sR d j k m:=mR_map fun i=>by split<;>simp
@[simp] theorem sR_ref {d:Dict} {j k m l:Nat}:anyRefR l (sR d j k m)=false:=mR_ref fun i=>by split<;>simp
@[simp] theorem sR_len {d:Dict} {j k m:Nat}:(sR d j k m).length=m:=mR_len
noncomputable def tS (n m j k:Nat) (d:Dict):List (Nat × Entry) :=
 [(1015,.var (tC n m d)),(1961,.uarr 1 (sR d j k m)),(1972,.uarr 3 (fR d.b m)),(1987,.uarr 1 (nR d.bas m)),(2029,.uarr 1 (nR d.fre d.c))]
noncomputable def stR4 (n m j:Nat) (d:Dict) (ρ:List (Nat × Entry)) (out:List (List (Nat × AV))) (k:Nat):St :=
 {env:=[(0,.ptr 1015 0),(7,iv j),(71,.us 1961 1 0 m),(72,iv m),(73,iv k)],sto:=ρ++tS n m j k d,out:=out,base:=4500}
@[simp] theorem cR_rn {a':Nat→Nat→Rat} {cl:Nat→Nat} {n a b:Nat}:((cR a' cl n).map fun r=>r.map (rn a b))=cR a' cl n:=mR_map fun _=>by simp[rn,rn1]
noncomputable def tW (n m j:Nat) (d:Dict):List (Nat × Entry) :=
 [(1015,.var [iv n,iv m,.us 1961 1 0 m,.us 1972 3 0 m,.list 3 (.own 4622) (fR (fun k=>d.cst (sk j k)) (d.c-1)),f0 d.v,f1 d.v,f2 d.v,.us 1987 1 0 m,.us 4603 1 0 (d.c-1)]),
  (1961,.uarr 1 (sR d j m m)),(1972,.uarr 3 (fR d.b m)),(1987,.uarr 1 (nR d.bas m)),(2029,.uarr 1 (nR d.fre d.c)),(4603,.uarr 1 (nR (fun k=>d.fre (sk j k)) (d.c-1)))]
theorem sR_full {d:Dict} {j m:Nat}:sR d j m m=cR (fun i k=>d.a i (sk j k)) (fun _=>d.c-1) m:=mR_congr fun _i hi=>if_pos hi
theorem tW_imp {n m j:Nat} {d:Dict} {ρ:List (Nat × Entry)} {env:List (Nat × AV)} {out:List (List (Nat × AV))} {base:Nat} (hρ:rest ρ) (hE:lowF 2000 env) (hO:lowO 2000 out) :
  St.imp ⟨env,ρ++tW n m j d,out,base⟩ ⟨env,ρ++tL n m (dropD d j),out,base⟩:=by
 refine St.imp.trans (St.imp_cell_weak (k:=1015) (j:=4) (y:=fL (fun k=>d.cst (sk j k)) (d.c-1)) (by simp[tW,rlk hρ,far]; rfl) (by simp; rfl) weak.list) ?_
 simp[tW,rpt hρ,far]
 refine St.imp.trans (St.impW_drop (l:=2029) (by simp[rlk hρ,far]; exact ⟨rfl,rfl⟩)).imp ?_
 simp[rdel hρ,far]
 refine St.imp.trans (St.imp_rn 4603 2029) ?_
 have hr0:=rrn0 (k:=4603) (l:=2029) hρ rfl rfl
 have he:=lowF_rn (k:=4603) (by omega) (j:=2029) (by omega) hE
 have ho:=lowO_rn (k:=4603) (by omega) (j:=2029) (by omega) hO
 simp only[St.rn,List.map_append,hr0,he,ho]
 simp only[List.map_cons,List.map_nil,rnE_var,rnE_uarr,rn_us,rn_val,rn_plain,nR_rn,fR_rn,cR_rn,sR_full,f0_rn,f1_rn,f2_rn,sw,Nat.reduceEqDiff,if_true,if_false]
 exact St.imp.refl
theorem remove7 {n m:Nat} {d:Dict} {ρ:List (Nat × Entry)} {env:List (Nat × AV)} {out:List (List (Nat × AV))} {base:Nat} {K:AV→St→Prop} (hρ:rest ρ) (hE:lowF 2000 env) (hO:lowO 2000 out) (hm:m<1000000) (_hn:n<1000000) (hc:d.c<1000000)
  {j0:Nat} (hj0:j0<d.c) (hf0:d.fre j0=n+m) (hmin:∀ k,k<j0→¬ d.fre k=n+m) (h:K (.tuple []) ⟨env,ρ++tW n m j0 d,out,base⟩) :
  awp Try.prog (.loop c__tb_removeAuxiliary_l7) (stR7 n m d ρ (env::out) 0) (blockC 4 (retI r__tb_removeAuxiliary base K)):=by
 refine awp_forW (stR7 n m d ρ (env::out)) (fun _=>True) j0 (by simp[stR7]) trivial (fun k hk _=>?_) (fun _=>?_)
 ·have e:(k:Int)<d.c:=by omega
  have hkc:k<d.c:=by omega
  have w:=wrap_succ (k:=k) (by omega)
  have hne:¬ d.fre k=n+m:=hmin k hk
  have hne':¬ (d.fre k:Int)=(n:Int)+m:=by omega
  simp[c__tb_removeAuxiliary_l7,stR7,tL,e,hkc,rlk hρ,far,hne',w,c__tb_removeAuxiliary_k6]
 ·have e:(j0:Int)<d.c:=by omega
  have hf0':(d.fre j0:Int)=(n:Int)+m:=by omega
  simp[c__tb_removeAuxiliary_l7,stR7,tL,e,hj0,rlk hρ,far,hf0']
  have hj1:(j0:Int)≤d.c:=by omega
  have hj2:j0≤d.c:=by omega
  have wj:IntKind.i64.wrap ((j0:Int)+1)=((j0+1:Nat):Int):=wrap_succ (by omega)
  have hj3:(j0:Int)+1≤d.c:=by omega
  have hj5:(0:Int)≤(j0:Int)+1:=by omega
  have hj4:j0+1≤d.c:=by omega
  refine awp_forS (stR4 n m j0 d ρ (env::out)) (fun _=>True) m ?_ trivial (fun k hk _=>?_) (fun _=>?_)
  ·exact St.imp_of (by simp[stR4,tS,sR,cR])
  ·have e:(k:Int)<m:=by omega
   have w:=wrap_succ (k:=k) (by omega)
   have g:(sR d j0 k m)[k]?=some [fL (d.a k) d.c]:=by unfold sR; rw[mR_get hk,if_neg (by omega)]
   have gE:∀ h,(sR d j0 k m)[k]'h=[fL (d.a k) d.c]:=fun h=>(List.getElem?_eq_some_iff.1 g).2
   simp[c__tb_removeAuxiliary_l4,stR4,tS,e,hk,gE,rlk hρ,rpt hρ,rdel hρ,far,rdg0 hρ,edg hE,odg hO,-dgE,dgE_var,dgE_uarr,sR_dg,w,hj1,hj2,wj,hj3,hj5]
   refine ⟨by omega,by omega,by omega,by omega,?_⟩
   rw[fR_skip hj0]
   have hset:(sR d j0 k m).set k [fL (fun l=>d.a k (sk j0 l)) (d.c-1)]=sR d j0 (k+1) m:=by
    unfold sR
    rw[mR_set]
    refine mR_congr fun i _=>?_
    unfold upd
    by_cases ei:i=k
    ·subst ei; rw[if_pos rfl,if_pos (by omega)]
    ·rw[if_neg ei]
     dsimp only
     by_cases ei2:i<k
     ·rw[if_pos ei2,if_pos (by omega)]
     ·rw[if_neg ei2,if_neg (by omega)]
   refine St.imp.trans (St.imp_uarr (l:=1961) (sz:=1) (rows':=sR d j0 (k+1) m) (by simp[rlk hρ,far]; rfl) (by simp) fun i r r' hr hr'=>?_) ?_
   ·rw[← hset] at hr'
    rw[List.getElem?_set] at hr hr'
    by_cases ei:k=i
    ·subst ei
     rw[if_pos rfl] at hr hr'
     split at hr
     ·rename_i h1
      rw[if_pos h1] at hr'
      simp only[Option.some.injEq] at hr hr'
      subst hr hr'
      exact ⟨rfl,fun j c c' hj hj'=>by
       cases j with
       | zero=>simp only[List.getElem?_cons_zero,Option.some.injEq] at hj hj'; subst hj hj'; exact weak.list
       | succ j=>simp at hj⟩
     ·cases hr
    ·rw[if_neg ei] at hr hr'
     rw[hr] at hr'
     cases hr'
     exact ⟨rfl,fun j c c' hj hj'=>by rw[hj] at hj'; cases hj'; exact weak.refl⟩
   ·simp[rpt hρ,far]
    exact St.imp.refl
  ·simp[c__tb_removeAuxiliary_l4,stR4,tS,rlk hρ,rpt hρ,rdel hρ,far,rdg0 hρ,edg hE,odg hO,-dgE,dgE_var,dgE_uarr,sR_dg,c__tb_removeAuxiliary_k5,r__tb_removeAuxiliary,nR_tkdg,nR_drdg,nR_tkdr,nR_skip hj0,fR_skip hj0,rowsDg_app,hj1,hj2,wj,hj3,hj4,hj5]
   rw[show j0+(d.c-(j0+1))=d.c-1 by omega]
   exact ⟨by omega,by omega,by omega,by omega,by omega,by omega,by omega,by omega,h⟩
theorem removeI {n m L:Nat} {d d1:Dict} {ρ:List (Nat × Entry)} {s:St} {K:AV→St→Prop} (hs:s.sto=ρ++tL n m d) (hρ:rest ρ) (hE:lowF 2000 s.env) (hO:lowO 2000 s.out) (hm:m<1000000) (hn:n<1000000) (hc:d.c<1000000) (hr:d.r=m)
  (hL:L≤10000000000) (hsz:szD L d)
  (h1:(d1=d∧∀ i,i<m→d.bas i≠n+m)∨∃ i q,i<m∧q<d.c∧d.bas i=n+m∧(∀ k,k<i→d.bas k≠n+m)∧d.a i q≠0∧(∀ k,k<q→d.a i k=0)∧d1=pivot d i q)
  {j0:Nat} (hj0:j0<d1.c) (hf0:d1.fre j0=n+m) (hmin:∀ k,k<j0→¬ d1.fre k=n+m) (h:K (.tuple []) ⟨s.env,ρ++tL n m (dropD d1 j0),s.out,s.base⟩) :
  CallI Try.prog F__tb_removeAuxiliary [.ptr 1015 0] s K:=by
 obtain ⟨env,σ,out,base⟩:=s
 simp only at hs hE hO h
 subst hs
 have hO2:lowO 2000 (env::out):=lowO_cons.2 ⟨hE,hO⟩
 have wnm:IntKind.i64.wrap ((n:Int)+m)=(n:Int)+m:=by rw[wrap64]<;>omega
 refine CallI.post (K:=fun r s'=>r=.tuple []∧s'=⟨env,ρ++tW n m j0 d1,out,base⟩) ?_ fun r s' ⟨e1,e2⟩=>.inr ⟨e1,⟨env,ρ++tL n m (dropD d1 j0),out,base⟩,by subst e2; exact tW_imp hρ hE hO,by subst e1; exact h⟩
 refine soundI' 4500 t__tb_removeAuxiliary (by simp) ?_
 have k7:=remove7 (n:=n) (m:=m) (d:=d1) (K:=fun r s'=>r=.tuple []∧s'=⟨env,ρ++tW n m j0 d1,out,base⟩) (base:=base) hρ hE hO hm hn (by rcases h1 with ⟨rfl,_⟩ | ⟨i,q,_,_,_,_,_,_,rfl⟩<;>exact hc) hj0 hf0 hmin ⟨rfl,rfl⟩
 rcases h1 with ⟨rfl,hno⟩ | ⟨i0,q0,hi0,hq0,hb0,hbmin,ha0,hamin,rfl⟩
 ·simp[c__tb_removeAuxiliary,tL,rlk hρ,far,wnm]
  refine awp_forW (stR3 n m d1 ρ (env::out)) (fun _=>True) m (by simp[stR3,tL]) trivial (fun k hk _=>?_) (fun _=>?_)
  ·have e:(k:Int)<m:=by omega
   have w:=wrap_succ (k:=k) (by omega)
   have hne:¬ (d1.bas k:Int)=(n:Int)+m:=by have:=hno k hk; omega
   simp[c__tb_removeAuxiliary_l3,stR3,tL,e,hk,rlk hρ,far,hne,w,c__tb_removeAuxiliary_k2]
  ·simp[c__tb_removeAuxiliary_l3,stR3,tL,rlk hρ,far,c__tb_removeAuxiliary_k8]
   simpa [stR7,tL] using k7
 ·simp[c__tb_removeAuxiliary,tL,rlk hρ,far,wnm]
  refine awp_forW (stR3 n m d ρ (env::out)) (fun _=>True) i0 (by simp[stR3,tL]) trivial (fun k hk _=>?_) (fun _=>?_)
  ·have hkm:k<m:=by omega
   have e:(k:Int)<m:=by omega
   have w:=wrap_succ (k:=k) (by omega)
   have hne:¬ (d.bas k:Int)=(n:Int)+m:=by have:=hbmin k hk; omega
   simp[c__tb_removeAuxiliary_l3,stR3,tL,e,hkm,rlk hρ,far,hne,w,c__tb_removeAuxiliary_k2]
  ·have e:(i0:Int)<m:=by omega
   have heq:(d.bas i0:Int)=(n:Int)+m:=by omega
   simp[c__tb_removeAuxiliary_l3,stR3,tL,e,hi0,rlk hρ,far,heq]
   refine awp_forW (stR0 n m i0 d ρ (env::out)) (fun _=>True) q0 (by simp[stR0,tL]) trivial (fun k hk _=>?_) (fun _=>?_)
   ·have hkc:k<d.c:=by omega
    have e2:(k:Int)<d.c:=by omega
    have w:=wrap_succ (k:=k) (by omega)
    have g:=sign_q (q:=d.a i0 k)
    have z:sgnR (d.a i0 k)=0:=sgnR_zero.2 (hamin k hk)
    simp[c__tb_removeAuxiliary_l0,stR0,tL,e2,hkc,rlk hρ,rpt hρ,far]
    refine eCall_i g (by simp) (by simp) ?_
    simp[z,w,stR0,tL,rlk hρ,rdel hρ,rnoRef hρ,eno hE,ono hO,far]
   ·have e2:(q0:Int)<d.c:=by omega
    have g:=sign_q (q:=d.a i0 q0)
    have z:¬ sgnR (d.a i0 q0)=0:=fun h=>ha0 (sgnR_zero.1 h)
    simp[c__tb_removeAuxiliary_l0,stR0,tL,e2,hq0,rlk hρ,rpt hρ,far]
    refine eCall_i g (by simp) (by simp) ?_
    simp[z,ok_pivot,rlk hρ,rdel hρ,rnoRef hρ,eno hE,ono hO,far]
    refine eCallI_of (pivotI (s:=⟨_,ρ++tL n m d,env::out,4500⟩) (d:=d) (ρ:=ρ) (n:=n) (m:=m) (L:=L) rfl hρ ?_ hO2 hm hc hr hi0 hq0 hL hsz ha0 ?_)
    ·simp[lowF_cons,lowF_nil,low_iv,low_bv,low_ptr,low_fL]
    simp[c__tb_removeAuxiliary_k1,c__tb_removeAuxiliary_k8,tL,rlk hρ,far]
    simpa [stR7,tL] using k7
end Go.Proofs.Ytbgnkodhpbkdoaa

namespace Go.Proofs.Ytbgnkodhpbkdoaa
open Go Go.Am Go.Dig Go.LP
theorem pri_sum {n m i:Nat} {d:Dict} (hi:i<m):∀ k,(∀ a b,a<k→b<k→d.fre a=d.fre b→a=b)→priD n m d k i=- sumR k fun j=>if d.fre j=n+i then d.cst j else 0
 | 0,_=>by simp only[priD,sumR]; grind
 | k+1,hinj=>by
  have ih:=pri_sum hi (d:=d) (n:=n) k fun a b ha hb=>hinj a b (by omega) (by omega)
  simp only[priD,sumR]
  by_cases e:d.fre k=n+i
  ·rw[if_pos ⟨by omega,by omega⟩,if_pos e,sumR_zero fun j hj=>if_neg fun e2=>by have:=hinj j k (by omega) (by omega) (by rw[e,e2]); omega]
   have:d.fre k-n=i:=by omega
   rw[this]
   simp only[upd,if_true]
   grind
  ·rw[if_neg e]
   split
   ·rename_i hc
    have:¬ i=d.fre k-n:=by omega
    simp only[upd,if_neg this]
    rw[ih]; grind
   ·rw[ih]; grind
theorem pri_cv {n m i N:Nat} {d:Dict} (hb:Bij d N) (hi:i<m):priD n m d d.c i=- cv d (n+i):=pri_sum hi d.c fun _ _ ha hb'=>fre_inj hb ha hb'
theorem poi_sum {n j:Nat} {d:Dict} (hj:j<n):∀ k,(∀ a b,a<k→b<k→d.bas a=d.bas b→a=b)→poiD n d k j=sumR k fun i=>if d.bas i=j then d.b i else 0
 | 0,_=>rfl
 | k+1,hinj=>by
  have ih:=poi_sum hj (d:=d) k fun a b ha hb=>hinj a b (by omega) (by omega)
  simp only[poiD,sumR]
  by_cases e:d.bas k=j
  ·rw[if_pos (by omega),if_pos e,sumR_zero fun i hi=>if_neg fun e2=>by have:=hinj i k (by omega) (by omega) (by rw[e,e2]); omega]
   rw[e]
   simp only[upd,if_true]
   grind
  ·rw[if_neg e]
   split
   ·have:¬ j=d.bas k:=fun h=>e h.symm
    simp only[upd,if_neg this]
    rw[ih]; grind
   ·rw[ih]; grind
theorem poi_vl {n j N:Nat} {d:Dict} (hb:Bij d N) (hj:j<n):poiD n d d.r j=vl d j:=poi_sum hj d.r fun _ _ ha hb'=>bas_inj hb ha hb'
theorem ray_sum {n j q:Nat} {d:Dict} (hj:j<n):∀ k,(∀ a b,a<k→b<k→d.bas a=d.bas b→a=b)→(∀ a,a<k→d.bas a≠d.fre q)→rayD n d q k j=(sumR k fun i=>if d.bas i=j then-d.a i q else 0)+if d.fre q=j then 1 else 0
 | 0,_,_=>by
  simp only[rayD,sumR]
  by_cases e:d.fre q=j
  ·rw[if_pos (by omega),if_pos e,e]
   simp only[upd,if_true]; grind
  ·rw[if_neg e]
   split
   ·have:¬ j=d.fre q:=fun h=>e h.symm
    simp only[upd,if_neg this]; grind
   ·grind
 | k+1,hinj,hne=>by
  have ih:=ray_sum hj (d:=d) (q:=q) k (fun a b ha hb=>hinj a b (by omega) (by omega)) fun a ha=>hne a (by omega)
  simp only[rayD,sumR]
  by_cases e:d.bas k=j
  ·rw[if_pos (by omega),if_pos e,sumR_zero fun i hi=>if_neg fun e2=>by have:=hinj i k (by omega) (by omega) (by rw[e,e2]); omega]
   have h2:¬ d.fre q=j:=fun h=>hne k (by omega) (by rw[e,h])
   rw[if_neg h2,e]
   simp only[upd,if_true]
   grind
  ·rw[if_neg e]
   split
   ·have:¬ j=d.bas k:=fun h=>e h.symm
    simp only[upd,if_neg this]
    rw[ih]; grind
   ·rw[ih]; grind
theorem ray_q {n j q N:Nat} {d:Dict} (hb:Bij d N) (hq:q<d.c) (hj:j<n):rayD n d q d.r j=rayq d q j :=
 ray_sum hj d.r (fun _ _ ha hb'=>bas_inj hb ha hb') fun _a ha e=>fre_ne_bas hb ha hq e.symm
def wrsE (bb:Nat→Rat):Nat→Int
 | 0=>-1
 | k+1=>if bb k<0∧(wrsE bb k<0∨bb k<bb (wrsE bb k).toNat) then k else wrsE bb k
theorem wrsE_lt (bb:Nat→Rat):∀ k,-1≤wrsE bb k∧wrsE bb k<k
 | 0=>by simp[wrsE]
 | k+1=>by have:=wrsE_lt bb k; simp only[wrsE]; split<;>omega
theorem wrsE_neg {bb:Nat→Rat}:∀ k,wrsE bb k<0→∀ i,i<k→0≤bb i
 | 0,_,i,hi=>by omega
 | k+1,h,i,hi=>by
  simp only[wrsE] at h
  split at h
  ·omega
  ·rename_i hn
   by_cases e:i=k
   ·subst e
    have:¬ bb i<0:=fun h0=>hn ⟨h0,.inl h⟩
    grind
   ·exact wrsE_neg k h i (by omega)
theorem wrsE_pos {bb:Nat→Rat}:∀ k,0≤wrsE bb k→bb (wrsE bb k).toNat<0∧∀ i,i<k→bb (wrsE bb k).toNat≤bb i
 | 0,h=>by simp[wrsE] at h
 | k+1,h=>by
  have b:=wrsE_lt bb k
  simp only[wrsE] at h ⊢
  split
  ·rename_i hc
   refine ⟨by simpa using hc.1,fun i hi=>?_⟩
   simp only[Int.toNat_natCast]
   by_cases e:i=k
   ·subst e; grind
   ·by_cases h1:wrsE bb k<0
    ·have:=wrsE_neg k h1 i (by omega); have:=hc.1; grind
    ·have h2:=hc.2.resolve_left h1
     have:=(wrsE_pos (bb:=bb) k (by omega)).2 i (by omega)
     grind
  ·rename_i hc
   rw[if_neg hc] at h
   obtain ⟨h1,h2⟩:=wrsE_pos k h
   refine ⟨h1,fun i hi=>?_⟩
   by_cases e:i=k
   ·subst e
    have:¬ bb i<bb (wrsE bb i).toNat:=fun h3=>hc ⟨by grind,.inr h3⟩
    grind
   ·exact h2 i (by omega)
noncomputable def tN (n m:Nat) (A:Nat→Nat→Rat) (bb:Nat→Rat):List (Nat × Entry) :=
 [(1015,.var [iv n,iv m,.us 1961 1 0 m,.us 1972 3 0 m,cst0 n,f0 0,f1 0,f2 0,.us 1987 1 0 m,.us 2029 1 0 n]),(2029,.uarr 1 (nR id n)),
   (1961,.uarr 1 (oR A om (fun _=>n) m)),(1972,.uarr 3 (fR bb m)),(1987,.uarr 1 (nR (fun i=>n+i) m))]
theorem cst0_weak {n:Nat}:weak (cst0 n) (fL (fun _=>0) n):=by
 unfold cst0
 split
 ·rename_i h; subst h; exact weak.nil
 ·exact weak.list
theorem mR_weak {g h:Nat→List AV} {n:Nat} (e:∀ i,i<n→∃ x y,g i=[x]∧h i=[y]∧weak x y):∀ (i:Nat) r r',(mR g n)[i]?=some r→(mR h n)[i]?=some r'→r'.length=r.length∧∀ (j:Nat) c c',r[j]?=some c→r'[j]?=some c'→weak c c':=by
 intro i r r' hr hr'
 have hi:i<n:=by have:=(List.getElem?_eq_some_iff.1 hr).1; simpa using this
 rw[mR_get hi] at hr hr'
 obtain ⟨x,y,e1,e2,hw⟩:=e i hi
 simp only[Option.some.injEq] at hr hr'
 subst hr hr'
 rw[e1,e2]
 refine ⟨rfl,fun j c c' hj hj'=>?_⟩
 cases j with
 | zero=>simp only[List.getElem?_cons_zero,Option.some.injEq] at hj hj'; subst hj hj'; exact hw
 | succ j=>simp at hj
def dZ (n m:Nat) (A:Nat→Nat→Rat) (bb:Nat→Rat):Dict:=dG n m A bb fun _=>0
theorem lk_app_congr {ρ l l':List (Nat × Entry)} (h:lk l=lk l'):lk (ρ++l)=lk (ρ++l'):=by
 funext k
 induction ρ with
 | nil=>exact congrFun h k
 | cons p ρ ih =>
  obtain ⟨q,x⟩:=p
  simp only[List.cons_append,lk]
  split
  ·rfl
  ·exact ih
theorem impW_lk {s t:St} (h1:s.env=t.env) (h2:lk s.sto=lk t.sto) (h3:s.out=t.out):St.impW s t:=by
 intro F a w I β lam hI
 have e:t.look=s.look:=by
  funext ⟨d,k⟩
  cases d<;>simp only[St.look,h1,h3]
 rw[e,← h2]
 exact hI
theorem impW_env {s:St} {env:List (Nat × AV)} (h:subE s.env env):St.impW s {s with env:=env}:=by
 intro F a w I β lam hI
 refine {hI with env:=fun t x hx=>hI.env t x ?_}
 obtain ⟨d,t⟩:=t
 cases d with
 | zero=>exact subE_lk h hx
 | succ d=>exact hx
theorem tN_impW {n m:Nat} {A:Nat→Nat→Rat} {bb:Nat→Rat} {ρ:List (Nat × Entry)} {env:List (Nat × AV)} {out:List (List (Nat × AV))} {base:Nat} (hρ:rest ρ) :
  St.impW ⟨env,ρ++tN n m A bb,out,base⟩ ⟨env,ρ++tL n m (dZ n m A bb),out,base⟩:=by
 refine St.impW.trans (St.impW_cell_weak (k:=1015) (j:=4) (y:=fL (fun _=>0) n) (by simp[tN,rlk hρ,far]; rfl) rfl cst0_weak) ?_
 simp[tN,rpt hρ,far]
 refine St.impW.trans (St.impW_uarr (l:=1961) (sz:=1) (rows':=cR A (fun _=>n) m) (by simp[rlk hρ,far]; rfl) (by simp) (mR_weak fun i hi=>⟨_,_,rfl,rfl,weak.list⟩)) ?_
 simp[rpt hρ,far]
 refine impW_lk rfl (lk_app_congr (subE_eq ?_ ?_)) rfl
 ·simp[tL,dZ,dG,subE_cons,subE_nil]; rfl
 ·simp[tL,dZ,dG,subE_cons,subE_nil]; rfl
theorem ok_prices:okFn Try.prog F__tb_prices=true:=by kernel_rfl
theorem ok_optimize:okFn Try.prog F__tb_optimize=true:=by kernel_rfl
noncomputable def stS0 (n m:Nat) (A:Nat→Nat→Rat) (bb:Nat→Rat) (ρ:List (Nat × Entry)) (out:List (List (Nat × AV))) (k:Nat):St :=
 {env:=[(0,.ptr 1015 0),(4,iv (wrsE bb k)),(12,.us 1972 3 0 m),(13,iv m),(14,iv k)],sto:=ρ++tN n m A bb,out:=out,base:=4000}
noncomputable def aR (A:Nat→Nat→Rat) (n k m:Nat):List (List AV):=mR (fun i=>if i<k then [fL (fun j=>if j<n then A i j else -1) (n+1)] else [.list 3 (om i) (fR (A i) n)]) m
noncomputable def stS1 (n m p:Nat) (A:Nat→Nat→Rat) (bb:Nat→Rat) (ρ:List (Nat × Entry)) (out:List (List (Nat × AV))) (k:Nat):St :=
 {env:=[(0,.ptr 1015 0),(4,iv p),(7,.ptr 4007 0),(47,iv m),(48,iv k)],
  sto:=ρ++[(1015,.var [iv n,iv m,.us 1961 1 0 m,.us 1972 3 0 m,cst0 n,f0 0,f1 0,f2 0,.us 1987 1 0 m,.us 2029 1 0 n]),(2029,.uarr 1 (nR id n)),
   (1961,.uarr 1 (aR A n k m)),(1972,.uarr 3 (fR bb m)),(1987,.uarr 1 (nR (fun i=>n+i) m)),(4007,.var (fr (-1)))],out:=out,base:=4000}
structure Ready (n m L:Nat) (A:Nat→Nat→Rat) (bb:Nat→Rat) (e:Dict):Prop where
 bij:Bij e (n+m)
 sol:∀ x,sol e x↔sol (dZ n m A bb) x
 feas:feas e
 r:e.r=m
 c:e.c=n
 sz:szD L e
theorem start_l0 {n m L:Nat} {A:Nat→Nat→Rat} {bb:Nat→Rat} {ρ:List (Nat × Entry)} {env:List (Nat × AV)} {out:List (List (Nat × AV))} {Q:Exit→St→Prop} (hρ:rest ρ) (hE:lowF 2000 env) (hO:lowO 2000 out) (hm:m<900000) (hL:L≤10000000000) (hb:∀ i,i<m→sz L (bb i))
  (h:Q (.exit 0) ⟨[(0,.ptr 1015 0),(4,iv (wrsE bb m)),(12,.us 1972 3 0 m),(13,iv m),(14,iv m),(15,bv false)],ρ++tN n m A bb,env::out,4000⟩) :
  awp Try.prog (.loop c__tb_start_l0) (stS0 n m A bb ρ (env::out) 0) Q:=by
 refine awp_forW (stS0 n m A bb ρ (env::out)) (fun _=>True) m (by simp[stS0]) trivial (fun k hk _=>?_) (fun _=>?_)
 ·have e:(k:Int)<m:=by omega
  have w:=wrap_succ (k:=k) (by omega)
  obtain ⟨b1,b2⟩:=wrsE_lt bb k
  have g1:=sign_q (q:=bb k)
  simp[c__tb_start_l0,stS0,tN,e,hk,rlk hρ,rpt hρ,far]
  refine eCall_i g1 (by simp) (by simp) ?_
  by_cases h0:bb k<0
  ·have h0':sgnR (bb k)<0:=sgnR_neg.2 h0
   by_cases h1:wrsE bb k<0
   ·have ev:wrsE bb (k+1)=k:=by simp only[wrsE]; rw[if_pos ⟨h0,.inl h1⟩]
    simp[h0',h1,w,stS0,tN,ev,rlk hρ,rdel hρ,rnoRef hρ,eno hE,ono hO,far]
   ·have b3:(wrsE bb k).toNat<m:=by omega
    have b4:(0:Int)≤wrsE bb k:=by omega
    have b5:wrsE bb k<m:=by omega
    have g2:=cmp_q (by omega) (hb k hk) (hb _ b3)
    simp[h0',h1,b3,b4,b5,rlk hρ,far]
    refine eCall_i g2 (by simp) (by simp) ?_
    by_cases h2:bb k<bb (wrsE bb k).toNat
    ·have ev:wrsE bb (k+1)=k:=by simp only[wrsE]; rw[if_pos ⟨h0,.inr h2⟩]
     have h2':cmpR (bb k) (bb (wrsE bb k).toNat)<0:=cmpR_lt.2 h2
     simp[h2',w,stS0,tN,ev,rlk hρ,rdel hρ,rnoRef hρ,eno hE,ono hO,far]
    ·have ev:wrsE bb (k+1)=wrsE bb k:=by simp only[wrsE]; rw[if_neg fun h=>h.2.elim h1 h2]
     have h2':¬ cmpR (bb k) (bb (wrsE bb k).toNat)<0:=fun h=>h2 (cmpR_lt.1 h)
     simp[h2',w,stS0,tN,ev,rlk hρ,rdel hρ,rnoRef hρ,eno hE,ono hO,far]
  ·have h0':¬ sgnR (bb k)<0:=fun h=>h0 (sgnR_neg.1 h)
   have ev:wrsE bb (k+1)=wrsE bb k:=by simp only[wrsE]; rw[if_neg fun h=>h0 h.1]
   simp[h0',w,stS0,tN,ev,rlk hρ,rdel hρ,rnoRef hρ,eno hE,ono hO,far]
 ·simp[c__tb_start_l0,stS0]
  exact h
def sec:ACode→ACode
 | .seq _ b=>b
 | c=>c
def Next (n m:Nat) (e:Dict) (res:AV) (e2:Dict):Prop :=
 (e.v<0∧res=.tuple [fL (priD n m e e.c) m,bv false]∧e2=e) ∨
 (¬ e.v<0∧res=.tuple [nilA,bv true]∧∃ d1 j0,((d1=e∧∀ i,i<m→e.bas i≠n+m)∨∃ i q,i<m∧q<e.c∧e.bas i=n+m∧(∀ k,k<i→e.bas k≠n+m)∧e.a i q≠0∧(∀ k,k<q→e.a i k=0)∧d1=pivot e i q) ∧
  j0<d1.c∧d1.fre j0=n+m∧(∀ k,k<j0→¬ d1.fre k=n+m)∧e2=dropD d1 j0)
noncomputable def tM (X n m:Nat) (A:Nat→Nat→Rat) (bb:Nat→Rat):List (Nat × Entry) :=
 [(1015,.var [iv n,iv m,.us 1961 1 0 m,.us 1972 3 0 m,.list 3 (.own X) (fR (dA n m A bb).cst (n+1)),f0 0,f1 0,f2 0,.us 1987 1 0 m,.us 2029 1 0 (n+1)]),(2029,.uarr 1 (nR (dA n m A bb).fre (n+1))),
  (1961,.uarr 1 (cR (dA n m A bb).a (fun _=>n+1) m)),(1972,.uarr 3 (fR bb m)),(1987,.uarr 1 (nR (fun i=>n+i) m))]
theorem tM_impW {X n m:Nat} {A:Nat→Nat→Rat} {bb:Nat→Rat} {ρ:List (Nat × Entry)} {env:List (Nat × AV)} {out:List (List (Nat × AV))} {base:Nat} (hρ:rest ρ) :
  St.impW ⟨env,ρ++tM X n m A bb,out,base⟩ ⟨env,ρ++tL n m (dA n m A bb),out,base⟩:=by
 refine St.impW.trans (St.impW_cell_weak (k:=1015) (j:=4) (y:=fL (dA n m A bb).cst (n+1)) (by simp[tM,rlk hρ,far]; rfl) rfl weak.list) ?_
 simp[tM,rpt hρ,far]
 refine impW_lk rfl (lk_app_congr (subE_eq ?_ ?_)) rfl
 ·simp[tL,dA,subE_cons,subE_nil]
 ·simp[tL,dA,subE_cons,subE_nil]
theorem aR_zero {A:Nat→Nat→Rat} {n m:Nat}:aR A n 0 m=oR A om (fun _=>n) m:=mR_congr fun i _=>if_neg (by omega)
theorem aR_full {A:Nat→Nat→Rat} {bb:Nat→Rat} {n m:Nat}:aR A n m m=cR (dA n m A bb).a (fun _=>n+1) m:=mR_congr fun _i hi=>if_pos hi
theorem start_walk {n m p L:Nat} {A:Nat→Nat→Rat} {bb:Nat→Rat} {e e2:Dict} {res:AV} (hm:m<900000) (hn:n<900000) (hL:L≤10000000000) (hb:∀ i,i<m→sz L (bb i)) (hw:wrsE bb m=(p:Nat)) (hp:p<m)
  (szA:szD L (dA n m A bb)) (sze:szD L e) (her:e.r=m) (hec:e.c=n+1) (hfre:∀ j,j<e.c→e.fre j<4000000)
  (hopt:∀ {ρ:List (Nat × Entry)} {s:St} {K:AV→St→Prop},s.sto=ρ++tL n m (pivot (dA n m A bb) p n)→rest ρ→lowF 2000 s.env→lowO 2000 s.out→K (finR e) ⟨s.env,ρ++tL n m e,s.out,s.base⟩→CallI Try.prog F__tb_optimize [.ptr 1015 0] s K)
  (hx:Next n m e res e2) {ρ:List (Nat × Entry)} {s:St} {K:AV→St→Prop} (hs:s.sto=ρ++tN n m A bb) (hρ:rest ρ) (hE:lowF 2000 s.env) (hO:lowO 2000 s.out) (h:K res ⟨s.env,ρ++tL n m e2,s.out,s.base⟩) :
  CallI Try.prog F__tb_start [.ptr 1015 0] s K:=by
 obtain ⟨env,σ,out,base⟩:=s
 simp only at hs hE hO h
 subst hs
 have hO2:lowO 2000 (env::out):=lowO_cons.2 ⟨hE,hO⟩
 have g0:SoundCall Try.prog F_f_FromInt [iv (-1)] (fq (-1)):=fromInt_q (n:=-1) (by decide) (by decide)
 refine soundI' 4000 t__tb_start (by simp) ?_
 simp[c__tb_start,tN,rlk hρ,far]
 refine start_l0 (n:=n) (A:=A) hρ hE hO hm hL hb ?_
 have hp0:¬ (p:Int)<0:=by omega
 simp[c__tb_start_k3,hw,hp0,r__tb_start]
 refine eCall_i g0 (by simp) (by simp) ?_
 simp[tN,rlk hρ,rpt hρ,far]
 refine awp_forS (stS1 n m p A bb ρ (env::out)) (fun _=>True) m (St.imp_of (by simp[stS1,aR_zero])) trivial (fun k hk _=>?_) (fun _=>?_)
 ·have e1:(k:Int)<m:=by omega
  have w:=wrap_succ (k:=k) (by omega)
  have g:(aR A n k m)[k]?=some [.list 3 (om k) (fR (A k) n)]:=by unfold aR; rw[mR_get hk,if_neg (by omega)]
  have gE:∀ h,(aR A n k m)[k]'h=[.list 3 (om k) (fR (A k) n)]:=fun h=>(List.getElem?_eq_some_iff.1 g).2
  have aL:(aR A n k m).length=m:=mR_len
  have hf:far (1000000+k)=true:=decide_eq_true (by omega)
  have l1:∀ l,lk (ρ++l) (1000000+k)=lk l (1000000+k):=fun l=>rlk hρ hf
  have hd0:=rdg0 (k:=1000000+k) hρ (by omega)
  have hd1:=edg (k:=1000000+k) hE (by omega)
  have hd2:=odg (k:=1000000+k) hO (by omega)
  have hd3:=cst0_dg (l:=1000000+k) (k:=n) (by omega)
  have n0:∀ j,j<1000000→¬ j=1000000+k:=fun j hj=>by omega
  have hdg:rowsDg (1000000+k) (aR A n k m)=mR (fun i=>if i<k then [fL (fun j=>if j<n then A i j else -1) (n+1)] else [.list 3 (if i=k then .plain else om i) (fR (A i) n)]) m:=by
   unfold aR rowsDg
   refine mR_congr2 fun i hi=>?_
   by_cases h1:i<k
   ·rw[if_pos h1,if_pos h1]; simp
   ·rw[if_neg h1,if_neg h1]
    by_cases h2:i=k
    ·subst h2; simp[om,dg]
    ·rw[if_neg h2]
     simp[om,dg,h2]
  have wn:(n+1)*56≤140737488355328:=by omega
  have wn2:n≤9223372036854775806:=by omega
  have hfa:fR (A k) n++[fr (-1)]=fR (fun j=>if j<n then A k j else -1) (n+1):=by
   rw[fR_succ,if_neg (Nat.lt_irrefl n)]
   rw[fR_congr (f:=fun j=>if j<n then A k j else -1) (g:=A k) fun j hj=>if_pos hj]
  simp[c__tb_start_l1,stS1,e1,hk,gE,aL,om,rlk hρ,rpt hρ,rdel hρ,far,w,l1,hd0,hd1,hd2,hd3,n0,hdg,-dgE,dgE_var,dgE_uarr,wn,wn2,hfa]
  rw[mR_set]
  refine St.imp.trans (St.imp_uarr (l:=1961) (sz:=1) (rows':=aR A n (k+1) m) (by simp[rlk hρ,far]; rfl) (by simp[aR]) ?_) ?_
  ·unfold aR
   refine mR_weak fun i hi=>?_
   by_cases h1:i=k
   ·subst h1
    exact ⟨.list 3 (.own (1000000+i)) (fR (fun j=>if j<n then A i j else -1) (n+1)),fL (fun j=>if j<n then A i j else -1) (n+1),by simp[upd],by rw[if_pos (by omega)],weak.list⟩
   ·by_cases h2:i<k
    ·exact ⟨fL (fun j=>if j<n then A i j else -1) (n+1),_,by simp only[upd,if_neg h1,if_pos h2],by rw[if_pos (by omega)],weak.refl⟩
    ·exact ⟨.list 3 (om i) (fR (A i) n),.list 3 (om i) (fR (A i) n),by simp only[upd,if_neg h1,if_neg h2]; rfl,by rw[if_neg (by omega)],weak.refl⟩
  ·simp[rpt hρ,far]
   exact St.imp.refl
 ·have wn1:(n+1)*8≤140737488355328:=by omega
  have wn:(n+1)*56≤140737488355328:=by omega
  have wn2:n≤9223372036854775806:=by omega
  have wnm:IntKind.i64.wrap ((n:Int)+m)=((n+m:Nat):Int):=by rw[wrap64]<;>omega
  have hdg:=cst0_dg (l:=2029) (k:=n) (by omega)
  have hfe:nR id n++[[iv ((n:Int)+m)]]=nR (dA n m A bb).fre (n+1):=by
   unfold nR
   rw[mR_succ]
   simp only[dA,Nat.lt_irrefl,if_false,Int.natCast_add]
   congr 1
   exact mR_congr fun i hi=>by rw[if_pos hi]; rfl
  simp[c__tb_start_l1,stS1,c__tb_start_k2,rlk hρ,rpt hρ,far,rdg0 hρ,edg hE,odg hO,-dgE,dgE_var,dgE_uarr,hdg,wn1,wn2,wnm,aR_full (bb:=bb),hfe]
  have hcs:fR (fun _=>0) n++[fr (-1)]=fR (dA n m A bb).cst (n+1):=by
   rw[fR_succ]
   simp only[dA,Nat.lt_irrefl,if_false]
   rw[fR_congr (f:=fun j=>if j<n then (0:Rat) else -1) (g:=fun _=>0) fun j hj=>if_pos hj]
  have hc0:(n=0∧cst0 n=nilA)∨cst0 n=.list 3 (.own 2039) (fR (fun _=>0) n):=by
   unfold cst0
   split
   ·exact .inl ⟨by assumption,rfl⟩
   ·exact .inr rfl
  have wn3:IntKind.i64.wrap (n:Int)=n:=by rw[wrap64]<;>omega
  have hds:(dA n m A bb).c=n+1:=rfl
  have pv:∀ (X:Nat) (env0:List (Nat × AV)),subE env0 [(0,.ptr 1015 0)]→∀ {K:AV→St→Prop},K (.tuple []) ⟨[(0,.ptr 1015 0)],ρ++tL n m (pivot (dA n m A bb) p n),env::out,4000⟩→CallI Try.prog F__tb_pivot [.ptr 1015 0,iv p,iv n] ⟨env0,ρ++tM X n m A bb,env::out,4000⟩ K:=fun X env0 h0 K hK =>
   CallI.pre (St.impW.trans (tM_impW hρ) (impW_env h0)) (pivotI (s:=⟨[(0,.ptr 1015 0)],ρ++tL n m (dA n m A bb),env::out,4000⟩) (d:=dA n m A bb) (ρ:=ρ) (n:=n) (m:=m) (L:=L) rfl hρ (by simp[lowF_cons,lowF_nil,low_ptr]) hO2 (by omega) (by simp only[dA]; omega) rfl hp (by simp only[dA]; omega) hL szA start_a hK)
  have sg:=sign_q (q:=e.v)
  have fin:eCallI Try.prog F__tb_optimize [AV.ptr 1015 0]
    {env:=[(0,AV.ptr 1015 0),(105,AV.ptr 1015 0)],sto:=ρ++tL n m (pivot (dA n m A bb) p n),out:=env::out,base:=4000} (some 106)
    (opsC Try.prog [] (endC [105,106] [] (seqC Try.prog (sec (sec (sec (sec c__tb_start_k2)))) (retI r__tb_start base K)))):=by
   refine eCallI_of (hopt rfl hρ (by simp[lowF_cons,lowF_nil,low_ptr]) hO2 ?_)
   simp[sec,c__tb_start_k2,tL,rlk hρ,far]
   refine eCall_i sg (by simp) (by simp) ?_
   rcases hx with ⟨hv,rfl,rfl⟩ | ⟨hv,rfl,d1,j0,h1,hj0,hf0,hmin,rfl⟩
   ·have hv':sgnR e2.v<0:=sgnR_neg.2 hv
    simp[hv',ok_prices]
    refine eCallI_of (pricesI (s:=⟨_,ρ++tL n m e2,env::out,4000⟩) (n:=n) (m:=m) (d:=e2) (ρ:=ρ) (L:=L) rfl hρ ?_ hO2 (by omega) (by omega) (by omega) hfre (by omega) sze.cst ?_)
    ·simp[lowF_cons,lowF_nil,low_bv,low_ptr]
    simp[r__tb_start]
    exact h
   ·have hv':¬ sgnR e.v<0:=fun h=>hv (sgnR_neg.1 h)
    simp[hv',ok_remove]
    refine eCallI_of (removeI (s:=⟨_,ρ++tL n m e,env::out,4000⟩) (d:=e) (d1:=d1) (ρ:=ρ) (n:=n) (m:=m) (L:=L) rfl hρ (by simp[lowF_cons,lowF_nil,low_bv,low_ptr]) hO2 (by omega) (by omega) (by omega) her hL sze h1 hj0 hf0 hmin ?_)
    simp[r__tb_start]
    exact h
  rcases hc0 with ⟨hn0,hc⟩ | hc
  ·have hcs2:[fr (-1)]=fR (dA n m A bb).cst (n+1):=by rw[← hcs,hn0]; rfl
   simp[hc,hcs2,rlk hρ,rpt hρ,rdel hρ,far,rdg0 hρ,edg hE,odg hO,-dgE,dgE_var,dgE_uarr,wn,wn2,wn3,rnoRef hρ,eno hE,ono hO,ok_pivot]
   refine eCallI_of (pv 4093 _ (by simp[subE_cons,subE_nil]) ?_)
   simp[ok_optimize]
   exact fin
  ·simp[hc,hcs,rlk hρ,rpt hρ,rdel hρ,far,rdg0 hρ,edg hE,odg hO,-dgE,dgE_var,dgE_uarr,wn,wn2,wn3,rnoRef hρ,eno hE,ono hO,ok_pivot]
   refine eCallI_of (pv 2039 _ (by simp[subE_cons,subE_nil]) ?_)
   simp[ok_optimize]
   exact fin
theorem startI {n m S:Nat} {A:Nat→Nat→Rat} {bb:Nat→Rat} (hm:m<900000) (hn:n<900000) (hS:grow S m≤10000000000) (ha:∀ i j,i<m→j<n→sz S (A i j)) (hb:∀ i,i<m→sz S (bb i)) :
  (∃ e y,(Inf n m A bb y∧∀ i,sz (grow S m) (y i))∧∀ {ρ:List (Nat × Entry)} {s:St} {K:AV→St→Prop},s.sto=ρ++tN n m A bb→rest ρ→lowF 2000 s.env→lowO 2000 s.out→K (.tuple [fL y m,bv false]) ⟨s.env,ρ++tL n m e,s.out,s.base⟩→CallI Try.prog F__tb_start [.ptr 1015 0] s K) ∨
  (∃ e,Ready n m (grow S m) A bb e∧∀ {ρ:List (Nat × Entry)} {s:St} {K:AV→St→Prop},s.sto=ρ++tN n m A bb→rest ρ→lowF 2000 s.env→lowO 2000 s.out→K (.tuple [nilA,bv true]) ⟨s.env,ρ++tL n m e,s.out,s.base⟩→CallI Try.prog F__tb_start [.ptr 1015 0] s K):=by
 have hSm:S≤grow S m:=grow_mono (m:=0) (Nat.zero_le m)
 have sm1:sz S (-1):=sz_neg sz_one
 have szA:szD S (dA n m A bb):=⟨fun i j hi hj=>by
   simp only[dA] at hi ⊢
   split
   ·exact ha i j hi (by assumption)
   ·exact sm1,fun i hi=>hb i hi,fun j hj=>by
   simp only[dA]
   split
   ·exact sz_zero
   ·exact sm1,sz_zero⟩
 have szZ:szD (grow S m) (dZ n m A bb):=szD_mono ⟨fun i j hi hj=>ha i j hi hj,fun i hi=>hb i hi,fun j hj=>sz_zero,sz_zero⟩ hSm
 have bw:=wrsE_lt bb m
 by_cases hw:wrsE bb m<0
 ·refine .inr ⟨dZ n m A bb,⟨dG_bij,fun _=>Iff.rfl,fun i hi=>wrsE_neg m hw i hi,rfl,rfl,szZ⟩,?_⟩
  intro ρ s K hs hρ hE hO h
  obtain ⟨env,σ,out,base⟩:=s
  simp only at hs hE hO h
  subst hs
  refine CallI.post (K:=fun r s'=>r=.tuple [nilA,bv true]∧s'=⟨env,ρ++tN n m A bb,out,base⟩) ?_ fun r s' ⟨e1,e2⟩=>.inl ⟨_,by subst e2; exact tN_impW hρ,by subst e1; exact h⟩
  refine soundI' 4000 t__tb_start (by simp) ?_
  simp[c__tb_start,tN,rlk hρ,far]
  refine start_l0 (n:=n) (A:=A) hρ hE hO hm hS (fun i hi=>sz_mono (hb i hi) hSm) ?_
  simp[c__tb_start_k3,hw,r__tb_start]
  rfl
 ·obtain ⟨p,hp⟩:∃ p:Nat,wrsE bb m=p:=⟨(wrsE bb m).toNat,by omega⟩
  have hpm:p<m:=by omega
  obtain ⟨w1,w2⟩:=wrsE_pos m (by omega:0≤wrsE bb m)
  rw[hp] at w1 w2
  simp only[Int.toNat_natCast] at w1 w2
  have hS1:Same (pivot (dA n m A bb) p n) (dA n m A bb) (n+m+1):=start_same hpm
  have hF1:feas (pivot (dA n m A bb) p n):=start_feas w1 w2
  have hsize:∀ e,Same e (pivot (dA n m A bb) p n) (n+m+1)→e.r=(pivot (dA n m A bb) p n).r→e.c=(pivot (dA n m A bb) p n).c→szD (grow S m) e:=fun e he h1 h2 =>
   Same.size_r (d:=dA n m A bb) szA (he.trans hS1).symm h1 h2
  obtain ⟨e,hfin,hopt⟩:=optimizeI hS1.bd hF1
  have hSe:Same e (dA n m A bb) (n+m+1):=hfin.same.trans hS1
  have her:e.r=m:=hfin.r
  have hec:e.c=n+1:=hfin.c
  have sze:szD (grow S m) e:=hsize e hfin.same hfin.r hfin.c
  have hcst:∀ j,j<e.c→e.cst j≤0:=by
   rcases hfin.out with ⟨_,h⟩ | ⟨q,_,hq,hc,hall⟩
   ·exact h
   ·exact absurd (ph1_bounded hSe hfin.feas hq hc hall) id
  have hfre:∀ j,j<e.c→e.fre j<4000000:=fun j hj=>by have:=fre_lt hSe.bd hj; omega
  have hwalk:=fun {e2:Dict} {res:AV} (hx:Next n m e res e2) {ρ:List (Nat × Entry)} {s:St} {K:AV→St→Prop}=>start_walk (n:=n) (m:=m) (p:=p) (L:=grow S m) (A:=A) (bb:=bb) (e:=e) (ρ:=ρ) (s:=s) (K:=K) hm hn hS (fun i hi=>sz_mono (hb i hi) hSm) hp hpm (szD_mono szA hSm) sze her hec hfre
   (fun {ρ s K} hs hρ hE hO hK=>hopt hs hρ hE hO (by omega) (by simp only[pivot,dA]; omega) rfl hS hsize hK) hx
  by_cases hv:e.v<0
  ·refine .inl ⟨e,_,⟨inf_of hSe hcst hv,fun i=>sz_neg (cv_sz hSe.bd sze (n+i))⟩,?_⟩
   have hy:fL (fun i=>- cv e (n+i)) m=fL (priD n m e e.c) m:=congrArg _ (fR_congr fun i hi=>(pri_cv hSe.bd hi).symm)
   rw[hy]
   exact fun {ρ s K} hs hρ hE hO h=>hwalk (.inl ⟨hv,rfl,rfl⟩) hs hρ hE hO h
  ·have hv0:e.v=0:=by have:=ph1_v hSe hfin.feas; grind
   have fin:∀ d1:Dict,((d1=e∧∀ i,i<m→e.bas i≠n+m)∨∃ i q,i<m∧q<e.c∧e.bas i=n+m∧(∀ k,k<i→e.bas k≠n+m)∧e.a i q≠0∧(∀ k,k<q→e.a i k=0)∧d1=pivot e i q) →
     Same d1 (dA n m A bb) (n+m+1)→feas d1→d1.r=m→d1.c=n+1→(∃ j,j<d1.c∧d1.fre j=n+m)→szD (grow S m) d1 →
     (∃ e,Ready n m (grow S m) A bb e∧∀ {ρ:List (Nat × Entry)} {s:St} {K:AV→St→Prop},s.sto=ρ++tN n m A bb→rest ρ→lowF 2000 s.env→lowO 2000 s.out→K (.tuple [nilA,bv true]) ⟨s.env,ρ++tL n m e,s.out,s.base⟩→CallI Try.prog F__tb_start [.ptr 1015 0] s K):=by
    intro d1 h1 hS hF hr hc hex hz
    obtain ⟨j0,hj0,hf0,hmin⟩:=least hex
    refine ⟨dropD d1 j0,⟨drop_bij hS hj0 hf0,fun x=>drop_sol hS hj0 hf0 x,fun i hi=>hF i hi,hr,by simp only[dropD]; omega,
     ⟨fun i j hi hj=>hz.a i _ hi (sk_lt hj0 hj),fun i hi=>hz.b i hi,fun j hj=>hz.cst _ (sk_lt hj0 hj),hz.v⟩⟩,?_⟩
    exact fun {ρ s K} hs hρ hE hO h=>hwalk (.inr ⟨hv,rfl,d1,j0,h1,hj0,hf0,hmin,rfl⟩) hs hρ hE hO h
   refine .inr ?_
   by_cases hb0:∃ i,i<m∧e.bas i=n+m
   ·obtain ⟨i,hi,hbi,hmin⟩:=least hb0
    obtain ⟨q,hq,haq,hqm⟩:=least (ph1_piv hSe (by omega) hbi)
    have hS2:Same (pivot e i q) (dA n m A bb) (n+m+1):=(Same.pivot hSe.bd (by omega) hq haq).trans hSe
    refine fin (pivot e i q) (.inr ⟨i,q,hi,hq,hbi,hmin,haq,fun k hk=>Classical.byContradiction fun h=>hqm k hk h,rfl⟩) hS2 (feas_deg hfin.feas (ph1_b0 hSe (by omega) hbi hv0)) her hec ⟨q,hq,by simp only[pivot,upd,if_true]; exact hbi⟩ ?_
    exact Same.size_r (d:=dA n m A bb) szA hS2.symm her hec
   ·refine fin e (.inl ⟨rfl,fun i hi h=>hb0 ⟨i,hi,h⟩⟩) hSe hfin.feas her hec ?_ sze
    rcases free_or_basic hSe.bd (show n+m<n+m+1 by omega) with h | ⟨i,hi,h⟩
    ·exact h
    ·exact absurd ⟨i,by omega,h⟩ hb0
end Go.Proofs.Ytbgnkodhpbkdoaa

namespace Go.Proofs.Ytbgnkodhpbkdoaa
open Go Go.Am Go.Dig Go.LP
@[simp] theorem mR_take {g:Nat→List AV} {n:Nat}:(mR g n).take n=mR g n:=List.take_of_length_le (by simp)
@[simp] theorem cR_take {a:Nat→Nat→Rat} {cl:Nat→Nat} {n:Nat}:(cR a cl n).take n=cR a cl n:=mR_take
@[simp] theorem nR_take {f:Nat→Nat} {n:Nat}:(nR f n).take n=nR f n:=mR_take
theorem R_vals {I I':Nat→Nat→Prop} {w:World} {β β':Blocks} {lam lam':Owned} {v:Value} {x y:Value} (h:R I w β lam (.tuple [.val x,.val y]) v):R I' w β' lam' (.tuple [.val x,.val y]) v:=by
 have key:∀ {l:List AV} {vs:Array Value},l=[.val x,.val y]→vs.size=l.length→(∀ i c,l[i]?=some c→R I w β lam c (vs.getD i undef))→∀ i c,l[i]?=some c→R0 I' w c (vs.getD i undef):=by
  intro l vs hl _ h i c hc
  subst hl
  have h1:=h i c hc
  match i,hc with
  | 0,hc =>
   simp only[List.getElem?_cons_zero,Option.some.injEq] at hc
   subst hc
   cases h1 with
   | base h1=>cases h1; exact .val _
  | 1,hc =>
   simp only[List.getElem?_cons_succ,List.getElem?_cons_zero,Option.some.injEq] at hc
   subst hc
   cases h1 with
   | base h1=>cases h1; exact .val _
 cases h with
 | base h=>cases h with | tuple _ vs hs hc=>exact .base (.tuple _ vs hs (key rfl hs fun i c h=>.base (hc i c h)))
 | tuple _ vs hs _ hc=>exact .base (.tuple _ vs hs (key rfl hs hc))
theorem postV {P:Program} {f:FuncId} {xs:List AV} {s:St} {x y:Value} {s1 t:St} {K':AV→St→Prop} (hc:CallI P f xs s fun r s'=>r=.tuple [.val x,.val y]∧s'=s1) (h:St.imp s1 t) (hk:K' (.tuple [.val x,.val y]) t):CallI P f xs s K' :=
 fun F a w I β lam hI vs hn hv=>Calls.mono (hc F a w I β lam hI vs hn hv) fun e w' ⟨v,e1,r,s',I',β',lam',⟨hr,hs⟩,hI',hR⟩=>by
  subst hr hs
  obtain ⟨I2,β2,lam2,h2⟩:=h _ _ _ ⟨I',β',lam',hI'⟩
  exact ⟨v,e1,_,t,I2,β2,lam2,hk,h2,R_vals hR⟩
theorem finR_vals (e:Dict):∃ x y,finR e=.tuple [.val x,.val y]:=by
 unfold finR
 split
 ·exact ⟨_,_,rfl⟩
 ·exact ⟨_,_,rfl⟩
noncomputable def rhoS (A:Nat→Nat→Rat) (bb gg:Nat→Rat) (n m:Nat):List (Nat × Entry) :=
 [(1,.var [fL gg n,.list 4 .plain (pR A bb n m)]),(2,.var [iv 0,bv false,nilA,nilA,nilA,nilA,nilA])]
noncomputable def rhoT:List (Nat × Entry):=[(2,.var [iv 0,bv false,nilA,nilA,nilA,nilA,nilA])]
theorem rhoS_rest {A:Nat→Nat→Rat} {bb gg:Nat→Rat} {n m:Nat}:rest (rhoS A bb gg n m):=by
 intro p hp
 simp only[rhoS,List.mem_cons,List.not_mem_nil,or_false] at hp
 rcases hp with rfl | rfl
 ·exact ⟨.inl (show (_:Nat)<1000 by simp),by simp[lowE]; exact ⟨rfl,rfl⟩⟩
 ·exact ⟨.inl (show (_:Nat)<1000 by simp),by simp[lowE]; exact ⟨rfl,rfl,rfl⟩⟩
theorem rhoT_rest:rest rhoT:=by
 intro p hp
 simp only[rhoT,List.mem_cons,List.not_mem_nil,or_false] at hp
 subst hp
 exact ⟨.inl (show (_:Nat)<1000 by simp),by simp[lowE]; exact ⟨rfl,rfl,rfl⟩⟩
theorem frozen_tab {n m:Nat} {e:Dict} {b:Nat} :
  St.imp ⟨[(2,.ptr 2 0),(5,.ptr 1015 0)],rhoT++tL n m e,[],b⟩ ⟨[(2,.ptr 2 0),(5,tR n m e)],rhoT,[],b⟩:=by
 refine St.imp.trans (St.imp_freeze (k:=1961) (by simp[eFreeze,rhoT,tL,frzE_var,frzE_uarr,frz_plain,frz_us,frz_ptr]; rfl)) ?_
 refine St.imp.trans (St.imp_freeze (k:=1972) (by simp[eFreeze,frzE_var,frzE_uarr,frz_plain,frz_us,frz_ptr]; rfl)) ?_
 refine St.imp.trans (St.imp_freeze (k:=1987) (by simp[eFreeze,frzE_var,frzE_uarr,frz_plain,frz_us,frz_ptr]; rfl)) ?_
 refine St.imp.trans (St.imp_freeze (k:=2029) (by simp[eFreeze,frzE_var,frz_plain,frz_us,frz_ptr]; rfl)) ?_
 refine St.imp.trans (St.imp_freeze (k:=1015) (by simp[eFreeze,frzE_var,frz_ptr]; rfl)) ?_
 simp[tR,rhoT]
 exact St.imp.refl
@[simp] theorem goLoad_5 {q:Rat} {a b:AV}:goLoad [f0 q,f1 q,f2 q,a,b] 0 (some 3)=some (fq q):=by simp[goLoad]
@[simp] theorem splice_sol {q:Rat} {a b c d x y z:AV}:splice [a,b,c,d,x,y,z] 1 (fr q)=[a,f0 q,f1 q,f2 q,x,y,z]:=by unfold fr; simp[splice,-fr_fold]
theorem low_nilA {M:Nat}:Am.low M nilA=true:=rfl
theorem low_pA {A:Nat→Nat→Rat} {bb gg:Nat→Rat} {n m M:Nat}:Am.low M (.agg [.list 3 .plain (fR gg n),.list 4 .plain (pR A bb n m)])=true:=rfl
def SolR (n m L:Nat) (A:Nat→Nat→Rat) (bb gg:Nat→Rat) (r:AV):Prop :=
 (∃ x y v,(Opt n m A bb gg x y v∧(∀ j,sz L (x j))∧(∀ i,sz L (y i))∧sz L v)∧r=.agg [iv 1,f0 v,f1 v,f2 v,fL x n,fL y m,nilA]) ∨
 (∃ y,(Inf n m A bb y∧∀ i,sz L (y i))∧r=.agg [iv 2,bv false,nilA,nilA,nilA,fL y m,nilA]) ∨
 (∃ x ray,(Unb n m A bb gg x ray∧(∀ j,sz L (x j))∧∀ j,sz L (ray j))∧r=.agg [iv 3,bv false,nilA,nilA,fL x n,nilA,fL ray n])
theorem ok_newTableau:okFn Try.prog F_s_newTableau=true:=by kernel_rfl
theorem ok_start:okFn Try.prog F__tb_start=true:=by kernel_rfl
theorem ok_setGoal:okFn Try.prog F__tb_setGoal=true:=by kernel_rfl
theorem solve_big {n m S:Nat} {A:Nat→Nat→Rat} {bb gg:Nat→Rat} (hm:m<900000) (hn:n<900000) (hS:grow S m+(m+1)*(2*grow S m+1)≤30000000000) (ha:∀ i j,i<m→j<n→sz S (A i j)) (hb:∀ i,i<m→sz S (bb i)) (hg:∀ j,j<n→sz S (gg j))
  (hchk:SoundCall Try.prog F_s_Check [pA A bb gg n m] (iv 0)) :
  ∃ r,SolR n m (grow S m) A bb gg r∧SoundCall Try.prog F_s_Solve [pA A bb gg n m] (.tuple [r,iv 0]):=by
 have hSm:S≤grow S m:=grow_mono (m:=0) (Nat.zero_le m)
 have h0:1*(2*grow S m+1)≤(m+1)*(2*grow S m+1):=Nat.mul_le_mul_right _ (by omega)
 have hSG:grow S m≤10000000000:=by omega
 have szG:szD S (dG n m A bb gg):=⟨fun i j hi hj=>ha i j hi hj,fun i hi=>hb i hi,fun j hj=>hg j hj,sz_zero⟩
 have nt:∀ {s:St} {K:AV→St→Prop},s.sto=rhoS A bb gg n m→lowF 1000 s.env→lowO 1000 s.out→K (.ptr 1015 0) ⟨s.env,rhoS A bb gg n m++tN n m A bb,s.out,s.base⟩→CallI Try.prog F_s_newTableau [pA A bb gg n m] s K :=
  fun hs hE hO hK=>newTableauI hs rhoS_rest hE hO (by omega) (by omega) hK
 rcases startI (S:=S) (A:=A) (bb:=bb) hm hn hSG ha hb with ⟨e,y,hi,hst⟩ | ⟨e,hr,hst⟩
 ·refine ⟨_,.inr (.inl ⟨y,hi,rfl⟩),?_⟩
  refine sound' t_s_Solve (by simp) ?_
  simp[c_s_Solve]
  refine eCall_i hchk (by simp) (by simp) ?_
  simp[ok_newTableau]
  refine eCallI_of (nt (by simp[rhoS]) (by simp[lowF_cons,lowF_nil,low_iv,low_bv,low_ptr,low_pA]) (by simp[lowO]) ?_)
  simp[ok_start]
  refine eCallI_of (hst rfl rhoS_rest (by simp[lowF_cons,lowF_nil,low_ptr]) (by simp[lowO]) ?_)
  simp[rhoS,tL,r_s_Solve]
 ·have hS2:Same (goalD n gg e) (dG n m A bb gg) (n+m):=goal_same hr.bij hr.sol
  have hF2:feas (goalD n gg e):=hr.feas
  have hsize:∀ e',Same e' (goalD n gg e) (n+m)→e'.r=(goalD n gg e).r→e'.c=(goalD n gg e).c→szD (grow S m) e':=fun e' he h1 h2 =>
   Same.size_r (d:=dG n m A bb gg) szG (he.trans hS2).symm (by rw[h1]; exact hr.r) (by rw[h2]; exact hr.c)
  obtain ⟨e2,hfin,hopt⟩:=optimizeI hS2.bd hF2
  have hSe:Same e2 (dG n m A bb gg) (n+m):=hfin.same.trans hS2
  have her:e2.r=m:=hfin.r.trans hr.r
  have hec:e2.c=n:=hfin.c.trans hr.c
  have sze:szD (grow S m) e2:=hsize e2 hfin.same hfin.r hfin.c
  have hfre:∀ j,j<e2.c→e2.fre j<4000000:=fun j hj=>by have:=fre_lt hSe.bd hj; omega
  obtain ⟨fx,fy,hfr⟩:=finR_vals e2
  have so:∀ {K:AV→St→Prop},K (finR e2) ⟨[(2,.ptr 2 0),(5,tR n m e2)],rhoT,[],0⟩→CallI Try.prog F__tb_optimize [.ptr 1015 0] ⟨[(2,.ptr 2 0),(5,.ptr 1015 0),(32,.ptr 1015 0)],rhoT++tL n m (goalD n gg e),[],0⟩ K:=fun {K} hK=>by
   refine CallI.pre (impW_env (env:=[(2,.ptr 2 0),(5,.ptr 1015 0)]) (by simp[subE_cons,subE_nil])) ?_
   refine postV (hopt rfl rhoT_rest (by simp[lowF_cons,lowF_nil,low_ptr]) (by simp[lowO]) (by omega) (by rw[show (goalD n gg e).c=n from hr.c]; omega) hr.r hSG hsize ⟨hfr,rfl⟩) frozen_tab ?_
   rw[← hfr]
   exact hK
  have pt:=point_sound (n:=n) (m:=m) (d:=e2) (by omega) (by omega)
  have pr:=prices_sound (n:=n) (m:=m) (L:=grow S m) (d:=e2) (by omega) (by omega) (by omega) hfre (by omega) sze.cst
  have hx:fL (poiD n e2 m) n=fL (vl e2) n:=congrArg _ (fR_congr fun j hj=>by rw[← her]; exact poi_vl hSe.bd hj)
  have hy:fL (priD n m e2 e2.c) m=fL (fun i=>- cv e2 (n+i)) m:=congrArg _ (fR_congr fun i hi=>pri_cv hSe.bd hi)
  rw[hx] at pt
  rw[hy] at pr
  rcases hfin.out with ⟨ho,hcst⟩ | ⟨q,ho,hq,hc0,hall⟩
  ·refine ⟨_,.inl ⟨_,_,_,⟨opt_of hSe hfin.feas hcst,vl_sz hSe.bd sze,fun i=>sz_neg (cv_sz hSe.bd sze (n+i)),sze.v⟩,rfl⟩,?_⟩
   rw[ho] at so
   refine sound' t_s_Solve (by simp) ?_
   simp[c_s_Solve]
   refine eCall_i hchk (by simp) (by simp) ?_
   simp[ok_newTableau]
   refine eCallI_of (nt (by simp[rhoS]) (by simp[lowF_cons,lowF_nil,low_iv,low_bv,low_ptr,low_pA]) (by simp[lowO]) ?_)
   simp[ok_start]
   refine eCallI_of (hst rfl rhoS_rest (by simp[lowF_cons,lowF_nil,low_ptr]) (by simp[lowO]) ?_)
   simp[ok_setGoal,rhoS]
   refine eCallI_of (setGoalI (s:=⟨_,rhoS A bb gg n m++tL n m e,[],0⟩) (L:=grow S m) (d:=e) (g:=gg) (ρ:=rhoS A bb gg n m) (n:=n) (m:=m) rfl rhoS_rest ?_ (by simp[lowO]) (by omega) (by omega) (by rw[hr.c]; omega) hr.r (by omega) hr.sz (fun j hj=>sz_mono (hg j hj) hSm) ?_)
   ·simp[lowF_cons,lowF_nil,low_bv,low_ptr,low_fL,low_nilA]
   simp[ok_optimize,rhoS,tL]
   refine eCallI_of (so ?_)
   simp[tR,rhoT]
   refine eCall_i pt (by simp[tR]) (by simp) ?_
   simp
   refine eCall_i pr (by simp[tR]) (by simp) ?_
   simp[r_s_Solve]
  ·have ra:=ray_sound (n:=n) (m:=m) (L:=grow S m) (d:=e2) (q:=q) (by omega) (by omega) hq (by omega) (fun i hi=>sze.a i q (by omega) hq)
   have hra:fL (rayD n e2 q m) n=fL (rayq e2 q) n:=congrArg _ (fR_congr fun j hj=>by rw[← her]; exact ray_q hSe.bd hq hj)
   rw[hra] at ra
   refine ⟨_,.inr (.inr ⟨_,_,⟨unb_of hSe hfin.feas hq hc0 hall,vl_sz hSe.bd sze,rayq_sz hSe.bd sze hq⟩,rfl⟩),?_⟩
   rw[ho] at so
   refine sound' t_s_Solve (by simp) ?_
   simp[c_s_Solve]
   refine eCall_i hchk (by simp) (by simp) ?_
   simp[ok_newTableau]
   refine eCallI_of (nt (by simp[rhoS]) (by simp[lowF_cons,lowF_nil,low_iv,low_bv,low_ptr,low_pA]) (by simp[lowO]) ?_)
   simp[ok_start]
   refine eCallI_of (hst rfl rhoS_rest (by simp[lowF_cons,lowF_nil,low_ptr]) (by simp[lowO]) ?_)
   simp[ok_setGoal,rhoS]
   refine eCallI_of (setGoalI (s:=⟨_,rhoS A bb gg n m++tL n m e,[],0⟩) (L:=grow S m) (d:=e) (g:=gg) (ρ:=rhoS A bb gg n m) (n:=n) (m:=m) rfl rhoS_rest ?_ (by simp[lowO]) (by omega) (by omega) (by rw[hr.c]; omega) hr.r (by omega) hr.sz (fun j hj=>sz_mono (hg j hj) hSm) ?_)
   ·simp[lowF_cons,lowF_nil,low_bv,low_ptr,low_fL,low_nilA]
   simp[ok_optimize,rhoS,tL]
   refine eCallI_of (so ?_)
   simp[tR,rhoT]
   refine eCall_i pt (by simp[tR]) (by simp) ?_
   simp
   refine eCall_i ra (by simp[tR]) (by simp) ?_
   simp[r_s_Solve]
theorem solve_ex {n m S:Nat} {A:Nat→Nat→Rat} {bb gg:Nat→Rat} (hm:m<900000) (hn:n<900000) (hS:grow S m+(m+1)*(2*grow S m+1)≤10000000000) (ha:∀ i j,i<m→j<n→sz S (A i j)) (hb:∀ i,i<m→sz S (bb i)) (hg:∀ j,j<n→sz S (gg j))
  (hchk:SoundCall Try.prog F_s_Check [pA A bb gg n m] (iv 0)) :
  ∃ r,SolR n m (grow S m) A bb gg r∧SoundCall Try.prog F_s_Solve [pA A bb gg n m] (.tuple [r,iv 0]):=solve_big hm hn (Nat.le_trans hS (by decide)) ha hb hg hchk
end Go.Proofs.Ytbgnkodhpbkdoaa

namespace Go.Proofs.Ytbgnkodhpbkdoaa
open Go Go.Am Go.Dig Go.LP
structure RF where
 s:Bool
 a:List Nat
 c:List Nat
def RF.fine (x:RF):Prop:=ok x.a∧ok x.c∧x.a.length<17179869184∧x.c.length<17179869184
def RF.v (x:RF):Bool:=vfr x.s x.a x.c
def RF.of (q:Rat):RF:=⟨decide (q.num<0),digs q.num.natAbs,digs q.den⟩
noncomputable def h0 (x:RF):AV:=Classical.choose (ex_eq (bv x.s))
noncomputable def h1 (x:RF):AV:=Classical.choose (ex_eq (nl .plain x.a))
noncomputable def h2 (x:RF):AV:=Classical.choose (ex_eq (nl .plain x.c))
theorem h0_eq (x:RF):h0 x=bv x.s:=Classical.choose_spec (ex_eq _)
theorem h1_eq (x:RF):h1 x=nl .plain x.a:=Classical.choose_spec (ex_eq _)
theorem h2_eq (x:RF):h2 x=nl .plain x.c:=Classical.choose_spec (ex_eq _)
noncomputable def hr (x:RF):List AV:=[h0 x,h1 x,h2 x]
@[simp] theorem hr_fold (x:RF):[h0 x,h1 x,h2 x]=hr x:=rfl
noncomputable abbrev hq (x:RF):AV:=.agg (hr x)
theorem h0_of (q:Rat):h0 (RF.of q)=f0 q:=by rw[h0_eq,f0_eq]; rfl
theorem h1_of (q:Rat):h1 (RF.of q)=f1 q:=by rw[h1_eq,f1_eq]; rfl
theorem h2_of (q:Rat):h2 (RF.of q)=f2 q:=by rw[h2_eq,f2_eq]; rfl
theorem hr_of (q:Rat):hr (RF.of q)=fr q:=by unfold hr fr; rw[h0_of,h1_of,h2_of]
theorem hr_eq (x:RF):hr x=[bv x.s,nl .plain x.a,nl .plain x.c]:=by unfold hr; rw[h0_eq,h1_eq,h2_eq]
section
variable {x:RF} {l k a b M:Nat} {e:Entry}
@[simp] theorem h0_rf:rf (h0 x)=true:=by rw[h0_eq]; rfl
@[simp] theorem h0_strip:strip (h0 x)=h0 x:=by rw[h0_eq]; rfl
@[simp] theorem h0_dg:dg l (h0 x)=h0 x:=by rw[h0_eq]; simp
@[simp] theorem h0_frz:frz l e (h0 x)=h0 x:=by rw[h0_eq]; rfl
@[simp] theorem h0_rn:rn a b (h0 x)=h0 x:=by rw[h0_eq]; rfl
@[simp] theorem h0_low:Am.low M (h0 x)=true:=by rw[h0_eq]; rfl
@[simp] theorem h0_refs:refsTo k (h0 x)=false:=by rw[h0_eq]; rfl
@[simp] theorem h0_tok:tokB k (h0 x)=false:=by rw[h0_eq]; rfl
@[simp] theorem h1_rf:rf (h1 x)=true:=by rw[h1_eq]; rfl
@[simp] theorem h1_strip:strip (h1 x)=h1 x:=by rw[h1_eq]; rfl
@[simp] theorem h1_dg:dg l (h1 x)=h1 x:=by rw[h1_eq]; simp
@[simp] theorem h1_frz:frz l e (h1 x)=h1 x:=by rw[h1_eq]; rfl
@[simp] theorem h1_rn:rn a b (h1 x)=h1 x:=by rw[h1_eq]; rfl
@[simp] theorem h1_low:Am.low M (h1 x)=true:=by rw[h1_eq]; rfl
@[simp] theorem h1_refs:refsTo k (h1 x)=false:=by rw[h1_eq]; rfl
@[simp] theorem h1_tok:tokB k (h1 x)=false:=by rw[h1_eq]; rfl
@[simp] theorem h2_rf:rf (h2 x)=true:=by rw[h2_eq]; rfl
@[simp] theorem h2_strip:strip (h2 x)=h2 x:=by rw[h2_eq]; rfl
@[simp] theorem h2_dg:dg l (h2 x)=h2 x:=by rw[h2_eq]; simp
@[simp] theorem h2_frz:frz l e (h2 x)=h2 x:=by rw[h2_eq]; rfl
@[simp] theorem h2_rn:rn a b (h2 x)=h2 x:=by rw[h2_eq]; rfl
@[simp] theorem h2_low:Am.low M (h2 x)=true:=by rw[h2_eq]; rfl
@[simp] theorem h2_refs:refsTo k (h2 x)=false:=by rw[h2_eq]; rfl
@[simp] theorem h2_tok:tokB k (h2 x)=false:=by rw[h2_eq]; rfl
@[simp] theorem hr_len:(hr x).length=3:=by simp[hr_eq]
@[simp] theorem hr_rf:(hr x).all rf=true:=by rw[hr_eq]; simp
@[simp] theorem hr_strip:(hr x).map strip=hr x:=by rw[hr_eq]; simp
@[simp] theorem hr_dg:(hr x).map (dg l)=hr x:=by rw[hr_eq]; simp
@[simp] theorem hr_ref:anyRef k (hr x)=false:=by rw[hr_eq]; simp
@[simp] theorem goLoad_hr:goLoad (hr x) 0 (some 3)=some (hq x):=by rw[goLoad_all hr_len hr_rf,hr_strip]
@[simp] theorem goLoad_hrow {y:AV}:goLoad (y::hr x) 1 (some 3)=some (hq x):=by
 simp only[goLoad,hr,List.length_cons,List.length_nil,List.drop_succ_cons,List.drop_zero,List.take]
 simp
@[simp] theorem splice_hr {y z w:AV}:splice [y,z,w] 0 (hr x)=hr x:=by rw[hr_eq]; simp[splice]
end
theorem h_valid {x:RF} (h:x.fine):SoundCall Try.prog F_f_Valid [hq x] (bv x.v):=by
 unfold hq; rw[hr_eq]; exact valid_frac h.1 h.2.1 h.2.2.1 h.2.2.2 rfl rfl
theorem h_validr {x:RF} (h:x.fine):SoundCall Try.prog F_p_Valid [hq x] (bv x.v):=by
 unfold hq; rw[hr_eq]; exact valid_refq h.1 h.2.1 h.2.2.1 h.2.2.2 rfl rfl
noncomputable def hR (f:Nat→RF) (n:Nat):List (List AV):=mR (fun j=>hr (f j)) n
noncomputable abbrev hL (f:Nat→RF) (n:Nat):AV:=.list 3 .plain (hR f n)
section
variable {f:Nat→RF} {n i k:Nat}
@[simp] theorem hR_len:(hR f n).length=n:=mR_len
@[simp] theorem hR_getE {hi:i<(hR f n).length}:(hR f n)[i]=hr (f i):=mR_getE
@[simp] theorem hR_rf:rowsRf (hR f n)=true:=mR_all fun _=>by simp
@[simp] theorem hR_st:rowsSt (hR f n)=hR f n:=mR_map fun _=>by simp
theorem hR_of {g:Nat→Rat} (h:∀ j,j<n→f j=RF.of (g j)):hR f n=fR g n:=mR_congr fun j hj=>by rw[h j hj,hr_of]
end
noncomputable def qR (A:Nat→Nat→RF) (cl:Nat→Nat) (b:Nat→RF) (m:Nat):List (List AV):=mR (fun i=>[hL (A i) (cl i),h0 (b i),h1 (b i),h2 (b i)]) m
noncomputable abbrev rA (G:Nat→RF) (n:Nat) (A:Nat→Nat→RF) (cl:Nat→Nat) (b:Nat→RF) (m:Nat):AV:=.agg [hL G n,.list 4 .plain (qR A cl b m)]
section
variable {A:Nat→Nat→RF} {cl:Nat→Nat} {b:Nat→RF} {m i:Nat}
@[simp] theorem qR_len:(qR A cl b m).length=m:=mR_len
@[simp] theorem qR_getE {hi:i<(qR A cl b m).length}:(qR A cl b m)[i]=[hL (A i) (cl i),h0 (b i),h1 (b i),h2 (b i)]:=mR_getE
@[simp] theorem qR_rf:rowsRf (qR A cl b m)=true:=mR_all fun _=>by simp
@[simp] theorem qR_st:rowsSt (qR A cl b m)=qR A cl b m:=mR_map fun _=>by simp
end
noncomputable def allV (f:Nat→RF) (n:Nat):Bool:=@decide (∀ j,j<n→(f j).v=true) (Classical.propDecidable _)
theorem allV_iff {f:Nat→RF} {n:Nat}:allV f n=true↔∀ j,j<n→(f j).v=true:=by unfold allV; exact @decide_eq_true_iff _ (Classical.propDecidable _)
noncomputable def stVl (f:Nat→RF) (n k:Nat):St:={env:=[(5,hL f n),(6,iv n),(7,iv k)],sto:=[]}
theorem validL {f:Nat→RF} {n:Nat} (hn:n<1000000) (hf:∀ j,j<n→(f j).fine):SoundCall Try.prog F_s_valid [hL f n] (bv (allV f n)):=by
 refine sound' t_s_valid (by simp) ?_
 simp[c_s_valid]
 refine awp_forW (stVl f n) (fun k=>∀ j,j<k→(f j).v=true) n (by simp[stVl]) (fun j hj=>by omega) (fun k hk hI=>?_) (fun hI=>?_)
 ·have e:(k:Int)<n:=by omega
  have w:=wrap_succ (k:=k) (by omega)
  simp[c_s_valid_l0,stVl,e,hk]
  refine eCall_i (h_valid (hf k hk)) (by simp) (by simp) ?_
  cases hv:(f k).v with
  | true =>
   simp[w,stVl]
   intro j hj
   by_cases ej:j=k
   ·subst ej; exact hv
   ·exact hI j (by omega)
  | false =>
   have:allV f n=false:=by
    cases h:allV f n with
    | false=>rfl
    | true=>have:=allV_iff.1 h k hk; rw[hv] at this; cases this
   simp[r_s_valid,this]
 ·have:allV f n=true:=allV_iff.2 hI
  simp[c_s_valid_l0,c_s_valid_k1,r_s_valid,stVl,this]
def goodP (G:Nat→RF) (n:Nat) (A:Nat→Nat→RF) (cl:Nat→Nat) (b:Nat→RF) (m:Nat):Prop :=
 (∀ j,j<n→(G j).v=true)∧∀ i,i<m→cl i=n∧(b i).v=true∧∀ j,j<n→(A i j).v=true
noncomputable def chkE (G:Nat→RF) (n:Nat) (A:Nat→Nat→RF) (cl:Nat→Nat) (b:Nat→RF) (m:Nat):Int :=
 if 160<n∨40<m then 3 else @ite _ (goodP G n A cl b m) (Classical.propDecidable _) 0 2
section
variable {G:Nat→RF} {n:Nat} {A:Nat→Nat→RF} {cl:Nat→Nat} {b:Nat→RF} {m:Nat}
theorem chkE_long (h:160<n∨40<m):chkE G n A cl b m=3:=if_pos h
theorem chkE_good (h:¬ (160<n∨40<m)) (hg:goodP G n A cl b m):chkE G n A cl b m=0:=by unfold chkE; rw[if_neg h]; exact @if_pos _ (Classical.propDecidable _) hg _ _ _
theorem chkE_bad (h:¬ (160<n∨40<m)) (hg:¬ goodP G n A cl b m):chkE G n A cl b m=2:=by unfold chkE; rw[if_neg h]; exact @if_neg _ (Classical.propDecidable _) hg _ _ _
noncomputable def stCk (G:Nat→RF) (n:Nat) (A:Nat→Nat→RF) (cl:Nat→Nat) (b:Nat→RF) (m k:Nat):St :=
 {env:=[(1,.ptr 1 0),(20,.list 4 .plain (qR A cl b m)),(21,iv m),(22,iv k)],sto:=[(1,.var [hL G n,.list 4 .plain (qR A cl b m)])]}
theorem check_sx (hn:n<1000000) (hm:m<1000000) (hc:∀ i,i<m→cl i<1000000) (hG:∀ j,j<n→(G j).fine) (hA:∀ i j,i<m→j<cl i→(A i j).fine) (hb:∀ i,i<m→(b i).fine) :
  SoundCall Try.prog F_s_Check [rA G n A cl b m] (iv (chkE G n A cl b m)):=by
 have kG:=validL hn hG
 refine sound' t_s_Check (by simp) ?_
 by_cases hl:160<n∨40<m
 ·rw[chkE_long hl]
  by_cases h1:160<n
  ·have h1':(160:Int)<n:=by omega
   simp[c_s_Check,h1',r_s_Check]
  ·have h1':¬ (160:Int)<n:=by omega
   have h2':(40:Int)<m:=by omega
   simp[c_s_Check,h1',h2',r_s_Check]
 ·have h1':¬ (160:Int)<n:=by omega
  have h2':¬ (40:Int)<m:=by omega
  simp[c_s_Check,h1',h2']
  refine eCall_i kG (by simp) (by simp) ?_
  cases hv:allV G n with
  | false =>
   rw[chkE_bad hl fun hg=>by rw[allV_iff.2 hg.1] at hv; cases hv]
   simp[r_s_Check]
  | true =>
   simp
   refine awp_forW (stCk G n A cl b m) (fun k=>∀ i,i<k→cl i=n∧(b i).v=true∧∀ j,j<n→(A i j).v=true) m (by simp[stCk]) (fun j hj=>by omega) (fun k hk hI=>?_) (fun hI=>?_)
   ·have e:(k:Int)<m:=by omega
    have w:=wrap_succ (k:=k) (by omega)
    have kA:=validL (f:=A k) (n:=cl k) (hc k hk) (fun j hj=>hA k j hk hj)
    have kb:=h_valid (hb k hk)
    by_cases h3:cl k=n
    ·have kA:=kA
     rw[h3] at kA
     simp[c_s_Check_l0,stCk,e,hk,h3]
     refine eCall_i kA (by simp) (by simp) ?_
     cases hva:allV (A k) n with
     | false =>
      rw[chkE_bad hl fun hg=>by have:=hg.2 k hk; rw[allV_iff.2 this.2.2] at hva; cases hva]
      simp[r_s_Check]
     | true =>
      simp
      refine eCall_i kb (by simp) (by simp) ?_
      cases hvb:(b k).v with
      | false =>
       rw[chkE_bad hl fun hg=>by have:=hg.2 k hk; rw[hvb] at this; cases this.2.1]
       simp[r_s_Check]
      | true =>
       simp[w,stCk]
       intro i hi
       by_cases ei:i=k
       ·subst ei; exact ⟨h3,hvb,allV_iff.1 hva⟩
       ·exact hI i (by omega)
    ·have h3':¬ (cl k:Int)=n:=by omega
     rw[chkE_bad hl fun hg=>h3 (hg.2 k hk).1]
     simp[c_s_Check_l0,stCk,e,hk,h3',r_s_Check]
   ·rw[chkE_good hl ⟨allV_iff.1 hv,hI⟩]
    simp[c_s_Check_l0,c_s_Check_k1,r_s_Check,stCk]
end
end Go.Proofs.Ytbgnkodhpbkdoaa
