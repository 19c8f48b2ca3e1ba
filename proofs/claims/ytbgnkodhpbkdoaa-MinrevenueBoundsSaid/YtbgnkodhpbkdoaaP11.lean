/- What the proof rests on, part 11: Y0 Y1 LM M1 M2 M3 M4 M5 M6 M8 M10 M11 M12 M7 M9 M13 M14 M15 M16 M17. -/
import Derived.Test.YtbgnkodhpbkdoaaP10
set_option maxRecDepth 100000
set_option maxHeartbeats 4000000
namespace Go.Proofs.Ytbgnkodhpbkdoaa
open Go Go.Am Go.Dig Go.LP
@[simp] theorem hr_0 {x:RF}:(hr x)[0]?=some (h0 x):=rfl
@[simp] theorem hr_1 {x:RF}:(hr x)[1]?=some (h1 x):=rfl
@[simp] theorem hr_2 {x:RF}:(hr x)[2]?=some (h2 x):=rfl
@[simp] theorem hr_1E {x:RF} {h:1<(hr x).length}:(hr x)[1]=h1 x:=rfl
@[simp] theorem hr_2E {x:RF} {h:2<(hr x).length}:(hr x)[2]=h2 x:=rfl
def smallF (x:RF) (D:Nat):Prop:=x.a.length≤D∧x.c.length≤D
noncomputable def stSaA (s t:Bool) (a c a' c':List Nat) (k:Nat):St :=
 {env:=[(2,.ptr 2 0),(3,.ptr 3 0),(5,iv k)],sto:=[(2,.var [bv s,nl .plain a,nl .plain c]),(3,.var [bv t,nl .plain a',nl .plain c'])]}
noncomputable def stSaB (s t:Bool) (a c a' c':List Nat) (k:Nat):St :=
 {env:=[(2,.ptr 2 0),(3,.ptr 3 0),(6,iv k)],sto:=[(2,.var [bv s,nl .plain a,nl .plain c]),(3,.var [bv t,nl .plain a',nl .plain c'])]}
theorem list_eq_of {a b:List Nat} (hl:a.length=b.length) (h:∀ j,j<a.length→a[j]?=b[j]?):a=b:=by
 apply List.ext_getElem?
 intro j
 by_cases hj:j<a.length
 ·exact h j hj
 ·rw[List.getElem?_eq_none (by omega),List.getElem?_eq_none (by omega)]
theorem same_raw {s t:Bool} {a c a' c':List Nat} (hn:a.length<4611686018427387904) (hm:c.length<4611686018427387904) :
  SoundCall Try.prog F_p_Same [.agg [bv s,nl .plain a,nl .plain c],.agg [bv t,nl .plain a',nl .plain c']] (bv (decide (s=t∧a=a'∧c=c'))):=by
 refine sound' t_p_Same (by simp) ?_
 by_cases e1:s=t
 rotate_left
 ·have e1':(s == t)=false:=by simp[e1]
  rw[decide_eq_false fun h=>e1 h.1]
  simp[c_p_Same,eBin_neq_bool ub_bool,e1',r_p_Same]
 subst e1
 by_cases e2:a.length=a'.length
 rotate_left
 ·have e2':¬ (a.length:Int)=a'.length:=by omega
  rw[decide_eq_false fun h=>e2 (by rw[h.2.1])]
  simp[c_p_Same,eBin_neq_bool ub_bool,e2',r_p_Same]
 have e2':(a.length:Int)=a'.length:=by omega
 by_cases e3:c.length=c'.length
 rotate_left
 ·have e3':¬ (c.length:Int)=c'.length:=by omega
  rw[decide_eq_false fun h=>e3 (by rw[h.2.2])]
  simp[c_p_Same,eBin_neq_bool ub_bool,e2,e3',r_p_Same]
 have e3':(c.length:Int)=c'.length:=by omega
 simp[c_p_Same,eBin_neq_bool ub_bool,e2,e3]
 refine awp_forW (stSaA s s a c a' c') (fun k=>∀ j,j<k→a[j]?=a'[j]?) a.length (by simp[stSaA]) (fun j hj=>by omega) (fun k hk hI=>?_) (fun hI0=>?_)
 ·have e:(k:Int)<a.length:=by omega
  have w:=wrap_succ (k:=k) (by omega)
  have hk':k<a'.length:=by omega
  have e':(k:Int)<a'.length:=by omega
  by_cases h:a[k]=a'[k]
  ·have h':(a[k]:Int)=a'[k]:=by rw[h]
   simp[c_p_Same_l0,stSaA,e,hk,hk',e',h,w]
   intro j hj
   by_cases ej:j=k
   ·subst ej; simp[hk,hk',h]
   ·exact hI j (by omega)
  ·have h':¬ (a[k]:Int)=a'[k]:=by omega
   rw[decide_eq_false (p:=a=a') fun h2=>h (by simp only[h2])]
   simp[c_p_Same_l0,stSaA,e,hk,hk',e',h',r_p_Same]
 ·have hae:=list_eq_of e2 hI0
  subst hae
  simp[c_p_Same_l0,stSaA,c_p_Same_k3]
  refine awp_forW (stSaB s s a c a c') (fun k=>∀ j,j<k→c[j]?=c'[j]?) c.length (by simp[stSaB]) (fun j hj=>by omega) (fun k hk hI=>?_) (fun hI1=>?_)
  ·have e:(k:Int)<c.length:=by omega
   have w:=wrap_succ (k:=k) (by omega)
   have hk':k<c'.length:=by omega
   have e':(k:Int)<c'.length:=by omega
   by_cases h:c[k]=c'[k]
   ·have h':(c[k]:Int)=c'[k]:=by rw[h]
    simp[c_p_Same_l1,stSaB,e,hk,hk',e',h,w]
    intro j hj
    by_cases ej:j=k
    ·subst ej; simp[hk,hk',h]
    ·exact hI j (by omega)
   ·have h':¬ (c[k]:Int)=c'[k]:=by omega
    rw[decide_eq_false (p:=c=c') fun h2=>h (by simp only[h2])]
    simp[c_p_Same_l1,stSaB,e,hk,hk',e',h',r_p_Same]
  ·have hce:=list_eq_of e3 hI1
   subst hce
   simp[c_p_Same_l1,stSaB,c_p_Same_k2,r_p_Same]
theorem rat_parts {p q:Rat}:(decide (p.num<0)=decide (q.num<0)∧digs p.num.natAbs=digs q.num.natAbs∧digs p.den=digs q.den)↔p=q:=by
 constructor
 ·rintro ⟨h1,h2,h3⟩
  have h2:=digs_inj h2
  have h3:=digs_inj h3
  have h1:=decide_eq_decide.1 h1
  exact Rat.ext (by omega) h3
 ·rintro rfl; exact ⟨rfl,rfl,rfl⟩
theorem same_q {K:Nat} {p q:Rat} (hK:K≤137438953472) (hp:sz K p):SoundCall Try.prog F_p_Same [fq p,fq q] (bv (decide (p=q))):=by
 obtain ⟨l1,l2⟩:=sz_len hp
 have h:=same_raw (s:=decide (p.num<0)) (t:=decide (q.num<0)) (a:=digs p.num.natAbs) (c:=digs p.den) (a':=digs q.num.natAbs) (c':=digs q.den) (by omega) (by omega)
 unfold fq
 rw[fr_eq,fr_eq]
 rw[show decide (p=q)=decide (decide (p.num<0)=decide (q.num<0)∧digs p.num.natAbs=digs q.num.natAbs∧digs p.den=digs q.den) from decide_eq_decide.2 rat_parts.symm]
 exact h
theorem sum_sz {L n:Nat} {f:Nat→Rat} (h:∀ i,i<n→sz L (f i)):sz (n*(L+1)) (sumR n f):=by
 induction n with
 | zero=>exact sz_zero
 | succ n ih =>
  have:=sz_add (ih fun i hi=>h i (by omega)) (h n (by omega))
  rw[Nat.succ_mul,← Nat.add_assoc]
  exact this
theorem sum_sz_le {L n N:Nat} {f:Nat→Rat} (h:∀ i,i<n→sz L (f i)) (hn:n≤N):sz (N*(L+1)) (sumR n f):=sz_mono (sum_sz h) (Nat.mul_le_mul_right _ hn)
theorem zero_r:SoundCall Try.prog F_p_FromInt [iv 0] (fq 0):=fromInt_r (n:=0) (by decide) (by decide)
theorem fine_of {K:Nat} {q:Rat} (hK:K≤137438953472) (h:sz K q):(RF.of q).fine:=by
 obtain ⟨l1,l2⟩:=sz_len h
 exact ⟨ok_digs _,ok_digs _,by simp only[RF.of]; omega,by simp only[RF.of]; omega⟩
theorem valid_r {K:Nat} {q:Rat} (hK:K≤137438953472) (h:sz K q):SoundCall Try.prog F_p_Valid [fq q] (bv true):=by
 have:=h_validr (fine_of hK h)
 unfold hq RF.v at this
 rw[hr_of] at this
 rw[show vfr (RF.of q).s (RF.of q).a (RF.of q).c=true from vfr_frac q] at this
 exact this
@[simp] theorem fr_0 {q:Rat}:(fr q)[0]?=some (f0 q):=rfl
@[simp] theorem fr_0E {q:Rat} {h:0<(fr q).length}:(fr q)[0]=f0 q:=rfl
@[simp] theorem fr_1 {q:Rat}:(fr q)[1]?=some (f1 q):=rfl
@[simp] theorem fr_2 {q:Rat}:(fr q)[2]?=some (f2 q):=rfl
@[simp] theorem fr_1E {q:Rat} {h:1<(fr q).length}:(fr q)[1]=f1 q:=rfl
@[simp] theorem fr_2E {q:Rat} {h:2<(fr q).length}:(fr q)[2]=f2 q:=rfl
theorem rA_pA {G:Nat→RF} {n:Nat} {A':Nat→Nat→RF} {cl:Nat→Nat} {b:Nat→RF} {m:Nat} {A:Nat→Nat→Rat} {bb gg:Nat→Rat} (hG:∀ j,j<n→G j=RF.of (gg j)) (hc:∀ i,i<m→cl i=n) (hA:∀ i j,i<m→j<n→A' i j=RF.of (A i j)) (hb:∀ i,i<m→b i=RF.of (bb i)) :
  rA G n A' cl b m=pA A bb gg n m:=by
 unfold rA pA
 rw[hL,hR_of hG]
 have:qR A' cl b m=pR A bb n m:=mR_congr fun i hi=>by rw[hc i hi,hL,hR_of fun j hj=>hA i j hi hj,hb i hi,h0_of,h1_of,h2_of]
 rw[this]
theorem of_v (q:Rat):(RF.of q).v=true:=vfr_frac q
theorem check_pA {n m K:Nat} {A:Nat→Nat→Rat} {bb gg:Nat→Rat} (hn:n≤160) (hm:m≤40) (hK:K≤137438953472) (ha:∀ i j,i<m→j<n→sz K (A i j)) (hb:∀ i,i<m→sz K (bb i)) (hg:∀ j,j<n→sz K (gg j)) :
  SoundCall Try.prog F_s_Check [pA A bb gg n m] (iv 0):=by
 have h:=check_sx (G:=fun j=>RF.of (gg j)) (n:=n) (A:=fun i j=>RF.of (A i j)) (cl:=fun _=>n) (b:=fun i=>RF.of (bb i)) (m:=m) (by omega) (by omega) (fun _ _=>by omega) (fun j hj=>fine_of hK (hg j hj)) (fun i j hi hj=>fine_of hK (ha i j hi hj)) (fun i hi=>fine_of hK (hb i hi))
 rw[rA_pA (A:=A) (bb:=bb) (gg:=gg) (fun _ _=>rfl) (fun _ _=>rfl) (fun _ _ _ _=>rfl) (fun _ _=>rfl),chkE_good (by omega) ⟨fun _ _=>of_v _,fun _ _=>⟨rfl,of_v _,fun _ _=>of_v _⟩⟩] at h
 exact h
def imps (xs ys:List AV):Prop:=xs.length=ys.length∧∀ (i:Nat) x y,xs[i]?=some x→ys[i]?=some y→AV.imp x y
theorem imps_nil:imps [] []:=⟨rfl,fun i x y h=>by simp at h⟩
theorem imps_cons {x y:AV} {xs ys:List AV} (h:AV.imp x y) (hs:imps xs ys):imps (x::xs) (y::ys) :=
 ⟨by simp[hs.1],fun i a b ha hb=>by
  cases i with
  | zero=>simp only[List.getElem?_cons_zero,Option.some.injEq] at ha hb; subst ha hb; exact h
  | succ i=>simp only[List.getElem?_cons_succ] at ha hb; exact hs.2 i a b ha hb⟩
theorem imps_refl {xs:List AV}:imps xs xs:=⟨rfl,fun i x y h h'=>by rw[h] at h'; cases h'; exact AV.imp.refl⟩
theorem getE_of {α:Type} {l:List α} {i:Nat} (h:i<l.length):l[i]?=some l[i]:=by simp[h]
theorem imp_agg {xs ys:List AV} (h:imps xs ys):AV.imp (.agg xs) (.agg ys):=fun I w v hv=>by
 cases hv with
 | agg _ vs hs h1 hc =>
  refine .agg _ vs (by rw[hs,h.1]) h1 fun i c hi=>?_
  have:i<xs.length:=by rw[h.1]; exact (List.getElem?_eq_some_iff.1 hi).1
  exact h.2 i _ c (getE_of this) hi _ _ _ (hc i _ (getE_of this))
def impr (xs ys:List (List AV)):Prop:=xs.length=ys.length∧∀ (i:Nat) x y,xs[i]?=some x→ys[i]?=some y→imps x y
theorem imp_rows {sz:Nat} {m:Am.Mode} {xs ys:List (List AV)} (hm:stm m=m) (h:impr xs ys):AV.imp (.list sz m xs) (.list sz .plain ys):=fun I w v hv=>by
 have hv:=imp_plain hm I w v hv
 cases hv with
 | listNil _ _ a cap _ _ =>
  have:ys=[]:=List.eq_nil_of_length_eq_zero (by rw[← h.1]; rfl)
  subst this
  exact .listNil _ _ _ _ (fun h=>by cases h) (fun _ h=>by cases h)
 | list _ _ _ b o cap g hcap hm' ho hrow hcell hc =>
  have get:∀ (i:Nat) r,ys[i]?=some r→∃ r0,xs[i]?=some r0∧imps r0 r:=fun i r hi=>by
   have:i<xs.length:=by rw[h.1]; exact (List.getElem?_eq_some_iff.1 hi).1
   exact ⟨xs[i],getE_of this,h.2 i _ r (getE_of this) hi⟩
  rw[h.1]
  refine .list _ _ _ b o cap g (by rw[← h.1]; exact hcap) (fun h=>by cases h) (fun _ h=>by cases h) (fun i r hi=>?_) (fun i r j c hi hj=>?_) fun i r j c hi hj=>?_
  ·obtain ⟨r0,h1,h2⟩:=get i r hi
   rw[← h2.1]; exact hrow i r0 h1
  ·obtain ⟨r0,h1,h2⟩:=get i r hi
   have hj0:j<r0.length:=by rw[h2.1]; exact (List.getElem?_eq_some_iff.1 hj).1
   exact hcell i r0 j _ h1 (getE_of hj0)
  ·obtain ⟨r0,h1,h2⟩:=get i r hi
   have hj0:j<r0.length:=by rw[h2.1]; exact (List.getElem?_eq_some_iff.1 hj).1
   exact h2.2 j _ c (getE_of hj0) hj _ _ _ (hc i r0 j _ h1 (getE_of hj0))
@[simp] theorem splice_row {q:Rat} {a b c d:AV}:splice [a,b,c,d] 1 (fr q)=a::fr q:=by unfold fr; simp[splice,-fr_fold]
theorem mem_fr {q:Rat} {x:AV}:x∈fr q↔(x=f0 q∨x=f1 q∨x=f2 q):=by simp[fr,-fr_fold]
noncomputable def apc (tok sz:Nat) (rows:List (List AV)):AV:=if rows.length=0 then nilA else .list sz (.own tok) rows
noncomputable def plc (sz:Nat) (rows:List (List AV)):AV:=if rows.length=0 then nilA else .list sz .plain rows
section
variable {tok sz l k:Nat} {rows:List (List AV)}
theorem apc_nil (h:rows.length=0):apc tok sz rows=nilA:=if_pos h
theorem apc_some (h:¬ rows.length=0):apc tok sz rows=.list sz (.own tok) rows:=if_neg h
@[simp] theorem apc_rf:rf (apc tok sz rows)=true:=by unfold apc; split<;>rfl
@[simp] theorem apc_strip:strip (apc tok sz rows)=plc sz rows:=by unfold apc plc; split<;>rfl
@[simp] theorem apc_refs:refsTo k (apc tok sz rows)=false:=by unfold apc; split<;>rfl
@[simp] theorem plc_rf:rf (plc sz rows)=true:=by unfold plc; split<;>rfl
@[simp] theorem plc_strip:strip (plc sz rows)=plc sz rows:=by unfold plc; split<;>rfl
@[simp] theorem plc_dg:dg l (plc sz rows)=plc sz rows:=by unfold plc; split<;>simp
@[simp] theorem plc_refs:refsTo k (plc sz rows)=false:=by unfold plc; split<;>rfl
theorem plc_imp {rows':List (List AV)} (h:impr rows rows'):AV.imp (plc sz rows) (.list sz .plain rows'):=by
 unfold plc
 split
 ·rename_i h0
  have:rows'=[]:=List.eq_nil_of_length_eq_zero (by rw[← h.1]; exact h0)
  subst this
  exact AV.imp_nil rfl
 ·exact imp_rows rfl h
end
theorem impr_refl {rows:List (List AV)}:impr rows rows:=⟨rfl,fun i x y h h'=>by rw[h] at h'; cases h'; exact imps_refl⟩
end Go.Proofs.Ytbgnkodhpbkdoaa

namespace Go.Proofs.Ytbgnkodhpbkdoaa
open Go Go.Am Go.Dig Go.LP
abbrev tyNat:Ty:=.slice (.int .u32)
abbrev tyFrac:Ty:=.st [.bool,tyNat,tyNat]
theorem nat_of {cs:List AV} (h:TyC tyNat cs):∃ a:List Nat,cs=[nl .plain a]∧ok a:=by
 obtain ⟨rows,rfl,_,h⟩:=h
 obtain ⟨a,rfl,h2⟩:=rows_map (fun d:Nat=>[uv d]) (fun d=>d<B) (fun r hr=>by
  obtain ⟨n,rfl,hn⟩:=hr
  have hn2:0≤n∧n<4294967296:=by
   have h:=Bool.and_eq_true_iff.1 hn
   have h1:=of_decide_eq_true h.1
   have h2:=of_decide_eq_true h.2
   have e1:IntKind.min .u32=0:=by decide
   have e2:IntKind.max .u32=4294967295:=by decide
   omega
  refine ⟨n.toNat,?_,?_⟩
  ·show _=[AV.val (.int .u32 ((n.toNat:Nat):Int))]
   rw[show ((n.toNat:Nat):Int)=n by omega]
  ·show n.toNat<4294967296
   omega) h
 exact ⟨a,rfl,h2⟩
theorem frac_of {r:List AV} (h:TyC tyFrac r):∃ x:RF,r=hr x∧(ok x.a∧ok x.c):=by
 obtain ⟨a1,b1,rfl,⟨s,rfl⟩,a2,b2,rfl,h2,a3,b3,rfl,h3,rfl⟩:=h
 obtain ⟨a,rfl,ha⟩:=nat_of h2
 obtain ⟨c,rfl,hc⟩:=nat_of h3
 exact ⟨⟨s,a,c⟩,by rw[hr_eq]; rfl,ha,hc⟩
theorem mR_list {α:Type} (d:α) (g:α→List AV) (l:List α):mR (fun j=>g (l.getD j d)) l.length=l.map g:=by
 apply List.ext_getElem?
 intro j
 by_cases h:j<l.length
 ·rw[mR_get h]; simp[h]
 ·rw[List.getElem?_eq_none (by simp; omega),List.getElem?_eq_none (by simp; omega)]
theorem fracs_of {cs:List AV} (h:TyC (.slice tyFrac) cs):∃ (f:Nat→RF) (n:Nat),cs=[hL f n]∧n<2305843009213693952∧∀ j,j<n→ok (f j).a∧ok (f j).c:=by
 obtain ⟨rows,rfl,hl,h⟩:=h
 obtain ⟨l,rfl,h2⟩:=rows_map hr (fun x=>ok x.a∧ok x.c) (fun r hr=>frac_of hr) h
 refine ⟨fun j=>l.getD j ⟨false,[],[]⟩,l.length,?_,?_,fun j hj=>?_⟩
 ·have:=mR_list (⟨false,[],[]⟩:RF) hr l
  unfold hL hR
  rw[this]; rfl
 ·simp[reachBytes] at hl; omega
 ·have:l.getD j ⟨false,[],[]⟩=l[j]:=by simp[hj]
  dsimp only
  rw[this]
  exact h2 _ (List.getElem_mem hj)
section
variable {D:Nat}
theorem fine_small {x:RF} {D:Nat} (h:ok x.a∧ok x.c) (hs:smallF x D) (hD:D≤1000):x.fine:=⟨h.1,h.2,by have:=hs.1; omega,by have:=hs.2; omega⟩
theorem sz_small {x:RF} {q:Rat} (h:smallF x D) (e:x=RF.of q):sz (32*D) q:=by
 subst e
 have e1:2^(32*D)=B^D:=by rw[Nat.pow_mul,show (2:Nat)^32=B from rfl]
 obtain ⟨h1,h2⟩:=h
 simp only[RF.of] at h1 h2
 exact ⟨Nat.le_of_lt (by rw[e1]; exact digs_len_le.1 h1),Nat.le_of_lt (by rw[e1]; exact digs_len_le.1 h2)⟩
end
theorem sz_int {K:Nat} {n:Int} (h:n.natAbs≤2^K):sz K (n:Rat):=⟨by simpa using h,by simpa using Nat.one_le_two_pow⟩
end Go.Proofs.Ytbgnkodhpbkdoaa

namespace Go.LP
section
variable {k m:Nat} {mem:Nat→Nat→Bool} {least most:Nat→Rat}
def mA (k:Nat) (mem:Nat→Nat→Bool) (i j:Nat):Rat:=if j<k then (if mem j i=true then 1 else 0) else if j=k+i then -1 else 0
def mG (k:Nat) (least most:Nat→Rat) (j:Nat):Rat:=if j<k then least j else-most (j-k)
def mOne (_:Nat):Rat:=1
def Pays (k m:Nat) (mem:Nat→Nat→Bool) (least most y:Nat→Rat):Prop :=
 (∀ i,i<m→0≤y i∧y i≤most i)∧∀ j,j<k→least j≤sumR m (fun i=>if mem j i=true then y i else 0)
def loadR (k:Nat) (mem:Nat→Nat→Bool) (x:Nat→Rat) (i:Nat):Rat:=sumR k fun j=>if mem j i=true then x j else 0
def overR (k:Nat) (mem:Nat→Nat→Bool) (most x:Nat→Rat) (i:Nat):Rat:=if 1<loadR k mem x i then most i*(loadR k mem x i-1) else 0
def boundR (k m:Nat) (mem:Nat→Nat→Bool) (least most x:Nat→Rat):Rat:=sumR k (fun j=>x j*least j)-sumR m (overR k mem most x)
theorem mA_row {x:Nat→Rat} {i:Nat} (hi:i<m):sumR (k+m) (fun j=>mA k mem i j*x j)=loadR k mem x i-x (k+i):=by
 rw[sumR_app,sumR_congr (n:=k) (g:=fun j=>if mem j i=true then x j else 0) fun j hj=>by
   unfold mA; rw[if_pos hj]; split<;>grind,
  sumR_one (n:=m) (q:=i) hi fun l _ hne=>by unfold mA; rw[if_neg (by omega),if_neg (by omega)]; grind]
 unfold mA loadR
 rw[if_neg (by omega),if_pos rfl]
 grind
theorem mA_col {y:Nat→Rat} {j:Nat} (hj:j<k):sumR m (fun i=>y i*mA k mem i j)=sumR m (fun i=>if mem j i=true then y i else 0) :=
 sumR_congr fun i _=>by unfold mA; rw[if_pos hj]; split<;>grind
theorem mA_lim {y:Nat→Rat} {i:Nat} (hi:i<m):sumR m (fun l=>y l*mA k mem l (k+i))=- y i:=by
 rw[sumR_one hi fun l _ hne=>by unfold mA; rw[if_neg (by omega),if_neg (by omega)]; grind]
 unfold mA
 rw[if_neg (by omega),if_pos rfl]; grind
theorem mG_sum {x:Nat→Rat}:sumR (k+m) (fun j=>mG k least most j*x j)=sumR k (fun j=>least j*x j)-sumR m (fun i=>most i*x (k+i)):=by
 rw[sumR_app,sumR_congr (n:=k) (g:=fun j=>least j*x j) fun j hj=>by unfold mG; rw[if_pos hj],
  sumR_congr (n:=m) (g:=fun i=>-(most i*x (k+i))) fun i _=>by unfold mG; rw[if_neg (by omega),Nat.add_sub_cancel_left]; grind,sumR_neg]
 grind
theorem pays_col {y:Nat→Rat} (hp:Pays k m mem least most y):∀ j,j<k+m→mG k least most j≤sumR m (fun i=>y i*mA k mem i j):=fun j hj=>by
 by_cases h:j<k
 ·rw[mA_col h]; unfold mG; rw[if_pos h]; exact hp.2 j h
 ·obtain ⟨i,rfl⟩:∃ i,j=k+i:=⟨j-k,by omega⟩
  rw[mA_lim (by omega)]
  unfold mG
  rw[if_neg h,Nat.add_sub_cancel_left]
  have:=(hp.1 i (by omega)).2
  grind
theorem col_pays {y:Nat→Rat} (h0:∀ i,0≤y i) (hc:∀ j,j<k+m→mG k least most j≤sumR m (fun i=>y i*mA k mem i j)):Pays k m mem least most y:=by
 refine ⟨fun i hi=>⟨h0 i,?_⟩,fun j hj=>?_⟩
 ·have:=hc (k+i) (by omega)
  rw[mA_lim hi] at this
  unfold mG at this
  rw[if_neg (by omega),Nat.add_sub_cancel_left] at this
  grind
 ·have:=hc j (by omega)
  rw[mA_col hj] at this
  unfold mG at this
  rwa [if_pos hj] at this
def fillP (k:Nat) (mem:Nat→Nat→Bool) (x:Nat→Rat) (j:Nat):Rat:=if j<k then x j else if 1<loadR k mem x (j-k) then loadR k mem x (j-k)-1 else 0
theorem fill_load {x:Nat→Rat} {i:Nat}:loadR k mem (fillP k mem x) i=loadR k mem x i:=sumR_congr fun j hj=>by unfold fillP; rw[if_pos hj]
theorem fill_goal {x:Nat→Rat}:sumR (k+m) (fun j=>mG k least most j*fillP k mem x j)=boundR k m mem least most x:=by
 rw[mG_sum]
 unfold boundR
 rw[sumR_congr (n:=k) (g:=fun j=>x j*least j) fun j hj=>by unfold fillP; rw[if_pos hj]; grind,
  sumR_congr (n:=m) (g:=overR k mem most x) fun i _=>by unfold fillP overR; rw[if_neg (by omega),Nat.add_sub_cancel_left]; split<;>grind]
theorem fill_row {x:Nat→Rat} {i:Nat} (hi:i<m):sumR (k+m) (fun j=>mA k mem i j*fillP k mem x j)≤mOne i:=by
 rw[mA_row hi,fill_load]
 unfold fillP mOne
 rw[if_neg (by omega),Nat.add_sub_cancel_left]
 split<;>grind
theorem fill_0 {x:Nat→Rat} (h:∀ j,j<k→0≤x j):∀ j,j<k+m→0≤fillP k mem x j:=fun j _=>by
 unfold fillP
 split
 ·rename_i h1; exact h j h1
 ·split<;>grind
theorem sum_one {y:Nat→Rat}:sumR m (fun i=>y i*mOne i)=sumR m y:=sumR_congr fun i _=>by unfold mOne; grind
theorem bound_le {x y:Nat→Rat} (hx:∀ j,j<k→0≤x j) (hp:Pays k m mem least most y):boundR k m mem least most x≤sumR m y:=by
 have h:=weak (n:=k+m) (m:=m) (A:=mA k mem) (bb:=mOne) (gg:=mG k least most) (fill_0 hx) (fun i hi=>fill_row hi) (fun i hi=>(hp.1 i hi).1) (pays_col hp)
 rwa [fill_goal,sum_one] at h
theorem bound_ge {x:Nat→Rat} (hm:∀ i,i<m→0≤most i) (hx:∀ j,0≤x j) (hr:∀ i,i<m→sumR (k+m) (fun j=>mA k mem i j*x j)≤mOne i) :
  sumR (k+m) (fun j=>mG k least most j*x j)≤boundR k m mem least most x:=by
 rw[mG_sum]
 unfold boundR
 have h1:sumR m (overR k mem most x)≤sumR m (fun i=>most i*x (k+i)):=sumR_le fun i hi=>by
  have h2:=hr i hi
  rw[mA_row hi] at h2
  unfold mOne at h2
  have h3:=hm i hi
  unfold overR
  split
  ·have:=Rat.mul_nonneg h3 (show 0≤x (k+i)-(loadR k mem x i-1) by grind)
   grind
  ·exact Rat.mul_nonneg h3 (hx _)
 rw[sumR_congr (n:=k) (f:=fun j=>least j*x j) (g:=fun j=>x j*least j) fun j _=>by grind]
 grind
theorem opt_pays {x y:Nat→Rat} {v:Rat} (hm:∀ i,i<m→0≤most i) (ho:Opt (k+m) m (mA k mem) mOne (mG k least most) x y v) :
  Pays k m mem least most y∧sumR m y=v∧boundR k m mem least most x=v:=by
 have hp:=col_pays ho.y0 ho.col
 have hv:=ho.vy
 rw[sum_one] at hv
 refine ⟨hp,hv,?_⟩
 have h1:=bound_le (x:=x) (fun j _=>ho.x0 j) hp
 have h2:=bound_ge (k:=k) (mem:=mem) (least:=least) hm ho.x0 ho.row
 rw[ho.vx] at h2
 grind
theorem pays_most {y:Nat→Rat} (hp:Pays k m mem least most y) (hm:∀ i,i<m→0≤most i):Pays k m mem least most most :=
 ⟨fun i hi=>⟨hm i hi,by grind⟩,fun j hj=>by
  have h1:=hp.2 j hj
  have h2:sumR m (fun i=>if mem j i=true then y i else 0)≤sumR m (fun i=>if mem j i=true then most i else 0):=sumR_le fun i hi=>by
   have:=(hp.1 i hi).2
   split<;>grind
  grind⟩
theorem unb_pays {x r y:Nat→Rat} (hu:Unb (k+m) m (mA k mem) mOne (mG k least most) x r) (hp:Pays k m mem least most y):False:=by
 have h:=weak (n:=k+m) (m:=m) (A:=mA k mem) (bb:=fun _=>0) (gg:=mG k least most) (fun j _=>hu.r0 j) hu.rr (fun i hi=>(hp.1 i hi).1) (pays_col hp)
 rw[sumR_zero (n:=m) fun i _=>by grind] at h
 have:=hu.up
 grind
theorem inf_no {y:Nat→Rat} (hi:Inf (k+m) m (mA k mem) mOne y):False:=by
 have h1:=hi.vy
 rw[sum_one] at h1
 have:=sumR_nonneg (n:=m) (f:=y) fun i _=>hi.y0 i
 grind
theorem more_le {x y x' y':Nat→Rat} {v w:Rat} (hm:∀ i,i<m→0≤most i) (ho:Opt (k+m) m (mA k mem) mOne (mG k least most) x y v) (ho':Opt (k+1+m) m (mA (k+1) mem) mOne (mG (k+1) least most) x' y' w):v≤w:=by
 obtain ⟨h1,h2,_⟩:=opt_pays hm ho'
 obtain ⟨_,_,h3⟩:=opt_pays hm ho
 have h4:=bound_le (k:=k) (m:=m) (mem:=mem) (least:=least) (most:=most) (x:=x) (y:=y') (fun j _=>ho.x0 j) ⟨h1.1,fun j hj=>h1.2 j (by omega)⟩
 grind
theorem more_pays {y:Nat→Rat} (hp:Pays (k+1) m mem least most y):Pays k m mem least most y:=⟨hp.1,fun j hj=>hp.2 j (by omega)⟩
end
end Go.LP

namespace Go.Proofs.Ytbgnkodhpbkdoaa
open Go Go.Am Go.Dig Go.LP
def needR (p l:Nat→Int) (k:Nat):List (List AV):=mR (fun j=>[iv (p j),iv (l j)]) k
abbrev nL (p l:Nat→Int) (k:Nat):AV:=.list 2 .plain (needR p l k)
def intR (t:Nat→Int) (m:Nat):List (List AV):=mR (fun i=>[iv (t i)]) m
abbrev iL (t:Nat→Int) (m:Nat):AV:=.list 1 .plain (intR t m)
section
variable {p l t:Nat→Int} {k m i:Nat}
@[simp] theorem needR_len:(needR p l k).length=k:=mR_len
@[simp] theorem needR_getE {h:i<(needR p l k).length}:(needR p l k)[i]=[iv (p i),iv (l i)]:=mR_getE
@[simp] theorem needR_rf:rowsRf (needR p l k)=true:=mR_all fun _=>by simp
@[simp] theorem needR_st:rowsSt (needR p l k)=needR p l k:=mR_map fun _=>by simp
@[simp] theorem intR_len:(intR t m).length=m:=mR_len
@[simp] theorem intR_getE {h:i<(intR t m).length}:(intR t m)[i]=[iv (t i)]:=mR_getE
@[simp] theorem intR_rf:rowsRf (intR t m)=true:=mR_all fun _=>by simp
@[simp] theorem intR_st:rowsSt (intR t m)=intR t m:=mR_map fun _=>by simp
end
def okT (t:Nat→Int) (m:Nat):Prop:=∀ i,i<m→0≤t i∧t i≤1000000
def okN (p l:Nat→Int) (k m:Nat):Prop:=∀ j,j<k→(0≤p j∧p j<2^m)∧0≤l j∧l j≤8000000
noncomputable def argE (p l:Nat→Int) (k:Nat) (t:Nat→Int) (m:Nat):Int :=
 if 8<m∨152<k then 3 else @ite _ (okT t m∧okN p l k m) (Classical.propDecidable _) 0 4
section
variable {p l t:Nat→Int} {k m:Nat}
theorem argE_long (h:8<m∨152<k):argE p l k t m=3:=if_pos h
theorem argE_ok (h:¬ (8<m∨152<k)) (h2:okT t m∧okN p l k m):argE p l k t m=0:=by unfold argE; rw[if_neg h]; exact @if_pos _ (Classical.propDecidable _) h2 _ _ _
theorem argE_bad (h:¬ (8<m∨152<k)) (h2:¬ (okT t m∧okN p l k m)):argE p l k t m=4:=by unfold argE; rw[if_neg h]; exact @if_neg _ (Classical.propDecidable _) h2 _ _ _
theorem argE_zero (h:argE p l k t m=0):m≤8∧k≤152∧okT t m∧okN p l k m:=by
 by_cases h1:8<m∨152<k
 ·rw[argE_long h1] at h; cases h
 ·by_cases h2:okT t m∧okN p l k m
  ·exact ⟨by omega,by omega,h2.1,h2.2⟩
  ·rw[argE_bad h1 h2] at h; cases h
theorem pow_small (h:m≤8):(2:Int)^m≤256∧(1:Int)≤2^m:=by
 match m,h with
 | 0,_=>decide
 | 1,_=>decide
 | 2,_=>decide
 | 3,_=>decide
 | 4,_=>decide
 | 5,_=>decide
 | 6,_=>decide
 | 7,_=>decide
 | 8,_=>decide
 | n+9,h=>omega
def stA0 (p l:Nat→Int) (k:Nat) (t:Nat→Int) (m i:Nat):St:={env:=[(0,nL p l k),(1,iL t m),(17,iL t m),(18,iv m),(19,iv i)],sto:=[]}
def stA1 (p l:Nat→Int) (k:Nat) (t:Nat→Int) (m i:Nat):St:={env:=[(1,iL t m),(30,nL p l k),(31,iv k),(32,iv i)],sto:=[]}
theorem args_mr (hk:k<2305843009213693952) (hm:m<2305843009213693952):SoundCall Try.prog F_minrevenue_arguments [nL p l k,iL t m] (iv (argE p l k t m)):=by
 refine sound' t_minrevenue_arguments (by simp) ?_
 by_cases h1:8<m
 ·have h1':(8:Int)<m:=by omega
  rw[argE_long (.inl h1)]
  simp[c_minrevenue_arguments,h1',r_minrevenue_arguments]
 by_cases h2:152<k
 ·have h1':¬ (8:Int)<m:=by omega
  have h2':(152:Int)<k:=by omega
  rw[argE_long (.inr h2)]
  simp[c_minrevenue_arguments,h1',h2',r_minrevenue_arguments]
 have h1':¬ (8:Int)<m:=by omega
 have h2':¬ (152:Int)<k:=by omega
 have hl:¬ (8<m∨152<k):=by omega
 simp[c_minrevenue_arguments,h1',h2']
 refine awp_forW (stA0 p l k t m) (fun i=>okT t i) m (by simp[stA0]) (fun j hj=>by omega) (fun i hi hI=>?_) (fun hI0=>?_)
 ·have e:(i:Int)<m:=by omega
  have w:=wrap_succ (k:=i) (by omega)
  by_cases a1:t i<0
  ·rw[argE_bad hl fun h=>by have:=(h.1 i hi).1; omega]
   simp[c_minrevenue_arguments_l0,stA0,e,hi,a1,r_minrevenue_arguments]
  ·by_cases a2:1000000<t i
   ·rw[argE_bad hl fun h=>by have:=(h.1 i hi).2; omega]
    simp[c_minrevenue_arguments_l0,stA0,e,hi,a1,a2,r_minrevenue_arguments]
   ·simp[c_minrevenue_arguments_l0,stA0,e,hi,a1,a2,w]
    exact fun j hj=>by
     by_cases e:j=i
     ·subst e; omega
     ·exact hI j (by omega)
 ·simp[c_minrevenue_arguments_l0,stA0,c_minrevenue_arguments_k3]
  obtain ⟨q,hq⟩:∃ q:Int,(2:Int)^m=q:=⟨_,rfl⟩
  have hqs:=pow_small (m:=m) (by omega)
  rw[hq] at hqs
  have hmin:min m IntKind.i64.bits=m:=Nat.min_eq_left (by have:IntKind.i64.bits=64:=rfl; omega)
  have hsh:IntKind.i64.wrap q=q:=by rw[wrap64]<;>omega
  refine awp_forW (stA1 p l k t m) (fun i=>okN p l i m) k (by simp[stA1]) (fun j hj=>by omega) (fun i hi hI=>?_) (fun hI=>?_)
  ·have e:(i:Int)<k:=by omega
   have w:=wrap_succ (k:=i) (by omega)
   by_cases a1:p i<0
   ·rw[argE_bad hl fun h=>by have:=(h.2 i hi).1; omega]
    simp[c_minrevenue_arguments_l1,stA1,e,hi,a1,r_minrevenue_arguments]
   ·by_cases a2:q≤p i
    ·rw[argE_bad hl fun h=>by have:=(h.2 i hi).1; omega]
     simp[c_minrevenue_arguments_l1,stA1,e,hi,a1,a2,hsh,eBin_shl,hmin,hq,r_minrevenue_arguments]
    ·by_cases a3:l i<0
     ·rw[argE_bad hl fun h=>by have:=(h.2 i hi).2; omega]
      simp[c_minrevenue_arguments_l1,stA1,e,hi,a1,a2,a3,hsh,eBin_shl,hmin,hq,r_minrevenue_arguments]
     ·by_cases a4:8000000<l i
      ·rw[argE_bad hl fun h=>by have:=(h.2 i hi).2; omega]
       simp[c_minrevenue_arguments_l1,stA1,e,hi,a1,a2,a3,a4,hsh,eBin_shl,hmin,hq,r_minrevenue_arguments]
      ·simp[c_minrevenue_arguments_l1,stA1,e,hi,a1,a2,a3,a4,hsh,eBin_shl,hmin,hq,w]
       exact fun j hj=>by
        by_cases e:j=i
        ·subst e; rw[hq]; omega
        ·exact hI j (by omega)
  ·rw[argE_ok hl ⟨hI0,hI⟩]
   simp[c_minrevenue_arguments_l1,stA1,c_minrevenue_arguments_k2,r_minrevenue_arguments]
def stF0 (p l:Nat→Int) (k:Nat) (t:Nat→Int) (m i:Nat):St:={env:=[(0,nL p l k),(1,iL t m),(5,iv (2^i)),(6,iv i)],sto:=[]}
def stF1 (p l:Nat→Int) (k:Nat) (m i:Nat):St:={env:=[(0,nL p l k),(5,iv (2^m)),(7,iv i)],sto:=[]}
theorem fault_r (hk:k<2305843009213693952) (hm:m<2305843009213693952):SoundCall Try.prog F_ref30_Fault [nL p l k,iL t m] (iv (argE p l k t m)):=by
 refine sound' t_ref30_Fault (by simp) ?_
 by_cases h1:8<m
 ·have h1':(8:Int)<m:=by omega
  rw[argE_long (.inl h1)]
  simp[c_ref30_Fault,h1',r_ref30_Fault]
 by_cases h2:152<k
 ·have h1':¬ (8:Int)<m:=by omega
  have h2':(152:Int)<k:=by omega
  rw[argE_long (.inr h2)]
  simp[c_ref30_Fault,h1',h2',r_ref30_Fault]
 have h1':¬ (8:Int)<m:=by omega
 have h2':¬ (152:Int)<k:=by omega
 have hl:¬ (8<m∨152<k):=by omega
 simp[c_ref30_Fault,h1',h2']
 refine awp_forW (stF0 p l k t m) (fun i=>okT t i) m (by simp[stF0]) (fun j hj=>by omega) (fun i hi hI=>?_) (fun hI0=>?_)
 ·have e:(i:Int)<m:=by omega
  have w:=wrap_succ (k:=i) (by omega)
  have hqs:=pow_small (m:=i) (by omega)
  have w2:IntKind.i64.wrap (2*2^i)=2^(i+1):=by
   rw[Int.pow_succ,Int.mul_comm]
   rw[wrap64]<;>omega
  by_cases a1:t i<0
  ·rw[argE_bad hl fun h=>by have:=(h.1 i hi).1; omega]
   simp[c_ref30_Fault_l0,stF0,e,hi,a1,r_ref30_Fault]
  ·by_cases a2:1000000<t i
   ·rw[argE_bad hl fun h=>by have:=(h.1 i hi).2; omega]
    simp[c_ref30_Fault_l0,stF0,e,hi,a1,a2,r_ref30_Fault]
   ·simp[c_ref30_Fault_l0,stF0,e,hi,a1,a2,w,w2]
    exact fun j hj=>by
     by_cases e:j=i
     ·subst e; omega
     ·exact hI j (by omega)
 ·simp[c_ref30_Fault_l0,stF0,c_ref30_Fault_k3]
  refine awp_forW (stF1 p l k m) (fun i=>okN p l i m) k (by simp[stF1]) (fun j hj=>by omega) (fun i hi hI=>?_) (fun hI=>?_)
  ·have e:(i:Int)<k:=by omega
   have w:=wrap_succ (k:=i) (by omega)
   obtain ⟨q,hq⟩:∃ q:Int,(2:Int)^m=q:=⟨_,rfl⟩
   by_cases a1:p i<0
   ·rw[argE_bad hl fun h=>by have:=(h.2 i hi).1; omega]
    simp[c_ref30_Fault_l1,stF1,e,hi,a1,r_ref30_Fault]
   ·by_cases a2:q≤p i
    ·rw[argE_bad hl fun h=>by have:=(h.2 i hi).1; omega]
     simp[c_ref30_Fault_l1,stF1,e,hi,a1,a2,hq,r_ref30_Fault]
    ·by_cases a3:l i<0
     ·rw[argE_bad hl fun h=>by have:=(h.2 i hi).2; omega]
      simp[c_ref30_Fault_l1,stF1,e,hi,a1,a2,a3,hq,r_ref30_Fault]
     ·by_cases a4:8000000<l i
      ·rw[argE_bad hl fun h=>by have:=(h.2 i hi).2; omega]
       simp[c_ref30_Fault_l1,stF1,e,hi,a1,a2,a3,a4,hq,r_ref30_Fault]
      ·simp[c_ref30_Fault_l1,stF1,e,hi,a1,a2,a3,a4,hq,w]
       exact fun j hj=>by
        by_cases e:j=i
        ·subst e; rw[hq]; omega
        ·exact hI j (by omega)
  ·rw[argE_ok hl ⟨hI0,hI⟩]
   simp[c_ref30_Fault_l1,stF1,c_ref30_Fault_k2,r_ref30_Fault]
end
def bitP (p i:Nat):Bool:=decide (p/2^i%2=1)
theorem and_bit {q:Nat} (h:q<256):bitI .and .i64 (q:Int) 1=((q%2:Nat):Int):=by
 have:=bitI_and_nat (k:=.i64) (a:=q) (b:=1) (Nat.lt_of_lt_of_le h (by decide)) (by decide) (fun n hn=>by rw[wrap64]<;>omega)
 rw[Nat.and_one_is_mod] at this
 exact this
theorem div_small {p i:Nat} (h:p<256):p/2^i<256:=Nat.lt_of_le_of_lt (Nat.div_le_self _ _) h
def stHs (p m i:Nat):St:={env:=[(0,iv (p/2^i:Nat)),(1,iv m),(5,iv i)],sto:=[]}
theorem has_r {p m:Nat} (hp:p<256) (hm:m<1000):SoundCall Try.prog F_ref30_Has [iv p,iv m] (bv (bitP p m)):=by
 refine sound' t_ref30_Has (by simp) ?_
 simp[c_ref30_Has]
 refine awp_forW (stHs p m) (fun _=>True) m (by simp[stHs]) trivial (fun i hi _=>?_) (fun _=>?_)
 ·have e:(i:Int)<m:=by omega
  have w:=wrap_succ (k:=i) (by omega)
  have hd:((p/2^i:Nat):Int).fdiv 2=((p/2^(i+1):Nat):Int):=by
   rw[Nat.pow_succ,← Nat.div_div_eq_div_mul]
   generalize p/2^i=q
   rw[Int.fdiv_eq_ediv_of_nonneg _ (by decide)]
   omega
  obtain ⟨q,hq⟩:∃ q,p/2^i=q:=⟨_,rfl⟩
  obtain ⟨q',hq'⟩:∃ q,p/2^(i+1)=q:=⟨_,rfl⟩
  rw[hq,hq'] at hd
  have hmin:min 1 IntKind.i64.bits=1:=rfl
  simp[c_ref30_Has_l0,stHs,e,w,hq,hq',hd,eBin_shr,hmin]
 ·obtain ⟨q,hq⟩:∃ q,p/2^m=q:=⟨_,rfl⟩
  have h2:q<256:=by rw[← hq]; exact div_small hp
  have h1:=and_bit h2
  have h3:bitP p m=decide (((q%2:Nat):Int)=1):=by unfold bitP; rw[hq,decide_eq_decide]; omega
  obtain ⟨b,hb⟩:∃ b,q%2=b:=⟨_,rfl⟩
  rw[hb] at h1 h3
  rw[h3]
  simp[c_ref30_Has_l0,stHs,hq,c_ref30_Has_k1,h1,r_ref30_Has]
end Go.Proofs.Ytbgnkodhpbkdoaa

namespace Go.Proofs.Ytbgnkodhpbkdoaa
open Go Go.Am Go.Dig Go.LP
theorem bit_shr {p i:Nat} (h:i<64):((p:Int).fdiv (2^(min i IntKind.i64.bits)))=((p/2^i:Nat):Int):=by
 have hb:min i IntKind.i64.bits=i:=Nat.min_eq_left (by have:IntKind.i64.bits=64:=rfl; omega)
 rw[hb,Int.fdiv_eq_ediv_of_nonneg _ (Int.pow_nonneg (by decide))]
 simp
theorem lowF_mono2 {M N:Nat} (h:M≤N) {f:List (Nat × AV)} (hf:lowF M f):lowF N f:=fun p hp=>low_mono h (hf p hp)
theorem lowO_mono2 {M N:Nat} (h:M≤N) {f:List (List (Nat × AV))} (hf:lowO M f):lowO N f:=fun p hp=>lowF_mono2 h (hf p hp)
noncomputable def stPy (p:Nat) (l:Int) (m:Nat) (F:FuncId) (caps:List AV) (X:Nat→List (Nat × Entry)) (out:List (List (Nat × AV))) (i:Nat):St :=
 {env:=[(2,.fn (.func F) caps),(3,.ptr 5003 0),(7,iv m),(8,iv i)],sto:=X i++[(5003,.var [iv p,iv l])],out:=out,base:=5000}
theorem payersI {p m:Nat} {l:Int} {F:FuncId} {caps:List AV} {X:Nat→List (Nat × Entry)} {s:St} {K:AV→St→Prop} (hp:p<256) (hm:m≤8) (hs:s.sto=X 0) (hX:∀ i,rest (X i)) (hE:lowF 2000 s.env) (hO:lowO 2000 s.out)
  (hF:okFn Try.prog F=true) (hcaps:Am.low 2000 (.fn (.func F) caps)=true)
  (hcl:∀ i,i<m→bitP p i=true→∀ (t:St) (K':AV→St→Prop),t.sto=X i++[(5003,.var [iv p,iv l])]→lowO 6000 t.out→lowF 6000 t.env→K' (.tuple []) ⟨t.env,X (i+1)++[(5003,.var [iv p,iv l])],t.out,t.base⟩→CallI Try.prog F (iv i::caps) t K')
  (hno:∀ i,i<m→bitP p i=false→X (i+1)=X i) (h:K (.tuple []) ⟨s.env,X m,s.out,s.base⟩):CallI Try.prog F_minrevenue_payers [.agg [iv p,iv l],iv m,.fn (.func F) caps] s K:=by
 obtain ⟨env,σ,out,base⟩:=s
 simp only at hs hE hO h
 subst hs
 have hO2:lowO 2000 (env::out):=lowO_cons.2 ⟨hE,hO⟩
 refine CallI.post (K:=fun r s'=>r=.tuple []∧s'=⟨env,X m++[(5003,.var [iv p,iv l])],out,base⟩) ?_ fun r s' ⟨e1,e2⟩=>.inr ⟨e1,⟨env,X m,out,base⟩,by
  subst e2
  refine St.imp_gone (k:=5003) (e:=.var [iv p,iv l]) (by simp[rlk (hX m),far]) (efrz hE (by omega)) ?_ (ofrz hO (by omega)) rfl ?_
  ·simp[rdel (hX m),far,rfrz0 (hX m)]
  ·simp[St.unmet,eno hE,ono hO,rest_low (hX m)],by subst e1; exact h⟩
 refine soundI' 5000 t_minrevenue_payers (by simp) ?_
 have hpt:pt (X 0) 5003 (.var [iv p,iv l])=X 0++[(5003,.var [iv p,iv l])]:=by have:=rpt (l:=[]) (e:=.var [iv (p:Int),iv l]) (hX 0) (k:=5003) (by simp[far]); simpa using this
 simp[c_minrevenue_payers,rest_lk (hX 0),hpt,far]
 refine awp_forW (stPy p l m F caps X (env::out)) (fun _=>True) m (by simp[stPy]) trivial (fun i hi _=>?_) (fun _=>?_)
 ·have e:(i:Int)<m:=by omega
  have w:=wrap_succ (k:=i) (by omega)
  have hb1:=bit_shr (p:=p) (i:=i) (by omega)
  obtain ⟨q,hq⟩:∃ q,p/2^i=q:=⟨_,rfl⟩
  have h2:q<256:=by rw[← hq]; exact div_small hp
  have h1:=and_bit h2
  have h3:bitP p i=decide (((q%2:Nat):Int)=1):=by unfold bitP; rw[hq,decide_eq_decide]; omega
  rw[hq] at hb1
  obtain ⟨b,hb⟩:∃ b,q%2=b:=⟨_,rfl⟩
  rw[hb] at h1 h3
  by_cases hbit:((b:Nat):Int)=1
  ·rw[decide_eq_true hbit] at h3
   simp[c_minrevenue_payers_l0,stPy,e,rlk (hX i),far,eBin_shr,hb1,h1,hbit,hF]
   refine eCallI_of (hcl i hi h3 _ _ rfl ?_ ?_ ?_)
   ·exact lowO_mono2 (by omega) hO2
   ·have hc:Am.low 6000 (.fn (.func F) caps)=true:=low_mono (by omega) hcaps
    simp[lowF_cons,lowF_nil,low_iv,low_ptr,low_bv,hc]
   simp[w,stPy]
  ·rw[decide_eq_false hbit] at h3
   have hXi:=hno i hi h3
   simp[c_minrevenue_payers_l0,stPy,e,rlk (hX i),far,eBin_shr,hb1,h1,hbit,w,hXi]
 ·simp[c_minrevenue_payers_l0,stPy,r_minrevenue_payers]
  trace_state
end Go.Proofs.Ytbgnkodhpbkdoaa

namespace Go.Proofs.Ytbgnkodhpbkdoaa
open Go Go.Am Go.Dig Go.LP
theorem RF.ex_q {x:RF} (h:x.v=true):∃ q,x=RF.of q:=by
 obtain ⟨q,h1,h2,h3⟩:=vfr_inv h
 exact ⟨q,by cases x; simp only at h1 h2 h3; subst h1 h2 h3; rfl⟩
noncomputable def RF.q (x:RF):Rat:=@dite _ (x.v=true) (Classical.propDecidable _) (fun h=>Classical.choose (RF.ex_q h)) (fun _=>0)
theorem RF.of_q {x:RF} (h:x.v=true):x=RF.of x.q:=by
 have e:x.q=Classical.choose (RF.ex_q h):=by unfold RF.q; rw[dif_pos h]
 rw[e]
 exact Classical.choose_spec (RF.ex_q h)
theorem hq_fq {x:RF} (h:x.v=true):hq x=fq x.q:=by unfold hq fq; rw[← hr_of,← RF.of_q h]
def posP (f:Nat→RF) (a n:Nat):Prop:=a=n∧∀ i,i<n→(f i).v=true∧0≤(f i).q
noncomputable def posV (f:Nat→RF) (a n:Nat):Bool:=@decide (posP f a n) (Classical.propDecidable _)
theorem posV_true {f:Nat→RF} {a n:Nat} (h:posP f a n):posV f a n=true:=@decide_eq_true _ (Classical.propDecidable _) h
theorem posV_false {f:Nat→RF} {a n:Nat} (h:¬ posP f a n):posV f a n=false:=@decide_eq_false _ (Classical.propDecidable _) h
noncomputable def stNn (f:Nat→RF) (n k:Nat):St:={env:=[(11,hL f n),(12,iv n),(13,iv k)],sto:=[]}
theorem nonneg_s {f:Nat→RF} {a n:Nat} (ha:a<1000000) (hf:∀ i,i<a→(f i).fine):SoundCall Try.prog F_minrevenue_nonnegative [hL f a,iv n] (bv (posV f a n)):=by
 refine sound' t_minrevenue_nonnegative (by simp) ?_
 by_cases h1:a=n
 rotate_left
 ·have h1':¬ (a:Int)=n:=by omega
  rw[posV_false fun h=>h1 h.1]
  simp[c_minrevenue_nonnegative,h1',r_minrevenue_nonnegative]
 subst h1
 simp[c_minrevenue_nonnegative]
 refine awp_forW (stNn f a) (fun i=>∀ j,j<i→(f j).v=true∧0≤(f j).q) a (by simp[stNn]) (fun j hj=>by omega) (fun i hi hI=>?_) (fun hI=>?_)
 ·have e:(i:Int)<a:=by omega
  have w:=wrap_succ (k:=i) (by omega)
  have kv:=h_valid (hf i hi)
  cases hv:(f i).v with
  | false =>
   rw[hv] at kv
   rw[posV_false fun h=>by have:=(h.2 i hi).1; rw[hv] at this; cases this]
   simp[c_minrevenue_nonnegative_l0,stNn,e,hi]
   refine eCall_i kv (by simp) (by simp) ?_
   simp[r_minrevenue_nonnegative]
  | true =>
   rw[hv] at kv
   have ks:=sign_q (q:=(f i).q)
   rw[← hq_fq hv] at ks
   simp[c_minrevenue_nonnegative_l0,stNn,e,hi]
   refine eCall_i kv (by simp) (by simp) ?_
   simp
   refine eCall_i ks (by simp) (by simp) ?_
   by_cases hn:sgnR (f i).q<0
   ·rw[posV_false fun h=>by have:=(h.2 i hi).2; have:=sgnR_neg.1 hn; grind]
    simp[hn,r_minrevenue_nonnegative]
   ·simp[hn,w,stNn]
    exact fun j hj=>by
     by_cases e:j=i
     ·subst e; exact ⟨hv,by have:¬ (f j).q<0:=fun h=>hn (sgnR_neg.2 h); grind⟩
     ·exact hI j (by omega)
 ·rw[posV_true ⟨rfl,hI⟩]
  simp[c_minrevenue_nonnegative_l0,stNn,c_minrevenue_nonnegative_k1,r_minrevenue_nonnegative]
noncomputable def stWh (f:Nat→RF) (n k:Nat):St:={env:=[(0,hL f n),(3,iv k)],sto:=[]}
theorem whole_r {f:Nat→RF} {n:Nat} (ha:n<1000000) (hf:∀ i,i<n→(f i).fine):SoundCall Try.prog F_p_Whole [hL f n] (bv (allV f n)):=by
 refine sound' t_p_Whole (by simp) ?_
 simp[c_p_Whole]
 refine awp_forW (stWh f n) (fun i=>∀ j,j<i→(f j).v=true) n (by simp[stWh]) (fun j hj=>by omega) (fun i hi hI=>?_) (fun hI=>?_)
 ·have e:(i:Int)<n:=by omega
  have w:=wrap_succ (k:=i) (by omega)
  have kv:=h_validr (hf i hi)
  cases hv:(f i).v with
  | false =>
   rw[hv] at kv
   have hA:allV f n=false:=by
    cases h:allV f n with
    | false=>rfl
    | true=>have:=allV_iff.1 h i hi; rw[hv] at this; cases this
   rw[hA]
   simp[c_p_Whole_l0,stWh,e,hi]
   refine eCall_i kv (by simp) (by simp) ?_
   simp[r_p_Whole]
  | true =>
   rw[hv] at kv
   simp[c_p_Whole_l0,stWh,e,hi]
   refine eCall_i kv (by simp) (by simp) ?_
   simp[w,stWh]
   exact fun j hj=>by
    by_cases e:j=i
    ·subst e; exact hv
    ·exact hI j (by omega)
 ·rw[allV_iff.2 hI]
  simp[c_p_Whole_l0,stWh,c_p_Whole_k1,r_p_Whole]
noncomputable def stSum (f:Nat→Rat) (n k:Nat):St :=
 {env:=[(0,fL f n),(2,.ptr 2 0),(3,.ptr 3 0),(4,iv k)],sto:=[(2,.var zz),(3,.var (fr (sumR k f)))]}
theorem sum_r {n L:Nat} {f:Nat→Rat} (hn:n<1000000) (hL:n*(L+1)+L≤137438953472) (hf:∀ j,j<n→sz L (f j)):SoundCall Try.prog F_p_Sum [fL f n] (fq (sumR n f)):=by
 refine sound' t_p_Sum (by simp) ?_
 simp[c_p_Sum]
 refine eCall_i zero_r (by simp) (by simp) ?_
 simp
 refine awp_forW (stSum f n) (fun _=>True) n (by simp[stSum,sumR]) trivial (fun k hk _=>?_) (fun _=>?_)
 ·have e:(k:Int)<n:=by omega
  have w:=wrap_succ (k:=k) (by omega)
  have hL2:L≤n*(L+1):=by
   have:1*(L+1)≤n*(L+1):=Nat.mul_le_mul_right _ (by omega)
   omega
  have g2:=add_r (K:=n*(L+1)) (by omega) (sum_sz_le (n:=k) (N:=n) (f:=f) (fun i hi=>hf i (by omega)) (by omega)) (sz_mono (hf k hk) hL2)
  have ev:sumR k f+f k=sumR (k+1) f:=rfl
  simp[c_p_Sum_l0,stSum,e,hk]
  refine eCall_i g2 (by simp) (by simp) ?_
  simp[w,ev,stSum]
 ·simp[c_p_Sum_l0,c_p_Sum_k1,r_p_Sum,stSum]
end Go.Proofs.Ytbgnkodhpbkdoaa

namespace Go.Proofs.Ytbgnkodhpbkdoaa
open Go Go.Am Go.Dig Go.LP
def ZR (l:Nat→Nat) (j:Nat):Rat:=((l j:Int):Rat)
abbrev MB (p:Nat→Nat) (j i:Nat):Bool:=bitP (p j) i
abbrev nN (p l:Nat→Nat) (k:Nat):AV:=nL (fun j=>p j) (fun j=>l j) k
abbrev nT (t:Nat→Nat) (m:Nat):AV:=iL (fun i=>t i) m
noncomputable def holdsV (k m:Nat) (p l t:Nat→Nat) (y:Nat→Rat):Bool:=@decide (Pays k m (MB p) (ZR l) (ZR t) y) (Classical.propDecidable _)
section
variable {p l t:Nat→Nat} {k m L:Nat} {x y:Nat→Rat}
theorem holdsV_true (h:Pays k m (MB p) (ZR l) (ZR t) y):holdsV k m p l t y=true:=@decide_eq_true _ (Classical.propDecidable _) h
theorem holdsV_false (h:¬ Pays k m (MB p) (ZR l) (ZR t) y):holdsV k m p l t y=false:=@decide_eq_false _ (Classical.propDecidable _) h
theorem fromInt_n {n:Nat} (h:n≤8000000):SoundCall Try.prog F_p_FromInt [iv n] (fq ((n:Int):Rat)):=fromInt_r (by omega) (by omega)
theorem sz_nat {n K:Nat} (h:n≤8000000) (hK:23≤K):sz K ((n:Int):Rat):=sz_mono (sz_int (K:=23) (by simp; omega)) hK
noncomputable def stH0 (p l t:Nat→Nat) (k m:Nat) (y:Nat→Rat) (i:Nat):St:={env:=[(0,nN p l k),(1,nT t m),(2,fL y m),(7,iv i)],sto:=[]}
noncomputable def stH4 (p l t:Nat→Nat) (k m:Nat) (y:Nat→Rat) (j:Nat):St:={env:=[(0,nN p l k),(1,nT t m),(2,fL y m),(8,iv j)],sto:=[]}
def paidR (p:Nat→Nat) (y:Nat→Rat) (j i:Nat):Rat:=sumR i fun i=>if MB p j i=true then y i else 0
theorem paid_sz (hy:∀ i,i<m→sz L (y i)) {j i:Nat} (hi:i≤m):sz (m*(L+1)) (paidR p y j i) :=
 sum_sz_le (fun a ha=>by
  split
  ·exact hy a (by omega)
  ·exact sz_zero) hi
noncomputable def stH1 (p l t:Nat→Nat) (k m:Nat) (y:Nat→Rat) (j i:Nat):St :=
 {env:=[(0,nN p l k),(1,nT t m),(2,fL y m),(8,iv j),(9,.ptr 9 0),(10,iv i)],sto:=[(9,.var (fr (paidR p y j i)))]}
theorem holds_r (hk:k≤152) (hm:m≤8) (hp:∀ j,j<k→p j<256) (hl:∀ j,j<k→l j≤8000000) (ht:∀ i,i<m→t i≤1000000) (hLb:23≤L∧L≤100000000) (hy:∀ i,i<m→sz L (y i)) :
  SoundCall Try.prog F_ref30_Holds [nN p l k,nT t m,fL y m] (bv (holdsV k m p l t y)):=by
 have kw:=whole_r (f:=fun i=>RF.of (y i)) (n:=m) (by omega) (fun i hi=>fine_of (by omega) (hy i hi))
 rw[hL,hR_of (g:=y) (fun _ _=>rfl),allV_iff.2 fun _ _=>of_v _] at kw
 refine sound' t_ref30_Holds (by simp) ?_
 simp[c_ref30_Holds]
 refine eCall_i kw (by simp) (by simp) ?_
 simp
 refine awp_forW (stH0 p l t k m y) (fun i=>∀ a,a<i→0≤y a∧y a≤ZR t a) m (by simp[stH0]) (fun a ha=>by omega) (fun i hi hI=>?_) (fun hI0=>?_)
 ·have e:(i:Int)<m:=by omega
  have w:=wrap_succ (k:=i) (by omega)
  have k1:=sign_r (q:=y i)
  have k2:=fromInt_n (n:=t i) (by have:=ht i hi; omega)
  have k3:=cmp_r (by omega:L≤137438953472) (hy i hi) (sz_nat (n:=t i) (by have:=ht i hi; omega) hLb.1)
  simp[c_ref30_Holds_l0,stH0,e,hi]
  refine eCall_i k1 (by simp) (by simp) ?_
  by_cases h1:sgnR (y i)<0
  ·rw[holdsV_false fun h=>by have:=(h.1 i hi).1; have:=sgnR_neg.1 h1; grind]
   simp[h1,r_ref30_Holds]
  ·simp[h1,hi,e]
   refine eCall_i k2 (by simp) (by simp) ?_
   simp
   refine eCall_i k3 (by simp) (by simp) ?_
   by_cases h2:0<cmpR (y i) ((t i:Int):Rat)
   ·rw[holdsV_false fun h=>by have:=(h.1 i hi).2; have:=cmpR_gt.1 h2; unfold ZR at *; grind]
    simp[h2,r_ref30_Holds]
   ·simp[h2,w,stH0]
    exact fun a ha=>by
     by_cases e:a=i
     ·subst e
      have g1:¬ y a<0:=fun h=>h1 (sgnR_neg.2 h)
      have g2:¬ ((t a:Int):Rat)<y a:=fun h=>h2 (cmpR_gt.2 h)
      unfold ZR
      exact ⟨by grind,by grind⟩
     ·exact hI a (by omega)
 ·simp[c_ref30_Holds_l0,stH0,c_ref30_Holds_k6]
  refine awp_forW (stH4 p l t k m y) (fun j=>∀ a,a<j→ZR l a≤paidR p y a m) k (by simp[stH4]) (fun a ha=>by omega) (fun j hj hI=>?_) (fun hI=>?_)
  ·have e:(j:Int)<k:=by omega
   have w:=wrap_succ (k:=j) (by omega)
   simp[c_ref30_Holds_l4,stH4,e]
   refine eCall_i zero_r (by simp) (by simp) ?_
   simp
   refine awp_forW (stH1 p l t k m y j) (fun _=>True) m (by simp[stH1,paidR,sumR]) trivial (fun i hi _=>?_) (fun _=>?_)
   ·have e2:(i:Int)<m:=by omega
    have w2:=wrap_succ (k:=i) (by omega)
    have k1:=has_r (p:=p j) (m:=i) (hp j hj) (by omega)
    have hLm:L≤m*(L+1):=by
     have:1*(L+1)≤m*(L+1):=Nat.mul_le_mul_right _ (by omega)
     omega
    have hLM:m*(L+1)≤8*(L+1):=Nat.mul_le_mul_right _ hm
    have k2:=add_r (K:=m*(L+1)) (by omega) (paid_sz (p:=p) hy (j:=j) (i:=i) (by omega)) (sz_mono (hy i hi) hLm)
    cases hb:bitP (p j) i with
    | true =>
     rw[hb] at k1
     have ev:paidR p y j i+y i=paidR p y j (i+1):=by unfold paidR; simp only[sumR,MB,hb,if_true]
     simp[c_ref30_Holds_l1,stH1,e2,hj]
     refine eCall_i k1 (by simp) (by simp) ?_
     simp[hi,e2]
     refine eCall_i k2 (by simp) (by simp) ?_
     simp[w2,ev,stH1]
    | false =>
     rw[hb] at k1
     have ev:paidR p y j i=paidR p y j (i+1):=by unfold paidR; simp only[sumR,MB,hb]; grind
     simp[c_ref30_Holds_l1,stH1,e2,hj]
     refine eCall_i k1 (by simp) (by simp) ?_
     simp[w2,← ev,stH1]
   ·have k2:=fromInt_n (hl j hj)
    have hLM:m*(L+1)≤8*(L+1):=Nat.mul_le_mul_right _ hm
    have k3:=cmp_r (K:=8*(L+1)) (by omega) (sz_mono (paid_sz (p:=p) hy (j:=j) (Nat.le_refl m)) hLM) (sz_nat (hl j hj) (by omega))
    simp[c_ref30_Holds_l1,stH1,c_ref30_Holds_k2,hj,e]
    refine eCall_i k2 (by simp) (by simp) ?_
    simp
    refine eCall_i k3 (by simp) (by simp) ?_
    by_cases h2:cmpR (paidR p y j m) ((l j:Int):Rat)<0
    ·rw[holdsV_false fun h=>by have:=h.2 j hj; have:=cmpR_lt.1 h2; unfold ZR paidR at *; grind]
     simp[h2,r_ref30_Holds]
    ·simp[h2,c_ref30_Holds_k3,w,stH4]
     exact fun a ha=>by
      by_cases e:a=j
      ·subst e
       have g2:¬ paidR p y a m<((l a:Int):Rat):=fun h=>h2 (cmpR_lt.2 h)
       unfold ZR
       grind
      ·exact hI a (by omega)
  ·rw[holdsV_true ⟨hI0,hI⟩]
   simp[c_ref30_Holds_l4,stH4,c_ref30_Holds_k5,r_ref30_Holds]
end
end Go.Proofs.Ytbgnkodhpbkdoaa

namespace Go.Proofs.Ytbgnkodhpbkdoaa
open Go Go.Am Go.Dig Go.LP
section
variable {p l t:Nat→Nat} {k m L:Nat} {x:Nat→Rat}
def gainR (l:Nat→Nat) (x:Nat→Rat) (j:Nat):Rat:=sumR j fun j=>x j*ZR l j
def ldR (p:Nat→Nat) (x:Nat→Rat) (i j:Nat):Rat:=loadR j (MB p) x i
def bdR (p l t:Nat→Nat) (k:Nat) (x:Nat→Rat) (i:Nat):Rat:=gainR l x k-sumR i (overR k (MB p) (ZR t) x)
theorem bdR_all:bdR p l t k x m=boundR k m (MB p) (ZR l) (ZR t) x:=rfl
theorem gain_sz (hk:k≤152) (hx:∀ j,j<k→sz L (x j)) (hl:∀ j,j<k→l j≤8000000) {j:Nat} (hj:j≤k):sz (152*(L+24)) (gainR l x j) :=
 sum_sz_le (L:=L+23) (fun a ha=>sz_mul (hx a (by omega)) (sz_nat (hl a (by omega)) (by omega))) (by omega)
theorem ld_sz (hk:k≤152) (hx:∀ j,j<k→sz L (x j)) {i j:Nat} (hj:j≤k):sz (152*(L+1)) (ldR p x i j) :=
 sum_sz_le (fun a ha=>by
  split
  ·exact hx a (by omega)
  ·exact sz_zero) (by omega)
theorem over_sz (hk:k≤152) (hx:∀ j,j<k→sz L (x j)) (ht:∀ i,i<m→t i≤1000000) {i:Nat} (hi:i<m):sz (152*(L+1)+26) (overR k (MB p) (ZR t) x i):=by
 unfold overR
 split
 ·exact sz_mono (sz_mul (sz_nat (K:=23) (n:=t i) (by have:=ht i hi; omega) (by omega)) (sz_sub (ld_sz (p:=p) (i:=i) hk hx (Nat.le_refl k)) (sz_one (K:=1)))) (by omega)
 ·exact sz_zero
theorem bd_sz (hk:k≤152) (hm:m≤8) (hx:∀ j,j<k→sz L (x j)) (hl:∀ j,j<k→l j≤8000000) (ht:∀ i,i<m→t i≤1000000) {i:Nat} (hi:i≤m):sz (2000*(L+24)) (bdR p l t k x i) :=
 sz_mono (sz_sub (gain_sz hk hx hl (Nat.le_refl k)) (sum_sz_le (N:=8) (fun a ha=>over_sz (p:=p) hk hx ht (i:=a) (by omega)) (by omega))) (by omega)
noncomputable def stB0 (p l t:Nat→Nat) (k m:Nat) (x:Nat→Rat) (j:Nat):St :=
 {env:=[(0,nN p l k),(1,nT t m),(2,fL x k),(6,.ptr 6 0),(8,.ptr 8 0),(9,iv j)],sto:=[(6,.var zz),(8,.var (fr (gainR l x j)))]}
noncomputable def stB4 (p l t:Nat→Nat) (k m:Nat) (x:Nat→Rat) (i:Nat):St :=
 {env:=[(0,nN p l k),(1,nT t m),(2,fL x k),(6,.ptr 6 0),(8,.ptr 8 0),(10,iv i)],sto:=[(6,.var zz),(8,.var (fr (bdR p l t k x i)))]}
noncomputable def stB1 (p l t:Nat→Nat) (k m:Nat) (x:Nat→Rat) (i j:Nat):St :=
 {env:=[(0,nN p l k),(1,nT t m),(2,fL x k),(6,.ptr 6 0),(8,.ptr 8 0),(10,iv i),(11,.ptr 11 0),(12,iv j)],
  sto:=[(6,.var zz),(8,.var (fr (bdR p l t k x i))),(11,.var (fr (ldR p x i j-1)))]}
theorem bound_r (hk:k≤152) (hm:m≤8) (hp:∀ j,j<k→p j<256) (hl:∀ j,j<k→l j≤8000000) (ht:∀ i,i<m→t i≤1000000) (hLb:23≤L∧L≤10000000) (hx:∀ j,j<k→sz L (x j)) :
  ((∀ j,j<k→0≤x j)→SoundCall Try.prog F_ref30_Bound [nN p l k,nT t m,fL x k] (.tuple [fq (boundR k m (MB p) (ZR l) (ZR t) x),bv true])) ∧
  (¬ (∀ j,j<k→0≤x j)→SoundCall Try.prog F_ref30_Bound [nN p l k,nT t m,fL x k] (.tuple [.agg zz,bv false])):=by
 have key:∀ r,((∀ j,j<k→0≤x j)→r=AV.tuple [fq (boundR k m (MB p) (ZR l) (ZR t) x),bv true])→(¬ (∀ j,j<k→0≤x j)→r=.tuple [.agg zz,bv false])→SoundCall Try.prog F_ref30_Bound [nN p l k,nT t m,fL x k] r:=by
  intro r r1 r2
  have kw:=whole_r (f:=fun i=>RF.of (x i)) (n:=k) (by omega) (fun i hi=>fine_of (by omega) (hx i hi))
  rw[hL,hR_of (g:=x) (fun _ _=>rfl),allV_iff.2 fun _ _=>of_v _] at kw
  have km1:SoundCall Try.prog F_p_FromInt [iv (-1)] (fq ((-1:Int):Rat)):=fromInt_r (by decide) (by decide)
  refine sound' t_ref30_Bound (by simp) ?_
  simp[c_ref30_Bound]
  refine eCall_i kw (by simp) (by simp) ?_
  simp
  refine eCall_i zero_r (by simp) (by simp) ?_
  simp
  refine awp_forW (stB0 p l t k m x) (fun j=>∀ a,a<j→0≤x a) k (by simp[stB0,gainR,sumR]) (fun a ha=>by omega) (fun j hj hI=>?_) (fun hI0=>?_)
  ·have e:(j:Int)<k:=by omega
   have w:=wrap_succ (k:=j) (by omega)
   have k1:=sign_r (q:=x j)
   have k2:=fromInt_n (hl j hj)
   have k3:=mul_r (K:=L) (by omega) (hx j hj) (sz_nat (hl j hj) hLb.1)
   have k4:=add_r (K:=152*(L+24)) (by omega) (gain_sz hk hx hl (j:=j) (by omega)) (sz_mono (sz_mul (hx j hj) (sz_nat (K:=23) (hl j hj) (by omega))) (by omega))
   simp[c_ref30_Bound_l0,stB0,e,hj]
   refine eCall_i k1 (by simp) (by simp) ?_
   by_cases h1:sgnR (x j)<0
   ·rw[r2 fun h=>by have:=h j hj; have:=sgnR_neg.1 h1; grind]
    simp[h1,r_ref30_Bound]
   ·have ev:gainR l x j+x j*((l j:Int):Rat)=gainR l x (j+1):=rfl
    simp[h1,hj,e]
    refine eCall_i k2 (by simp) (by simp) ?_
    simp
    refine eCall_i k3 (by simp) (by simp) ?_
    simp
    refine eCall_i k4 (by simp) (by simp) ?_
    simp[w,ev,stB0]
    exact fun a ha=>by
     by_cases e:a=j
     ·subst e
      have g1:¬ x a<0:=fun h=>h1 (sgnR_neg.2 h)
      grind
     ·exact hI a (by omega)
  ·simp[c_ref30_Bound_l0,stB0,c_ref30_Bound_k6]
   have e0:gainR l x k=bdR p l t k x 0:=by unfold bdR; simp only[sumR]; grind
   refine awp_forW (stB4 p l t k m x) (fun _=>True) m (by simp[stB4,e0]) trivial (fun i hi _=>?_) (fun _=>?_)
   ·have e:(i:Int)<m:=by omega
    have w:=wrap_succ (k:=i) (by omega)
    have em1:((-1:Int):Rat)=ldR p x i 0-1:=by unfold ldR loadR; simp only[sumR]; grind
    rw[em1] at km1
    simp[c_ref30_Bound_l4,stB4,e]
    refine eCall_i km1 (by simp) (by simp) ?_
    simp
    refine awp_forW (stB1 p l t k m x i) (fun _=>True) k (by simp[stB1]) trivial (fun j hj _=>?_) (fun _=>?_)
    ·have e2:(j:Int)<k:=by omega
     have w2:=wrap_succ (k:=j) (by omega)
     have k1:=has_r (p:=p j) (m:=i) (hp j hj) (by omega)
     have k2:=add_r (K:=152*(L+1)+3) (by omega) (sz_mono (sz_sub (ld_sz (p:=p) (i:=i) hk hx (j:=j) (by omega)) (sz_one (K:=1))) (by omega)) (sz_mono (hx j hj) (by omega))
     cases hb:bitP (p j) i with
     | true =>
      rw[hb] at k1
      have ev:ldR p x i j-1+x j=ldR p x i (j+1)-1:=by unfold ldR loadR; simp only[sumR,MB,hb,if_true]; grind
      simp[c_ref30_Bound_l1,stB1,e2,hj]
      refine eCall_i k1 (by simp) (by simp) ?_
      simp[hj,e2]
      refine eCall_i k2 (by simp) (by simp) ?_
      simp[w2,ev,stB1]
     | false =>
      rw[hb] at k1
      have ev:ldR p x i j-1=ldR p x i (j+1)-1:=by unfold ldR loadR; simp only[sumR,MB,hb]; grind
      simp[c_ref30_Bound_l1,stB1,e2,hj]
      refine eCall_i k1 (by simp) (by simp) ?_
      simp[w2,← ev,stB1]
    ·have k1:=sign_r (q:=ldR p x i k-1)
     have zl:sz (152*(L+1)+3) (ldR p x i k-1):=sz_mono (sz_sub (ld_sz (p:=p) (i:=i) hk hx (j:=k) (by omega)) (sz_one (K:=1))) (by omega)
     simp[c_ref30_Bound_l1,stB1,c_ref30_Bound_k2]
     refine eCall_i k1 (by simp) (by simp) ?_
     by_cases h1:0<sgnR (ldR p x i k-1)
     ·have h1':0<ldR p x i k-1:=sgnR_pos.1 h1
      have k2:=fromInt_n (n:=t i) (by have:=ht i hi; omega)
      have k3:=mul_r (K:=152*(L+1)+3) (by omega) zl (sz_nat (n:=t i) (by have:=ht i hi; omega) (by omega))
      have k4:=sub_r (K:=2000*(L+24)) (by omega) (bd_sz (p:=p) hk hm hx hl ht (i:=i) (by omega)) (sz_mono (sz_mul zl (sz_nat (K:=23) (n:=t i) (by have:=ht i hi; omega) (by omega))) (by omega))
      have ev:bdR p l t k x i-(ldR p x i k-1)*((t i:Int):Rat)=bdR p l t k x (i+1):=by
       unfold bdR
       simp only[sumR]
       have:overR k (MB p) (ZR t) x i=(ldR p x i k-1)*((t i:Int):Rat):=by
        unfold overR
        rw[if_pos (show 1<loadR k (MB p) x i by unfold ldR at h1'; grind)]
        unfold ldR ZR
        grind
       rw[this]
       grind
      simp[h1,hi,e]
      refine eCall_i k2 (by simp) (by simp) ?_
      simp
      refine eCall_i k3 (by simp) (by simp) ?_
      simp
      refine eCall_i k4 (by simp) (by simp) ?_
      simp[c_ref30_Bound_k3,w,ev,stB4]
     ·have h1':¬ 0<ldR p x i k-1:=fun h=>h1 (sgnR_pos.2 h)
      have ev:bdR p l t k x i=bdR p l t k x (i+1):=by
       unfold bdR
       simp only[sumR]
       have:overR k (MB p) (ZR t) x i=0:=by
        unfold overR
        rw[if_neg (show ¬ 1<loadR k (MB p) x i by unfold ldR at h1'; grind)]
       rw[this]
       grind
      simp[h1,c_ref30_Bound_k3,w,← ev,stB4]
   ·rw[r1 hI0,← bdR_all (p:=p) (l:=l) (t:=t)]
    simp[c_ref30_Bound_l4,stB4,c_ref30_Bound_k5,r_ref30_Bound]
 exact ⟨fun h=>key _ (fun _=>rfl) fun hn=>absurd h hn,fun h=>key _ (fun hp=>absurd hp h) fun _=>rfl⟩
end
end Go.Proofs.Ytbgnkodhpbkdoaa

namespace Go.Proofs.Ytbgnkodhpbkdoaa
open Go Go.Am Go.Dig Go.LP
section
variable {p l t:Nat→Nat} {k m L:Nat} {x:Nat→Rat}
theorem fromInt_nq {n:Nat} (h:n≤8000000):SoundCall Try.prog F_f_FromInt [iv n] (fq ((n:Int):Rat)):=fromInt_q (by omega) (by omega)
noncomputable def sgB (x:Nat→Rat) (k m:Nat) (s:Rat) (ld:Nat→Rat):List (Nat × Entry) :=
 [(5,.var [fL x k]),(6,.var zz),(7,.var (fr 1)),(8,.var (fr s)),(19,.arr 3 (fR ld m)),(9,.var [.sl 19 3 0 m])]
noncomputable def stK0 (p l t:Nat→Nat) (k m:Nat) (x:Nat→Rat) (i:Nat):St :=
 {env:=[(0,nN p l k),(1,nT t m),(5,.ptr 5 0),(6,.ptr 6 0),(7,.ptr 7 0),(8,.ptr 8 0),(9,.ptr 9 0),(21,iv m),(22,iv i)],
  sto:=[(5,.var [fL x k]),(6,.var zz),(7,.var (fr 1)),(8,.var (fr 0)),(19,.arr 3 (fZ (fun _=>0) i m)),(9,.var [.sl 19 3 0 m])]}
def ldM (p:Nat→Nat) (x:Nat→Rat) (j i:Nat) (a:Nat):Rat:=ldR p x a (if a<i then j+1 else j)
noncomputable def XB (p l:Nat→Nat) (k m:Nat) (x:Nat→Rat) (j i:Nat):List (Nat × Entry) :=
 sgB x k m (gainR l x (j+1)) (ldM p x j i)++[(11,.var [iv j]),(12,.var [iv (p j),iv (l j)])]
theorem ldM_step {j i:Nat} (hb:bitP (p j) i=true):fR (upd (ldM p x j i) i (ldM p x j i i+x j)) m=fR (ldM p x j (i+1)) m:=fR_congr fun a _=>by
 unfold upd ldM ldR loadR
 by_cases e:a=i
 ·subst e
  rw[if_pos rfl,if_neg (Nat.lt_irrefl a),if_pos (Nat.lt_succ_self a)]
  simp only[sumR,MB,hb,if_true]
 ·rw[if_neg e]
  by_cases h:a<i
  ·rw[if_pos h,if_pos (by omega)]
  ·rw[if_neg h,if_neg (by omega)]
theorem ldM_no {j i:Nat} (hb:bitP (p j) i=false):fR (ldM p x j (i+1)) m=fR (ldM p x j i) m:=fR_congr fun a _=>by
 unfold ldM ldR loadR
 by_cases e:a=i
 ·subst e
  rw[if_pos (Nat.lt_succ_self a),if_neg (Nat.lt_irrefl a)]
  simp only[sumR,MB,hb]
  grind
 ·by_cases h:a<i
  ·rw[if_pos h,if_pos (by omega)]
  ·rw[if_neg h,if_neg (by omega)]
theorem bcloI (hk:k≤152) (hLb:23≤L∧L≤10000000) (hx:∀ j,j<k→sz L (x j)) {j i:Nat} (hj:j<k) (hi:i<m) (hm:m≤8) (hb:bitP (p j) i=true) {e:Entry} (t:St) (K':AV→St→Prop) (ht:t.sto=XB p l k m x j i++[(5003,e)])
  (h:K' (.tuple []) ⟨t.env,XB p l k m x j (i+1)++[(5003,e)],t.out,t.base⟩):CallI Try.prog F_minrevenue_bound_1 [iv i,.ptr 9 0,.ptr 5 0,.ptr 11 0] t K':=by
 obtain ⟨env,σ,out,base⟩:=t
 simp only at ht h
 subst ht
 have e1:(i:Int)<m:=by omega
 have e2:(j:Int)<k:=by omega
 have ka:=add_q (K:=152*(L+1)) (by omega) (show sz (152*(L+1)) (ldM p x j i i) from ld_sz hk hx (by split<;>omega)) (sz_mono (hx j hj) (by omega))
 refine soundI' 6000 t_minrevenue_bound_1 (by simp) ?_
 simp[c_minrevenue_bound_1,XB,sgB,e1,e2,hi,hj]
 refine eCall_i ka (by simp) (by simp) ?_
 simp[hi,e1,r_minrevenue_bound_1]
 rw[fR_set,ldM_step hb]
 exact h
theorem low_slM {M a b c d:Nat}:Am.low M (.sl a b c d)=decide (a<M):=rfl
theorem rest_XB {j i:Nat}:rest (XB p l k m x j i):=by
 intro q hq
 simp only[XB,sgB,List.cons_append,List.nil_append,List.mem_cons,List.not_mem_nil,or_false] at hq
 rcases hq with rfl | rfl | rfl | rfl | rfl | rfl | rfl | rfl<;>exact ⟨.inl (show (_:Nat)<1000 by simp),by simp[lowE,low_iv,low_fL,low_bv,low_slM,low_nilA]⟩
theorem low_fnM {M:Nat} {f:FuncId} {caps:List AV}:Am.low M (.fn (.func f) caps)=caps.all (low1 M):=rfl
theorem low_aggM {M:Nat} {cs:List AV}:Am.low M (.agg cs)=true:=rfl
theorem low_nTM {M:Nat} {t:Nat→Int} {m:Nat}:Am.low M (iL t m)=true:=rfl
theorem low_nNM {M:Nat} {p l:Nat→Int} {m:Nat}:Am.low M (nL p l m)=true:=rfl
theorem ok_payers:okFn Try.prog F_minrevenue_payers=true:=by kernel_rfl
theorem ok_bclo:okFn Try.prog F_minrevenue_bound_1=true:=by kernel_rfl
noncomputable def stK1 (p l t:Nat→Nat) (k m:Nat) (x:Nat→Rat) (j:Nat):St :=
 {env:=[(1,nT t m),(5,.ptr 5 0),(6,.ptr 6 0),(7,.ptr 7 0),(8,.ptr 8 0),(9,.ptr 9 0),(30,nN p l k),(31,iv k),(32,iv j)],sto:=sgB x k m (gainR l x j) (fun a=>ldR p x a j)}
noncomputable def stK2 (p l t:Nat→Nat) (k m:Nat) (x:Nat→Rat) (i:Nat):St :=
 {env:=[(1,nT t m),(6,.ptr 6 0),(7,.ptr 7 0),(8,.ptr 8 0),(53,.sl 19 3 0 m),(54,iv m),(55,iv i)],
  sto:=[(6,.var zz),(7,.var (fr 1)),(8,.var (fr (bdR p l t k x i))),(19,.arr 3 (fR (fun a=>ldR p x a k) m))]}
theorem bound_s (hk:k≤152) (hm:m≤8) (hp:∀ j,j<k→p j<256) (hl:∀ j,j<k→l j≤8000000) (ht:∀ i,i<m→t i≤1000000) (hLb:23≤L∧L≤10000000) (hx:∀ j,j<k→sz L (x j)) :
  SoundCall Try.prog F_minrevenue_bound [nN p l k,nT t m,fL x k] (fq (boundR k m (MB p) (ZR l) (ZR t) x)):=by
 have g0:SoundCall Try.prog F_f_FromInt [iv 0] (fq 0):=fromInt_q (n:=0) (by decide) (by decide)
 have g1:SoundCall Try.prog F_f_FromInt [iv 1] (fq 1):=fromInt_q (n:=1) (by decide) (by decide)
 refine sound' t_minrevenue_bound (by simp) ?_
 simp[c_minrevenue_bound]
 refine eCall_i g1 (by simp) (by simp) ?_
 simp
 refine eCall_i g0 (by simp) (by simp) ?_
 simp[eMk]
 refine ⟨by omega,by omega,?_⟩
 rw[fZ_zero (f:=fun _=>0)]
 refine awp_forW (stK0 p l t k m x) (fun _=>True) m (by simp[stK0]) trivial (fun i hi _=>?_) (fun _=>?_)
 ·have e:(i:Int)<m:=by omega
  have w:=wrap_succ (k:=i) (by omega)
  have hset:=fZ_set (f:=fun _=>0) hi
  simp[c_minrevenue_bound_l0,stK0,e]
  refine eCall_i g0 (by simp) (by simp) ?_
  simp[w,stK0,hi,e,hset]
 ·simp[c_minrevenue_bound_l0,stK0,c_minrevenue_bound_k5,fZ_full]
  have e0:fR (fun _=>0) m=fR (fun a=>ldR p x a 0) m:=fR_congr fun _ _=>rfl
  have e1:(0:Rat)=gainR l x 0:=rfl
  refine awp_forW (stK1 p l t k m x) (fun _=>True) k (by simp[stK1,sgB,e0,← e1]) trivial (fun j hj _=>?_) (fun _=>?_)
  ·have e:(j:Int)<k:=by omega
   have w:=wrap_succ (k:=j) (by omega)
   have k2:=fromInt_nq (hl j hj)
   have k3:=mul_q (K:=L) (by omega) (hx j hj) (sz_nat (hl j hj) hLb.1)
   have k4:=add_q (K:=152*(L+24)) (by omega) (gain_sz hk hx hl (j:=j) (by omega)) (sz_mono (sz_mul (hx j hj) (sz_nat (K:=23) (hl j hj) (by omega))) (by omega))
   have ev:gainR l x j+x j*((l j:Int):Rat)=gainR l x (j+1):=rfl
   simp[c_minrevenue_bound_l1,stK1,sgB,e,hj]
   refine eCall_i k2 (by simp) (by simp) ?_
   simp
   refine eCall_i k3 (by simp) (by simp) ?_
   simp
   refine eCall_i k4 (by simp) (by simp) ?_
   simp[ok_payers,ev]
   have hX0:fR (fun a=>ldR p x a j) m=fR (ldM p x j 0) m:=fR_congr fun a _=>by unfold ldM; rw[if_neg (Nat.not_lt_zero a)]
   have hXm:fR (ldM p x j m) m=fR (fun a=>ldR p x a (j+1)) m:=fR_congr fun a ha=>by unfold ldM; rw[if_pos ha]
   rw[hX0]
   refine eCallI_of (payersI (p:=p j) (l:=l j) (m:=m) (F:=F_minrevenue_bound_1) (caps:=[.ptr 9 0,.ptr 5 0,.ptr 11 0]) (X:=XB p l k m x j) (hp j hj) hm ?_ (fun _=>rest_XB) ?_ ?_ ok_bclo ?_ ?_ ?_ ?_)
   ·simp[XB,sgB]
   ·simp[lowF_cons,lowF_nil,low_iv,low_ptr,low_fnM,low1,low_aggM,low_nTM,low_nNM]
   ·simp[lowO]
   ·simp[low_fnM,low1]
   ·exact fun i hi hb t K' h1 _ _ h4=>bcloI hk hLb hx hj hi hm hb t K' h1 h4
   ·intro i hi hb
    simp only[XB,sgB]
    rw[ldM_no hb]
   simp[XB,sgB,hXm,w,stK1]
  ·simp[c_minrevenue_bound_l1,stK1,sgB,c_minrevenue_bound_k4]
   have e0:gainR l x k=bdR p l t k x 0:=by unfold bdR; simp only[sumR]; grind
   refine awp_forW (stK2 p l t k m x) (fun _=>True) m (by simp[stK2,e0]) trivial (fun i hi _=>?_) (fun _=>?_)
   ·have e:(i:Int)<m:=by omega
    have w:=wrap_succ (k:=i) (by omega)
    have zl:=ld_sz (p:=p) (i:=i) hk hx (Nat.le_refl k)
    have k1:=cmp_q (K:=152*(L+1)) (by omega) zl (sz_mono (sz_one (K:=1)) (by omega))
    simp[c_minrevenue_bound_l2,stK2,e,hi]
    refine eCall_i k1 (by simp) (by simp) ?_
    by_cases h1:0<cmpR (ldR p x i k) 1
    ·have h1':1<ldR p x i k:=cmpR_gt.1 h1
     have k2:=fromInt_nq (n:=t i) (by have:=ht i hi; omega)
     have k3:=sub_q (K:=152*(L+1)) (by omega) zl (sz_mono (sz_one (K:=1)) (by omega))
     have zs:sz (152*(L+1)+3) (ldR p x i k-1):=sz_mono (sz_sub zl (sz_one (K:=1))) (by omega)
     have k4:=mul_q (K:=152*(L+1)+3) (by omega) (sz_nat (n:=t i) (by have:=ht i hi; omega) (by omega)) zs
     have k5:=sub_q (K:=2000*(L+24)) (by omega) (bd_sz (p:=p) hk hm hx hl ht (i:=i) (by omega)) (sz_mono (sz_mul (sz_nat (K:=23) (n:=t i) (by have:=ht i hi; omega) (by omega)) zs) (by omega))
     have ev:bdR p l t k x i-((t i:Int):Rat)*(ldR p x i k-1)=bdR p l t k x (i+1):=by
      unfold bdR
      simp only[sumR]
      have:overR k (MB p) (ZR t) x i=((t i:Int):Rat)*(ldR p x i k-1):=by
       unfold overR
       rw[if_pos (show 1<loadR k (MB p) x i from h1')]
       rfl
      rw[this]
      grind
     simp[h1,hi,e]
     refine eCall_i k2 (by simp) (by simp) ?_
     simp
     refine eCall_i k3 (by simp) (by simp) ?_
     simp
     refine eCall_i k4 (by simp) (by simp) ?_
     simp
     refine eCall_i k5 (by simp) (by simp) ?_
     simp[w,ev,stK2]
    ·have h1':¬ 1<ldR p x i k:=fun h=>h1 (cmpR_gt.2 h)
     have ev:bdR p l t k x i=bdR p l t k x (i+1):=by
      unfold bdR
      simp only[sumR]
      have:overR k (MB p) (ZR t) x i=0:=by
       unfold overR
       rw[if_neg (show ¬ 1<loadR k (MB p) x i from h1')]
      rw[this]
      grind
     simp[h1,w,← ev,stK2]
   ·rw[← bdR_all (p:=p) (l:=l) (t:=t)]
    simp[c_minrevenue_bound_l2,stK2,c_minrevenue_bound_k3,r_minrevenue_bound]
end
end Go.Proofs.Ytbgnkodhpbkdoaa

namespace Go.Proofs.Ytbgnkodhpbkdoaa
open Go Go.Am Go.Dig Go.LP
noncomputable def arrs (f:Nat→Nat→Rat) (n a m:Nat):List (Nat × Entry):=(List.range' a (m-a)).map fun r=>(500+r,Entry.arr 3 (fR (f r) n))
section
variable {f:Nat→Nat→Rat} {n a m r x k l:Nat} {e:Entry}
theorem arrs_nil (h:m≤a):arrs f n a m=[]:=by unfold arrs; rw[show m-a=0 by omega]; rfl
theorem arrs_cons (h:a<m):arrs f n a m=(500+a,.arr 3 (fR (f a) n))::arrs f n (a+1) m:=by
 unfold arrs
 rw[show m-a=(m-(a+1))+1 by omega,List.range'_succ]; rfl
theorem arrs_snoc (h:a≤m):arrs f n a (m+1)=arrs f n a m++[(500+m,.arr 3 (fR (f m) n))]:=by
 unfold arrs
 rw[show m+1-a=(m-a)+1 by omega,List.range'_concat,List.map_append]
 simp only[List.map_cons,List.map_nil,Nat.one_mul]
 rw[show a+(m-a)=m by omega]
theorem arrs_congr {g:Nat→Nat→Rat} (h:∀ r j,a≤r→r<m→j<n→f r j=g r j):arrs f n a m=arrs g n a m:=by
 unfold arrs
 refine List.map_congr_left fun r hr=>?_
 have:=List.mem_range'_1.1 hr
 rw[fR_congr fun j hj=>h r j (by omega) (by omega) hj]
theorem lk_map_none {L:List Nat} {g:Nat→Entry} (h:∀ r∈L,¬ 500+r=x):lk (L.map fun r=>(500+r,g r)) x=none:=by
 induction L with
 | nil=>rfl
 | cons y L ih=>simp only[List.map_cons,lk]; rw[if_neg (h y (by simp)),ih fun r hr=>h r (by simp[hr])]
theorem lk_arrs_out (h:x<500+a∨500+m≤x):lk (arrs f n a m) x=none :=
 lk_map_none fun r hr=>by have:=List.mem_range'_1.1 hr; omega
theorem lk_arrs:∀ {d a:Nat},m-a=d→a≤r→r<m→lk (arrs f n a m) (500+r)=some (.arr 3 (fR (f r) n))
 | 0,a,hd,h1,h2=>by omega
 | d+1,a,hd,h1,h2=>by
  rw[arrs_cons (by omega)]
  simp only[lk]
  by_cases e:a=r
  ·subst e; rw[if_pos rfl]
  ·rw[if_neg (by omega)]
   exact lk_arrs (d:=d) (a:=a+1) (by omega) (by omega) h2
theorem pt_none {L:List (Nat × Entry)} (h:lk L x=none):pt L x e=L++[(x,e)]:=by
 induction L with
 | nil=>rfl
 | cons q L ih =>
  obtain ⟨y,z⟩:=q
  simp only[lk] at h
  split at h
  ·cases h
  ·rename_i hne
   simp only[pt,if_neg hne,ih h,List.cons_append]
theorem pt_arrs {g:Nat→Rat}:∀ {d a:Nat},m-a=d→a≤r→r<m→pt (arrs f n a m) (500+r) (.arr 3 (fR g n))=arrs (upd f r g) n a m
 | 0,a,hd,h1,h2=>by omega
 | d+1,a,hd,h1,h2=>by
  rw[arrs_cons (f:=f) (by omega),arrs_cons (f:=upd f r g) (by omega)]
  simp only[pt]
  by_cases e:a=r
  ·subst e
   rw[if_pos rfl]
   have h3:arrs (upd f a g) n (a+1) m=arrs f n (a+1) m:=arrs_congr fun r j hr _ _=>by unfold upd; rw[if_neg (by omega)]
   have h4:upd f a g a=g:=by unfold upd; rw[if_pos rfl]
   rw[h3,h4]
  ·rw[if_neg (by omega),pt_arrs (d:=d) (a:=a+1) (by omega) (by omega) h2]
   have h4:upd f r g a=f a:=by unfold upd; rw[if_neg e]
   rw[h4]
theorem map_arrs_self {F:Nat × Entry→Nat × Entry} (h:∀ r g,a≤r→r<m→F (500+r,.arr 3 g)=(500+r,.arr 3 g)):(arrs f n a m).map F=arrs f n a m:=by
 unfold arrs
 rw[List.map_map]
 exact List.map_congr_left fun r hr=>by have:=List.mem_range'_1.1 hr; exact h r _ (by omega) (by omega)
@[simp] theorem arrs_dg:((arrs f n a m).map fun p=>(p.1,dgE k p.2))=arrs f n a m:=map_arrs_self fun _ _ _ _=>rfl
@[simp] theorem arrs_frz:((arrs f n a m).map fun p=>(p.1,frzE k e p.2))=arrs f n a m:=map_arrs_self fun _ _ _ _=>rfl
@[simp] theorem arrs_ref:noRefS k (arrs f n a m)=true:=by
 unfold arrs
 generalize List.range' a (m-a)=L
 induction L with
 | nil=>rfl
 | cons y L ih=>simp only[List.map_cons,noRefS,ih]; rfl
theorem del_arrs {D:List Nat} (h:∀ r,a≤r→r<m→D.elem (500+r)=false):del D (arrs f n a m)=arrs f n a m:=by
 unfold arrs
 have h2:∀ r∈List.range' a (m-a),D.elem (500+r)=false:=fun r hr=>by have:=List.mem_range'_1.1 hr; exact h r (by omega) (by omega)
 generalize List.range' a (m-a)=L at h2
 induction L with
 | nil=>rfl
 | cons y L ih =>
  simp only[List.map_cons,del]
  rw[h2 y (by simp),ih fun r hr=>h2 r (by simp[hr])]
  rfl
theorem arrs_rest (hm:m≤100):rest (arrs f n a m):=by
 intro p hp
 obtain ⟨r,hr,rfl⟩:=List.mem_map.1 hp
 have:=List.mem_range'_1.1 hr
 exact ⟨.inl (show 500+r<1000 by omega),rfl⟩
end
end Go.Proofs.Ytbgnkodhpbkdoaa

namespace Go.Proofs.Ytbgnkodhpbkdoaa
open Go Go.Am Go.Dig Go.LP
section
variable {p l t:Nat→Nat} {k m:Nat}
noncomputable def stMD0 (p l t:Nat→Nat) (k m:Nat) (j:Nat):St :=
 {env:=[(0,nN p l k),(1,nT t m),(4,.ptr 4 0),(5,.ptr 5 0),(6,.ptr 6 0),(7,.ptr 7 0),(18,nN p l k),(19,iv k),(20,iv j)],
  sto:=[(4,.var [nilA,nilA]),(5,.var [apc 30 3 (fR (ZR l) j),nilA]),(6,.var (fr 0)),(7,.var (fr 1))]}
def tkG (k:Nat):Nat:=if k=0 then 46 else 30
noncomputable abbrev glA (l t:Nat→Nat) (k i:Nat):AV:=apc (tkG k) 3 (fR (mG k (ZR l) (ZR t)) (k+i))
theorem tkG_or:tkG k=46∨tkG k=30:=by unfold tkG; split<;>simp
theorem gl_append {q:Nat} {x:Rat} {s:St} {K:St→Prop} (hb:s.base=0) (hq:k≤q) (hq2:q≤200) (h0:lk s.sto (tkG k)=none) (hx:x=mG k (ZR l) (ZR t) q)
  (h:K ((s.dg (tkG k)).put (some 46) (apc (tkG k) 3 (fR (mG k (ZR l) (ZR t)) (q+1))))):eAppend 3 56 s (some 46) K [apc (tkG k) 3 (fR (mG k (ZR l) (ZR t)) q),.list 3 .full [fr x]]:=by
 have h1:apc (tkG k) 3 (fR (mG k (ZR l) (ZR t)) (q+1))=.list 3 (.own (tkG k)) (fR (mG k (ZR l) (ZR t)) (q+1)):=apc_some (by simp)
 have hs1:fR (mG k (ZR l) (ZR t)) q++[fr x]=fR (mG k (ZR l) (ZR t)) (q+1):=by rw[hx]; exact fR_succ.symm
 rw[h1] at h
 by_cases q0:q=0
 ·have hk0:tkG k=46:=by unfold tkG; rw[if_pos (by omega)]
  rw[apc_nil (by simp[q0])]
  have hs0:[fr x]=fR (mG k (ZR l) (ZR t)) (q+1):=by rw[← hs1,q0]; rfl
  rw[hk0] at h h0
  rw[hs0]
  rw[eAppend_full]
  simp only[hb,Nat.zero_add,List.nil_append,List.length_nil,fR_len]
  exact ⟨by simp,by omega,by omega,by omega,by simp,h0,h⟩
 ·rw[apc_some (by simpa using q0),eAppend_own]
  simp only[hs1,List.length_cons,List.length_nil,fR_len]
  exact ⟨by simp,by omega,by omega,by omega,trivial,h0,h⟩
noncomputable def rwA (i:Nat):AV:=if i=0 then nilA else .us 80 4 0 i
noncomputable def rwU (n i:Nat):List (List AV):=mR (fun r=>.sl (500+r) 3 0 n::fr 1) i
noncomputable def rwE (n i:Nat):List (Nat × Entry):=if i=0 then [] else [(80,.uarr 4 (rwU n i))]
def cfD (p:Nat→Nat) (k j r c:Nat):Rat:=if c<j then (if MB p c r=true then 1 else 0) else if c=k+r then -1 else 0
noncomputable def tlD (p:Nat→Nat) (k m i:Nat):List (Nat × Entry):=rwE (k+m) i++arrs (cfD p k 0) (k+m) 0 i
noncomputable def sgD (p l t:Nat→Nat) (k m:Nat) (i:Nat):List (Nat × Entry) :=
 (4,.var [nilA,nilA])::(5,.var [glA l t k i,rwA i])::(6,.var (fr 0))::(7,.var (fr 1))::tlD p k m i
section
variable {i x n:Nat} {e:Entry} {Z:List (Nat × Entry)}
theorem lk_tl (h:x<500) (h2:¬ x=80):lk (tlD p k m i) x=none:=by
 unfold tlD rwE
 split
 ·exact lk_arrs_out (.inl (by omega))
 ·simp only[List.cons_append,List.nil_append,lk]
  rw[if_neg (Ne.symm h2)]
  exact lk_arrs_out (.inl (by omega))
theorem pt_tl (h:x<500) (h2:¬ x=80):pt (tlD p k m i) x e=tlD p k m i++[(x,e)]:=pt_none (lk_tl h h2)
theorem lk_tl2 (h:x<500) (h2:¬ x=80):lk (tlD p k m i++Z) x=lk Z x:=lk_app (_l':=[]) (lk_tl h h2)
theorem pt_app {L:List (Nat × Entry)} (h:lk L x=none):pt (L++Z) x e=L++pt Z x e:=by
 induction L with
 | nil=>rfl
 | cons q L ih =>
  obtain ⟨y,z⟩:=q
  simp only[lk] at h
  split at h
  ·cases h
  ·rename_i hne
   simp only[List.cons_append,pt,if_neg hne,ih h]
theorem pt_tl2 (h:x<500) (h2:¬ x=80):pt (tlD p k m i++Z) x e=tlD p k m i++pt Z x e:=pt_app (lk_tl h h2)
theorem lk_tl80 (h:¬ i=0):lk (tlD p k m i++Z) 80=some (.uarr 4 (rwU (k+m) i)):=by
 unfold tlD rwE
 rw[if_neg h]
 rfl
theorem pt_tl80 {R:List (List AV)} (h:¬ i=0):pt (tlD p k m i++Z) 80 (.uarr 4 R)=(80,.uarr 4 R)::(arrs (cfD p k 0) (k+m) 0 i++Z):=by
 unfold tlD rwE
 rw[if_neg h]
 rfl
@[simp] theorem rwU_len:(rwU n i).length=i:=mR_len
theorem rwU_dg:rowsDg x (rwU n i)=rwU n i:=mR_map fun _=>by simp
theorem tl_dg:((tlD p k m i).map fun q=>(q.1,dgE x q.2))=tlD p k m i:=by
 unfold tlD rwE
 split
 ·exact arrs_dg
 ·simp only[List.map_append,List.map_cons,List.map_nil,arrs_dg,dgE_uarr,rwU_dg]
end
noncomputable def stMD4 (p l t:Nat→Nat) (k m:Nat) (i:Nat):St :=
 {env:=[(0,nN p l k),(1,nT t m),(4,.ptr 4 0),(5,.ptr 5 0),(6,.ptr 6 0),(7,.ptr 7 0),(33,nT t m),(34,iv m),(35,iv i)],sto:=sgD p l t k m i}
theorem fill_row {q:Rat} {a b c d:Nat}:fillR [nilA,bv false,nilA,nilA] [(1,3),(0,1)] [.agg (fr q),.sl a b c d]=some [.sl a b c d,f0 q,f1 q,f2 q]:=by
 unfold fr
 simp[fillR,splice,-fr_fold]
theorem goLoad_slrow {q:Rat} {a b c d:Nat}:goLoad (.sl a b c d::fr q) 0 (some 4)=some (.raw (.sl a b c d::fr q)):=by
 unfold fr
 simp[goLoad,-fr_fold]
theorem rowsAU_slrow {q:Rat} {a b c d:Nat}:rowsAU 4 [[nilA,bv false,nilA,nilA]] [0] [.raw (.sl a b c d::fr q)]=some [.sl a b c d::fr q]:=by
 unfold fr
 simp[rowsAU,-fr_fold]
theorem eAppendU_newL {sz by_ d n sz':Nat} {rows:List (List AV)} {s:St} {K:St→Prop} :
  eAppendU sz by_ s (some d) K [.list n .full [],.lit sz' rows]=(sz'=sz∧0<sz∧rows.length*by_≤140737488355328∧rows.length≤9223372036854775807∧lk s.sto (s.base+d)=none ∧
   K ({(s.dg (s.base+d)) with sto:=pt (s.dg (s.base+d)).sto (s.base+d) (.uarr sz (rowsDg (s.base+d) rows))}.put (some d) (.us (s.base+d) sz 0 rows.length))):=by
 simp[eAppendU,addRowsU]
theorem rwU_ref {n i x:Nat} (h:x<500):anyRefR x (rwU n i)=false:=mR_ref fun r=>by
 have:¬ 500+r=x:=by omega
 simp[this]
theorem anyRefR_sn {n i x:Nat} {R:List (List AV)} (h:x<500):anyRefR x (rwU n i++R)=anyRefR x R:=by rw[anyRefR_app,rwU_ref h]; rfl
theorem lk_arr2 {f:Nat→Nat→Rat} {n m x:Nat} {Z:List (Nat × Entry)} (h:x<500):lk (arrs f n 0 m++Z) x=lk Z x:=lk_app (_l':=[]) (lk_arrs_out (.inl (by omega)))
theorem del_arr2 {f:Nat→Nat→Rat} {n m x:Nat} {Z:List (Nat × Entry)} (h:x<500):del [x] (arrs f n 0 m++Z)=arrs f n 0 m++del [x] Z:=by
 rw[del_app,del_arrs fun r _ _=>by simp; omega]
theorem noRef_arr2 {f:Nat→Nat→Rat} {n m x:Nat} {Z:List (Nat × Entry)}:noRefS x (arrs f n 0 m++Z)=noRefS x Z:=by rw[noRefS_app,arrs_ref]; rfl
theorem rn_sl {a b k s o l:Nat}:rn a b (.sl k s o l)=.sl (sw a b k) s o l:=rfl
theorem rnE_arr {a b s:Nat} {r:List (List AV)}:rnE a b (.arr s r)=.arr s r:=rfl
theorem slrow_dg {q:Rat} {a b c d x:Nat}:rowsDg x [.sl a b c d::fr q]=[.sl a b c d::fr q]:=by
 simp[rowsDg]
noncomputable def stMD1 (p l t:Nat→Nat) (k m n i:Nat) (j:Nat):St :=
 {env:=[(0,nN p l k),(1,nT t m),(4,.ptr 4 0),(5,.ptr 5 0),(6,.ptr 6 0),(7,.ptr 7 0),(33,nT t m),(34,iv m),(35,iv i),(10,iv i),(12,.ptr 12 0),(58,iv n),(59,iv j)],
  sto:=(4,.var [nilA,nilA])::(5,.var [.list 3 (.own (tkG k)) (fR (mG k (ZR l) (ZR t)) (k+i+1)),rwA i])::(6,.var (fr 0))::(7,.var (fr 1)) ::
   (tlD p k m i++[(54,.arr 3 (fZ (fun _=>0) j n)),(12,.var [.sl 54 3 0 n,f0 1,f1 1,f2 1])])}
theorem sw_big {i r:Nat} (h:r<i):sw 54 (500+i) (500+r)=500+r:=by unfold sw; rw[if_neg (by omega),if_neg (by omega)]
theorem rwU_rn {n i:Nat}:((rwU n i++[.sl 54 3 0 n::fr 1]).map fun r=>r.map (rn 54 (500+i)))=rwU n (i+1):=by
 have e1:((rwU n i).map fun r=>r.map (rn 54 (500+i)))=rwU n i:=mR_congr2 fun r hr=>by
  have:=sw_big hr
  simp[rn_sl,this]
 have e2:[AV.sl 54 3 0 n::fr 1].map (fun r=>r.map (rn 54 (500+i)))=[.sl (500+i) 3 0 n::fr 1]:=by
  simp only[List.map_cons,List.map_nil,rn_sl,fr_rn]
  rw[show sw 54 (500+i) 54=500+i from if_pos rfl]
 rw[List.map_append,e1,e2]
 unfold rwU
 rw[mR_succ]
theorem arrs_rn {f:Nat→Nat→Rat} {n i:Nat}:((arrs f n 0 i).map fun p=>(sw 54 (500+i) p.1,rnE 54 (500+i) p.2))=arrs f n 0 i:=map_arrs_self fun r g _ hr=>by rw[sw_big hr]; rfl
theorem dual_ren {n i:Nat} (hn:k+m=n) (hi:i<m) :
  St.imp ⟨[(0,nN p l k),(1,nT t m),(4,.ptr 4 0),(5,.ptr 5 0),(6,.ptr 6 0),(7,.ptr 7 0),(33,nT t m),(34,iv m),(35,iv ((i+1:Nat):Int))],
   (4,.var [nilA,nilA])::(5,.var [.list 3 (.own (tkG k)) (fR (mG k (ZR l) (ZR t)) (k+i+1)),.us 80 4 0 (i+1)])::(6,.var (fr 0))::(7,.var (fr 1))::(80,.uarr 4 (rwU n i++[.sl 54 3 0 n::fr 1])) ::
    (arrs (cfD p k 0) n 0 i++[(54,.arr 3 (fR (cfD p k 0 i) n))]),[],0⟩ (stMD4 p l t k m (i+1)):=by
 refine St.imp.trans (St.imp_rn 54 (500+i)) ?_
 have h1:sw 54 (500+i) (tkG k)=tkG k:=by rcases tkG_or (k:=k) with h | h<;>rw[h]<;>unfold sw<;>rw[if_neg (by omega),if_neg (by omega)]
 have h2:∀ x,x<54→sw 54 (500+i) x=x:=fun x hx=>by unfold sw; rw[if_neg (by omega),if_neg (by omega)]
 have h3:sw 54 (500+i) 80=80:=by unfold sw; rw[if_neg (by omega),if_neg (by omega)]
 have h4:sw 54 (500+i) 54=500+i:=by unfold sw; rw[if_pos rfl]
 have h5:apc (tkG k) 3 (fR (mG k (ZR l) (ZR t)) (k+(i+1)))=.list 3 (.own (tkG k)) (fR (mG k (ZR l) (ZR t)) (k+i+1)):=apc_some (by simp)
 have h6:=rwU_rn (n:=n) (i:=i)
 simp only[List.map_append,List.map_cons,List.map_nil,fr_rn] at h6
 simp only[St.rn,List.map_cons,List.map_nil,List.map_append,h6,fr_rn,rnE_var,rnE_uarr,rnE_arr,rn_own,rn_us,rn_ptr,rn_plain,rn_full,rn_val,h1,h2 4 (by omega),h2 5 (by omega),h2 6 (by omega),h2 7 (by omega),h3,h4,arrs_rn]
 have h7:tlD p k m (i+1)=(80,.uarr 4 (rwU n (i+1)))::(arrs (cfD p k 0) n 0 i++[(500+i,.arr 3 (fR (cfD p k 0 i) n))]):=by
  unfold tlD rwE
  rw[if_neg (by omega),hn,arrs_snoc (Nat.zero_le i)]
  rfl
 have h8:rwA (i+1)=.us 80 4 0 (i+1):=if_neg (by omega)
 unfold stMD4 sgD
 rw[h7,h8]
 unfold glA
 rw[h5]
 exact St.imp.refl
end
end Go.Proofs.Ytbgnkodhpbkdoaa

namespace Go.Proofs.Ytbgnkodhpbkdoaa
open Go Go.Am Go.Dig Go.LP
section
variable {p l t:Nat→Nat} {k m:Nat}
noncomputable def sgE (l t:Nat→Nat) (k m:Nat) (f:Nat→Nat→Rat):List (Nat × Entry) :=
 (4,.var [nilA,nilA])::(5,.var [glA l t k m,rwA m])::(7,.var (fr 1))::(rwE (k+m) m++arrs f (k+m) 0 m)
noncomputable def tE (k m:Nat) (f:Nat→Nat→Rat):List (Nat × Entry):=rwE (k+m) m++arrs f (k+m) 0 m
theorem sgE_eq {f:Nat→Nat→Rat}:sgE l t k m f=(4,.var [nilA,nilA])::(5,.var [glA l t k m,rwA m])::(7,.var (fr 1))::tE k m f:=rfl
theorem tE_lk {f:Nat→Nat→Rat} {x:Nat} (h:x<500) (h2:¬ x=80):lk (tE k m f) x=none:=by
 unfold tE rwE
 split
 ·exact lk_arrs_out (.inl (by omega))
 ·simp only[List.cons_append,List.nil_append,lk]
  rw[if_neg (Ne.symm h2)]
  exact lk_arrs_out (.inl (by omega))
theorem tE_ref {f:Nat→Nat→Rat} {x:Nat} (h:x<500):noRefS x (tE k m f)=true:=by
 unfold tE rwE
 rw[noRefS_app,arrs_ref,Bool.and_true]
 split
 ·rfl
 ·simp[rwU_ref h]
theorem tE_del {f:Nat→Nat→Rat}:del [14,15] (tE k m f)=tE k m f:=by
 unfold tE rwE
 rw[del_app,del_arrs fun r _ _=>by simp; omega]
 split<;>rfl
def cfM (p:Nat→Nat) (k j i r:Nat):Nat→Rat:=cfD p k (if r<i then j+1 else j) r
noncomputable def XD (p l t:Nat→Nat) (k m j i:Nat):List (Nat × Entry):=sgE l t k m (cfM p k j i)++[(14,.var [iv j]),(15,.var [iv (p j),iv (l j)])]
theorem cfM_step {j i:Nat} (hj:j<k) (hb:bitP (p j) i=true):upd (cfM p k j i i) j 1=cfM p k j (i+1) i:=by
 funext c
 unfold upd cfM cfD
 rw[if_neg (Nat.lt_irrefl i),if_pos (Nat.lt_succ_self i)]
 by_cases e:c=j
 ·subst e
  rw[if_pos rfl,if_pos (Nat.lt_succ_self c)]
  simp[MB,hb]
 ·rw[if_neg e]
  by_cases h:c<j
  ·rw[if_pos h,if_pos (show c<j+1 by omega)]
  ·rw[if_neg h,if_neg (show ¬ c<j+1 by omega)]
theorem cfM_other {j i r:Nat} (h:¬ r=i):cfM p k j (i+1) r=cfM p k j i r:=by
 unfold cfM
 by_cases e:r<i
 ·rw[if_pos e,if_pos (by omega)]
 ·rw[if_neg e,if_neg (by omega)]
theorem cfM_no {j i:Nat} (hj:j<k) (hb:bitP (p j) i=false) (r:Nat):cfM p k j (i+1) r=cfM p k j i r:=by
 by_cases e:r=i
 ·subst e
  unfold cfM
  rw[if_neg (Nat.lt_irrefl r),if_pos (Nat.lt_succ_self r)]
  funext c
  unfold cfD
  by_cases h:c<j
  ·rw[if_pos h,if_pos (show c<j+1 by omega)]
  ·rw[if_neg h]
   by_cases h2:c<j+1
   ·obtain rfl:c=j:=by omega
    rw[if_pos h2]
    have h3:¬ c=k+r:=by omega
    simp[MB,hb,h3]
   ·rw[if_neg h2]
 ·exact cfM_other e
theorem rwU_rest {n i:Nat} (hi:i≤100):lowE 1000 (.uarr 4 (rwU n i))=true:=by
 have:∀ r∈rwU n i,r.all (Am.low 1000)=true:=fun r hr=>by
  obtain ⟨j,hj,rfl⟩:=List.mem_map.1 hr
  have hj2:j<i:=by simpa using hj
  have:Am.low 1000 (.sl (500+j) 3 0 n)=true:=by rw[low_slM]; simp; omega
  simp[this]
 simp only[lowE,List.all_eq_true]
 intro r hr x hx
 exact List.all_eq_true.1 (this r hr) x hx
theorem rest_XD (hm:m≤8) {j i:Nat}:rest (XD p l t k m j i):=by
 intro q hq
 have hlow:lowE 1000 (.var [glA l t k m,rwA m])=true:=by
  have h1:Am.low 1000 (glA l t k m)=true:=by
   unfold glA apc
   split
   ·rfl
   ·show decide (tkG k<1000)=true
    rcases tkG_or (k:=k) with h | h<;>rw[h]<;>rfl
  have h2:Am.low 1000 (rwA m)=true:=by unfold rwA; split<;>rfl
  simp[lowE,h1,h2]
 simp only[XD,sgE,List.cons_append,List.append_assoc,List.mem_cons,List.mem_append] at hq
 rcases hq with rfl | rfl | rfl | hq | hq | hq
 ·exact ⟨.inl (show (_:Nat)<1000 by simp),by simp[lowE,low_nilA]⟩
 ·exact ⟨.inl (show (_:Nat)<1000 by simp),hlow⟩
 ·exact ⟨.inl (show (_:Nat)<1000 by simp),by simp[lowE]⟩
 ·unfold rwE at hq
  split at hq
  ·cases hq
  ·simp only[List.mem_singleton] at hq
   subst hq
   exact ⟨.inl (show (_:Nat)<1000 by simp),rwU_rest (by omega)⟩
 ·exact arrs_rest (by omega) q hq
 ·simp only[List.not_mem_nil,or_false] at hq
  rcases hq with rfl | rfl<;>exact ⟨.inl (show (_:Nat)<1000 by simp),by simp[lowE,low_iv]⟩
@[simp] theorem rwU_getE {n i j:Nat} {h:j<(rwU n i).length}:(rwU n i)[j]=.sl (500+j) 3 0 n::fr 1:=mR_getE
theorem pt_some {L Z:List (Nat × Entry)} {x:Nat} {v e:Entry} (h:lk L x=some v):pt (L++Z) x e=pt L x e++Z:=by
 induction L with
 | nil=>cases h
 | cons q L ih =>
  obtain ⟨y,z⟩:=q
  simp only[lk] at h
  simp only[List.cons_append,pt]
  split at h
  ·rename_i h1; rw[if_pos h1,if_pos h1]; rfl
  ·rename_i h1; rw[if_neg h1,if_neg h1,ih h]; rfl
theorem ok_dclo:okFn Try.prog F_minrevenue_dual_1=true:=by kernel_rfl
theorem dcloI (hk:k≤152) (hm:m≤8) {j i:Nat} (hj:j<k) (hi:i<m) (hb:bitP (p j) i=true) {e:Entry} (s:St) (K':AV→St→Prop) (hs:s.sto=XD p l t k m j i++[(5003,e)])
  (h:K' (.tuple []) ⟨s.env,XD p l t k m j (i+1)++[(5003,e)],s.out,s.base⟩):CallI Try.prog F_minrevenue_dual_1 [iv i,.ptr 7 0,.ptr 5 0,.ptr 14 0] s K':=by
 obtain ⟨env,σ,out,base⟩:=s
 simp only at hs h
 subst hs
 have m0:¬ m=0:=by omega
 have e1:(i:Int)<m:=by omega
 have e2:(j:Int)<((k+m:Nat):Int):=by omega
 have e3:j<k+m:=by omega
 obtain ⟨n,hn⟩:∃ n,k+m=n:=⟨_,rfl⟩
 have hr:rwA m=.us 80 4 0 m:=if_neg m0
 have hE:rwE n m=[(80,.uarr 4 (rwU n m))]:=if_neg m0
 have hget:(rwU n m)[i]?=some (.sl (500+i) 3 0 n::fr 1):=mR_get hi
 have hl:∀ Z,lk (arrs (cfM p k j i) n 0 m++Z) (500+i)=some (.arr 3 (fR (cfM p k j i i) n)):=fun Z=>by
  have:∀ {L:List (Nat × Entry)} {x:Nat} {v:Entry},lk L x=some v→lk (L++Z) x=some v:=fun {L x v}=>by
   induction L with
   | nil=>intro h; cases h
   | cons q L ih =>
    obtain ⟨y,z⟩:=q
    intro h
    simp only[lk,List.cons_append] at h ⊢
    split at h
    ·rename_i h1; rw[if_pos h1]; exact h
    ·rename_i h1; rw[if_neg h1]; exact ih h
  exact this (lk_arrs (d:=m) (by omega) (Nat.zero_le i) hi)
 refine soundI' 6000 t_minrevenue_dual_1 (by simp) ?_
 rw[hn] at e2 e3
 have hp2:∀ Z,pt (arrs (cfM p k j i) n 0 m++Z) (500+i) (.arr 3 ((fR (cfM p k j i i) n).set j (fr 1)))=arrs (cfM p k j (i+1)) n 0 m++Z:=fun Z=>by
  rw[pt_some (lk_arrs (d:=m) (by omega) (Nat.zero_le i) hi),fR_set,pt_arrs (d:=m) (by omega) (Nat.zero_le i) hi]
  congr 1
  refine arrs_congr fun r c _ _ _=>?_
  by_cases e:r=i
  ·subst e
   rw[← cfM_step hj hb]
   unfold upd
   rw[if_pos rfl]
  ·rw[cfM_other e]
   unfold upd
   rw[if_neg e]
 have n4:¬ 4=500+i:=by omega
 have n5:¬ 5=500+i:=by omega
 have n7:¬ 7=500+i:=by omega
 have n80:¬ 80=500+i:=by omega
 simp[c_minrevenue_dual_1,XD,sgE,hr,hn,hE,e1,e2,e3,hi,lk_arr2,hl,hp2,n4,n5,n7,n80,r_minrevenue_dual_1]
 simp[XD,sgE,hr,hn,hE] at h
 exact h
noncomputable def rwF (f:Nat→Nat→Rat) (n a m:Nat):List (List AV):=mR (fun r=>if r<a then fL (f r) n::fr 1 else .sl (500+r) 3 0 n::fr 1) m
noncomputable def sgF (l t:Nat→Nat) (k m:Nat) (f:Nat→Nat→Rat) (n a:Nat):List (Nat × Entry) :=
 (4,.var [nilA,nilA])::(5,.var [glA l t k m,.us 80 4 0 m])::(7,.var (fr 1))::(80,.uarr 4 (rwF f n a m))::arrs f n a m
noncomputable def envE (p l t:Nat→Nat) (k m j:Nat):List (Nat × AV):=[(1,nT t m),(4,.ptr 4 0),(5,.ptr 5 0),(7,.ptr 7 0),(83,nN p l k),(84,iv k),(85,iv j)]
theorem gl_frz {x:Nat} {e:Entry} (h:50<x):frz x e (glA l t k m)=glA l t k m:=by
 unfold glA apc
 split
 ·rfl
 ·have:¬ tkG k=x:=by rcases tkG_or (k:=k) with h1 | h1<;>omega
  show (if tkG k=x∧_ then _ else _)=_
  rw[if_neg fun h=>this h.1]
theorem frz_step {f:Nat→Nat→Rat} {n a j:Nat} (ha:a<m):St.imp ⟨envE p l t k m j,sgF l t k m f n a,[],0⟩ ⟨envE p l t k m j,sgF l t k m f n (a+1),[],0⟩:=by
 have n4:¬ 4=500+a:=by omega
 have n5:¬ 5=500+a:=by omega
 have n7:¬ 7=500+a:=by omega
 have n80:¬ 80=500+a:=by omega
 have hd:del [500+a] (arrs f n a m)=arrs f n (a+1) m:=by
  rw[arrs_cons ha]
  simp only[del]
  rw[if_pos (by simp),del_arrs fun r h1 h2=>by simp; omega]
 have hrow:((rwF f n a m).map fun r=>r.map (frz (500+a) (.arr 3 (fR (f a) n))))=rwF f n (a+1) m:=mR_congr2 fun r hr=>by
  by_cases h1:r<a
  ·rw[if_pos h1,if_pos (by omega)]
   simp[fr_frz]
  ·rw[if_neg h1]
   by_cases h2:r=a
   ·subst h2
    rw[if_pos (by omega)]
    have ht:(fR (f r) n).take n=fR (f r) n:=List.take_of_length_le (by simp)
    simp[fr_frz,frz_sl,ht]
   ·rw[if_neg (by omega)]
    simp[fr_frz,frz_sl,h2]
 have href:anyRefR (500+a) (rwF f n (a+1) m)=false:=mR_ref fun r=>by
  by_cases h1:r<a+1
  ·rw[if_pos h1]; simp
  ·rw[if_neg h1]
   have:¬ r=a:=by omega
   simp[this]
 refine St.imp_gone (k:=500+a) (e:=.arr 3 (fR (f a) n)) ?_ ?_ ?_ rfl rfl ?_
 ·simp only[sgF,lk]
  rw[if_neg n4,if_neg n5,if_neg n7,if_neg n80]
  exact lk_arrs (d:=m-a) rfl (Nat.le_refl a) ha
 ·simp[envE,n4,n5,n7,frz_ptr,frz_plain]
 ·have e1:del [500+a] (sgF l t k m f n a)=(4,.var [nilA,nilA])::(5,.var [glA l t k m,.us 80 4 0 m])::(7,.var (fr 1))::(80,.uarr 4 (rwF f n a m))::arrs f n (a+1) m:=by
   unfold sgF
   simp[del,n4,n5,n7,n80,hd]
  rw[e1]
  simp only[List.map_cons,frzE_var,frzE_uarr,hrow,arrs_frz,fr_frz,gl_frz (show 50<500+a by omega),List.map_nil]
  simp[sgF,frz_us,n80,frz_full]
 ·simp[St.unmet,envE,sgF,n4,n5,n7,n80,href]
theorem frz_steps {f:Nat→Nat→Rat} {n j:Nat}:∀ a,a≤m→St.imp ⟨envE p l t k m j,sgF l t k m f n 0,[],0⟩ ⟨envE p l t k m j,sgF l t k m f n a,[],0⟩
 | 0,_=>St.imp.refl
 | a+1,h=>St.imp.trans (frz_steps a (by omega)) (frz_step (by omega))
noncomputable def rwZ (f:Nat→Nat→Rat) (n m:Nat):List (List AV):=mR (fun r=>fL (f r) n::fr 1) m
noncomputable def sgZ (l t:Nat→Nat) (k m:Nat) (f:Nat→Nat→Rat):List (Nat × Entry):=[(4,.var [nilA,nilA]),(5,.var [glA l t k m,plc 4 (rwZ f (k+m) m)]),(7,.var (fr 1))]
theorem frz_all {f:Nat→Nat→Rat} {j:Nat}:St.imp ⟨envE p l t k m j,sgE l t k m f,[],0⟩ ⟨envE p l t k m j,sgZ l t k m f,[],0⟩:=by
 by_cases m0:m=0
 ·have h1:sgE l t k m f=sgZ l t k m f:=by
   unfold sgE sgZ rwE rwA
   rw[if_pos m0,if_pos m0,arrs_nil (by omega)]
   have:plc 4 (rwZ f (k+m) m)=nilA:=by unfold plc; rw[if_pos (by rw[rwZ,mR_len]; exact m0)]
   rw[this]
   rfl
  rw[h1]
  exact St.imp.refl
 ·have h1:sgE l t k m f=sgF l t k m f (k+m) 0:=by
   unfold sgE sgF rwE rwA
   rw[if_neg m0,if_neg m0]
   have:rwF f (k+m) 0 m=rwU (k+m) m:=mR_congr fun r _=>by rw[if_neg (Nat.not_lt_zero r)]
   rw[this]
   rfl
  rw[h1]
  refine St.imp.trans (frz_steps m (Nat.le_refl m)) ?_
  have h2:rwF f (k+m) m m=rwZ f (k+m) m:=mR_congr fun r hr=>by rw[if_pos hr]
  have h3:plc 4 (rwZ f (k+m) m)=.list 4 .plain (rwZ f (k+m) m):=by unfold plc; rw[if_neg (by rw[rwZ,mR_len]; exact m0)]
  have h4:rowsRf (rwZ f (k+m) m)=true:=mR_all fun _=>by simp
  have h5:rowsSt (rwZ f (k+m) m)=rwZ f (k+m) m:=mR_map fun _=>by simp
  have h6:(rwZ f (k+m) m).length=m:=by rw[rwZ,mR_len]
  have h7:(rwZ f (k+m) m).take m=rwZ f (k+m) m:=List.take_of_length_le (by omega)
  unfold sgF
  rw[h2,arrs_nil (Nat.le_refl m)]
  refine St.imp_gone (k:=80) (e:=.uarr 4 (rwZ f (k+m) m)) (by simp) (by simp[envE,frz_ptr,frz_plain]) ?_ rfl rfl ?_
  ·simp[del,frzE_var,fr_frz,gl_frz (show 50<80 by omega),frz_us,frz_full,sgZ,h3,h4,h5,h6,h7]
  ·simp[St.unmet,envE,sgZ,h3]
noncomputable def stL5 (p l t:Nat→Nat) (k m j:Nat):St:=⟨envE p l t k m j,sgE l t k m (cfD p k j),[],0⟩
noncomputable def stL5f (p l t:Nat→Nat) (k m j:Nat):St:=if j=k then ⟨envE p l t k m j,sgZ l t k m (cfD p k j),[],0⟩ else stL5 p l t k m j
theorem stL5_imp (j:Nat):St.imp (stL5 p l t k m j) (stL5f p l t k m j):=by
 unfold stL5f
 split
 ·exact frz_all
 ·exact St.imp.refl
theorem dual_l5 {K:Exit→St→Prop} (hk:k≤152) (hm:m≤8) (hp:∀ j,j<k→p j<256)
  (h:K (.exit 6) ⟨envE p l t k m k++[(86,bv false)],sgZ l t k m (cfD p k k),[],0⟩) :
  awp Try.prog (.loop c_minrevenue_dual_l5) (stL5 p l t k m 0) K:=by
 refine awp_forS (stL5f p l t k m) (fun _=>True) k (stL5_imp 0) trivial (fun j hj _=>?_) (fun _=>?_)
 ·have e:(j:Int)<k:=by omega
  have w:=wrap_succ (k:=j) (by omega)
  have hne:¬ j=k:=by omega
  have hst:stL5f p l t k m j=stL5 p l t k m j:=if_neg hne
  rw[hst]
  have hX0:sgE l t k m (cfD p k j)=sgE l t k m (cfM p k j 0):=by
   unfold sgE
   rw[arrs_congr (f:=cfD p k j) (g:=cfM p k j 0) fun r c _ _ _=>by unfold cfM; rw[if_neg (Nat.not_lt_zero r)]]
  have hXm:sgE l t k m (cfM p k j m)=sgE l t k m (cfD p k (j+1)):=by
   unfold sgE
   rw[arrs_congr (f:=cfM p k j m) (g:=cfD p k (j+1)) fun r c _ hr _=>by unfold cfM; rw[if_pos hr]]
  have hT:∀ f,lk (tE k m f) 14=none∧lk (tE k m f) 15=none∧noRefS 14 (tE k m f)=true∧noRefS 15 (tE k m f)=true∧del [14,15] (tE k m f)=tE k m f:=fun f=>⟨tE_lk (by omega) (by omega),tE_lk (by omega) (by omega),tE_ref (by omega),tE_ref (by omega),tE_del⟩
  have hr1:refsTo 14 (rwA m)=false∧refsTo 15 (rwA m)=false:=by unfold rwA; split<;>simp
  simp only[stL5,hX0]
  obtain ⟨t1,t2,_,_,_⟩:=hT (cfM p k j 0)
  obtain ⟨s1,s2,s3,s4,s5⟩:=hT (cfM p k j m)
  have hpt1:∀ e,pt (tE k m (cfM p k j 0)) 14 e=tE k m (cfM p k j 0)++[(14,e)]:=fun e=>pt_none t1
  have hpt2:∀ e Z,pt (tE k m (cfM p k j 0)++Z) 15 e=tE k m (cfM p k j 0)++pt Z 15 e:=fun e Z=>pt_app t2
  have hpt3:∀ e Z,pt (tE k m (cfM p k j 0)++Z) 14 e=tE k m (cfM p k j 0)++pt Z 14 e:=fun e Z=>pt_app t1
  have hl1:∀ Z,lk (tE k m (cfM p k j 0)++Z) 14=lk Z 14:=fun Z=>lk_app (_l':=[]) t1
  have hl2:∀ Z,lk (tE k m (cfM p k j 0)++Z) 15=lk Z 15:=fun Z=>lk_app (_l':=[]) t2
  simp[c_minrevenue_dual_l5,envE,sgE_eq,e,hj,ok_payers,t1,hpt1,hpt2,hpt3,hl1,hl2,splice]
  refine eCallI_of (payersI (p:=p j) (l:=l j) (m:=m) (F:=F_minrevenue_dual_1) (caps:=[.ptr 7 0,.ptr 5 0,.ptr 14 0]) (X:=XD p l t k m j) (hp j hj) hm ?_ (fun _=>rest_XD hm) ?_ ?_ ok_dclo ?_ ?_ ?_ ?_)
  ·simp[XD,sgE_eq]
  ·simp[lowF_cons,lowF_nil,low_iv,low_ptr,low_fnM,low1,low_aggM,low_nTM,low_nNM]
  ·simp[lowO]
  ·simp[low_fnM,low1]
  ·exact fun i hi hb s K' h1 _ _ h4=>dcloI hk hm hj hi hb s K' h1 h4
  ·intro i hi hb
   unfold XD
   have:cfM p k j (i+1)=cfM p k j i:=funext fun r=>cfM_no hj hb r
   rw[this]
  have q1:∀ Z,lk (tE k m (cfM p k j m)++Z) 14=lk Z 14:=fun Z=>lk_app (_l':=[]) s1
  have q2:∀ Z,lk (tE k m (cfM p k j m)++Z) 15=lk Z 15:=fun Z=>lk_app (_l':=[]) s2
  have q3:∀ Z,del [14,15] (tE k m (cfM p k j m)++Z)=tE k m (cfM p k j m)++del [14,15] Z:=fun Z=>by rw[del_app,s5]
  have q4:∀ Z,noRefS 14 (tE k m (cfM p k j m)++Z)=noRefS 14 Z:=fun Z=>by rw[noRefS_app,s3]; rfl
  have q5:∀ Z,noRefS 15 (tE k m (cfM p k j m)++Z)=noRefS 15 Z:=fun Z=>by rw[noRefS_app,s4]; rfl
  simp[XD,sgE_eq,q1,q2,q3,s3,s4,hr1.1,hr1.2,w]
  have hfin:=stL5_imp (p:=p) (l:=l) (t:=t) (k:=k) (m:=m) (j+1)
  unfold stL5 at hfin
  rw[← hXm] at hfin
  exact hfin
 ·have hst:stL5f p l t k m k=⟨envE p l t k m k,sgZ l t k m (cfD p k k),[],0⟩:=if_pos rfl
  rw[hst]
  simp[c_minrevenue_dual_l5,envE]
  exact h
end
end Go.Proofs.Ytbgnkodhpbkdoaa

namespace Go.Proofs.Ytbgnkodhpbkdoaa
open Go Go.Am Go.Dig Go.LP
section
variable {p l t:Nat→Nat} {k m:Nat}
theorem dual_s (hk:k≤152) (hm:m≤8) (hp:∀ j,j<k→p j<256) (hl:∀ j,j<k→l j≤8000000) (ht:∀ i,i<m→t i≤1000000) :
  SoundCall Try.prog F_minrevenue_dual [nN p l k,nT t m] (.agg [plc 3 (fR (mG k (ZR l) (ZR t)) (k+m)),plc 4 (rwZ (cfD p k k) (k+m) m)]):=by
 have g0:SoundCall Try.prog F_f_FromInt [iv 0] (fq 0):=fromInt_q (n:=0) (by decide) (by decide)
 have g1:SoundCall Try.prog F_f_FromInt [iv 1] (fq 1):=fromInt_q (n:=1) (by decide) (by decide)
 have km1:SoundCall Try.prog F_f_FromInt [iv (-1)] (fq (-1)):=fromInt_q (n:=-1) (by decide) (by decide)
 refine sound' t_minrevenue_dual (by simp) ?_
 simp[c_minrevenue_dual]
 refine eCall_i g0 (by simp) (by simp) ?_
 simp
 refine eCall_i g1 (by simp) (by simp) ?_
 simp
 refine awp_forW (stMD0 p l t k m) (fun _=>True) k (by simp[stMD0,apc_nil]) trivial (fun j hj _=>?_) (fun _=>?_)
 ·have e:(j:Int)<k:=by omega
  have w:=wrap_succ (k:=j) (by omega)
  have k2:=fromInt_nq (hl j hj)
  have hs1:fR (ZR l) j++[fr ((l j:Int):Rat)]=fR (ZR l) (j+1):=fR_succ.symm
  have h1:apc 30 3 (fR (ZR l) (j+1))=.list 3 (.own 30) (fR (ZR l) (j+1)):=apc_some (by simp)
  by_cases j0:j=0
  ·have h0:apc 30 3 (fR (ZR l) j)=nilA:=apc_nil (by simp[j0])
   have hs0:[fr ((l j:Int):Rat)]=fR (ZR l) (j+1):=by rw[← hs1,j0]; rfl
   simp[c_minrevenue_dual_l0,stMD0,h0,e,hj]
   refine eCall_i k2 (by simp) (by simp) ?_
   simp[w,h1,hs0,stMD0]
   omega
  ·have h0:apc 30 3 (fR (ZR l) j)=.list 3 (.own 30) (fR (ZR l) j):=apc_some (by simpa using j0)
   simp[c_minrevenue_dual_l0,stMD0,h0,e,hj]
   refine eCall_i k2 (by simp) (by simp) ?_
   simp[w,h1,hs1,stMD0]
   omega
 ·simp[c_minrevenue_dual_l0,stMD0,c_minrevenue_dual_k8]
  have hg0:apc 30 3 (fR (ZR l) k)=glA l t k 0:=by
   have e0:fR (ZR l) k=fR (mG k (ZR l) (ZR t)) (k+0):=fR_congr fun j hj=>by unfold mG; rw[if_pos hj]
   by_cases k0:k=0
   ·rw[apc_nil (by simp[k0])]
    unfold glA
    rw[apc_nil (by simp[k0])]
   ·unfold glA tkG
    rw[if_neg k0,e0]
  rw[hg0]
  refine awp_forS (stMD4 p l t k m) (fun _=>True) m (by simp[stMD4,sgD,rwA,rwE,tlD,arrs_nil]; exact St.imp.refl) trivial (fun i hi _=>?_) (fun _=>?_)
  ·have e:(i:Int)<m:=by omega
   have w:=wrap_succ (k:=i) (by omega)
   have hti:=ht i hi
   have wn:IntKind.i64.wrap (0-(t i:Int))=-(t i:Int):=by rw[wrap64]<;>omega
   have hun:semPure Try.prog (Op.unary UnOp.neg (Value.int .i64 (t i:Int)))=some (.int .i64 (-(t i:Int))):=by rw[← wn]; rfl
   have k2:SoundCall Try.prog F_f_FromInt [iv (-(t i:Int))] (fq ((-(t i:Int):Int):Rat)):=fromInt_q (by omega) (by omega)
   have wkm:IntKind.i64.wrap ((k:Int)+m)=((k+m:Nat):Int):=by rw[wrap64]<;>omega
   have wki:IntKind.i64.wrap ((k:Int)+i)=((k+i:Nat):Int):=by rw[wrap64]<;>omega
   obtain ⟨n,hn⟩:∃ n,k+m=n:=⟨_,rfl⟩
   obtain ⟨q,hq⟩:∃ q,k+i=q:=⟨_,rfl⟩
   have hng:-((t i:Int):Rat)=mG k (ZR l) (ZR t) q:=by
    unfold mG
    rw[if_neg (by omega),show q-k=i by omega]
    rfl
   obtain ⟨gx,hgx⟩:∃ gx,dg (tkG k) (glA l t k i)=gx:=⟨_,rfl⟩
   have ht81:¬ tkG k=80:=by rcases tkG_or (k:=k) with h | h<;>omega
   have ht80:¬ 80=tkG k:=by rcases tkG_or (k:=k) with h | h<;>omega
   have hrw:dg (tkG k) (rwA i)=rwA i:=by unfold rwA; split<;>simp[ht80]
   unfold glA at hgx
   rw[hq] at hgx
   have hlk:∀ z:Nat × Entry,lk ((4,z.2)::(5,.var [apc (tkG k) 3 (fR (mG k (ZR l) (ZR t)) q),rwA i])::(6,.var (fr 0))::(7,.var (fr 1))::tlD p k m i) (tkG k)=none:=fun z=>by
    rcases tkG_or (k:=k) with h | h<;>rw[h]<;>simp[lk_tl]
   simp[c_minrevenue_dual_l4,stMD4,sgD,e,hi,hun]
   refine eCall_i k2 (by simp) (by simp) ?_
   simp[glA,hq]
   refine gl_append rfl (by omega) (by omega) (hlk (4,.var [nilA,nilA])) hng ?_
   have h1q:apc (tkG k) 3 (fR (mG k (ZR l) (ZR t)) (q+1))=.list 3 (.own (tkG k)) (fR (mG k (ZR l) (ZR t)) (q+1)):=apc_some (by simp)
   simp only[St.dg,List.map_cons,List.map_nil,tl_dg,dgE_var,hgx,hrw,h1q]
   simp[wkm,hn,splice,lk_tl,pt_tl,lk_tl2,pt_tl2,eMk,fill_row]
   refine ⟨by omega,by omega,?_⟩
   rw[fZ_zero (f:=fun _=>0)]
   refine awp_forW (stMD1 p l t k m n i) (fun _=>True) n (by simp[stMD1,hq]) trivial (fun j hj _=>?_) (fun _=>?_)
   ·have e2:(j:Int)<n:=by omega
    have w2:=wrap_succ (k:=j) (by omega)
    have hset:=fZ_set (f:=fun _=>0) hj
    simp[c_minrevenue_dual_l1,stMD1,e2,hj,lk_tl2,pt_tl2,hset,w2]
   ·simp[c_minrevenue_dual_l1,stMD1,lk_tl2,fZ_full,c_minrevenue_dual_k2]
    refine eCall_i km1 (by simp) (by simp) ?_
    have hqn:q<n:=by omega
    have hqn':(q:Int)<n:=by omega
    have hcf:(fR (fun _=>0) n).set q (fr (-1))=fR (cfD p k 0 i) n:=by
     rw[fR_set]
     refine fR_congr fun j hj=>?_
     unfold upd cfD
     rw[if_neg (Nat.not_lt_zero j),hq]
    simp[wki,hq,hqn,hqn',lk_tl2,pt_tl2,hcf]
    by_cases i0:i=0
    ·have hr0:rwA i=nilA:=if_pos i0
     have ht0:tlD p k m i=[]:=by unfold tlD rwE; rw[if_pos i0,arrs_nil (by omega)]; rfl
     simp[hr0,ht0,goLoad_slrow,rowsAU_slrow,eAppendU_newL,ht81,slrow_dg]
     simp[c_minrevenue_dual_k3,w]
     have hd:=dual_ren (p:=p) (l:=l) (t:=t) hn hi
     rw[hq] at hd
     refine St.imp.trans (St.impW.imp (impW_lk ?_ ?_ ?_)) hd
     ·rfl
     ·subst i0
      funext x
      rw[arrs_nil (Nat.le_refl 0)]
      show lk [_,_,_,_,_,_] x=lk [_,_,_,_,_,_] x
      by_cases h:54=x
      ·subst h; rfl
      ·simp[lk,h]
       rfl
     ·rfl
    ·have hr0:rwA i=.us 80 4 0 i:=if_neg i0
     simp[hr0,goLoad_slrow,rowsAU_slrow]
     rw[eAppendU_moreL (rows1:=rwU (k+m) i) (by simp[lk_tl80 i0])]
     simp only[St.dg,List.map_cons,List.map_nil,List.map_append,tl_dg,dgE_var,dgE_arr,rowsDg_app,rwU_dg,slrow_dg]
     simp[pt_tl80 i0,ht81,anyRefR_sn,lk_arr2,del_arr2,noRef_arr2]
     refine ⟨by omega,by omega,?_⟩
     simp[c_minrevenue_dual_k3,w]
     have:=dual_ren (p:=p) (l:=l) (t:=t) hn hi
     rw[hq] at this
     rw[hn]
     exact this
  ·simp[c_minrevenue_dual_l4,stMD4,sgD,c_minrevenue_dual_k7]
   have hd:del [6] (tlD p k m m)=tE k m (cfD p k 0):=by
    unfold tlD tE rwE
    rw[del_app,del_arrs fun r _ _=>by simp; omega]
    split<;>rfl
   have hr6:refsTo 6 (rwA m)=false:=by unfold rwA; split<;>simp
   rw[hd]
   refine ⟨⟨hr6,tE_ref (by omega)⟩,?_⟩
   have rl:∀ {K:Exit→St→Prop},K (.exit 6) ⟨envE p l t k m k++[(86,bv false)],sgZ l t k m (cfD p k k),[],0⟩ →
     awp Try.prog (.loop c_minrevenue_dual_l5) ⟨[(1,nT t m),(4,.ptr 4 0),(5,.ptr 5 0),(7,.ptr 7 0),(83,nN p l k),(84,iv k),(85,iv 0)],(4,.var [nilA,nilA])::(5,.var [glA l t k m,rwA m])::(7,.var (fr 1))::tE k m (cfD p k 0),[],0⟩ K:=fun {K} h=>dual_l5 hk hm hp h
   refine rl ?_
   have hZ:rf (plc 4 (rwZ (cfD p k k) (k+m) m))=true:=by simp
   simp[envE,sgZ,c_minrevenue_dual_k6,r_minrevenue_dual]
end
end Go.Proofs.Ytbgnkodhpbkdoaa

namespace Go.Proofs.Ytbgnkodhpbkdoaa
open Go Go.Am Go.Dig Go.LP
noncomputable abbrev totA (S:RF) (Y:Nat→RF) (a:Nat) (X:Nat→RF) (b:Nat):AV:=.agg [h0 S,h1 S,h2 S,hL Y a,hL X b]
noncomputable abbrev totQ (s:Rat) (y:Nat→Rat) (m:Nat) (x:Nat→Rat) (k:Nat):AV:=.agg [f0 s,f1 s,f2 s,fL y m,fL x k]
def qs (X:Nat→RF) (i:Nat):Rat:=0
noncomputable def qq (X:Nat→RF) (i:Nat):Rat:=(X i).q
def provP (p l t:Nat→Nat) (k m:Nat) (S:RF) (Y:Nat→RF) (a:Nat) (X:Nat→RF) (b:Nat):Prop :=
 posP Y a m∧posP X b k∧S.v=true∧Pays k m (MB p) (ZR l) (ZR t) (qq Y)∧sumR m (qq Y)=S.q∧boundR k m (MB p) (ZR l) (ZR t) (qq X)=S.q
noncomputable def mchk (p l t:Nat→Nat) (k m:Nat) (S:RF) (Y:Nat→RF) (a:Nat) (X:Nat→RF) (b:Nat):Int:=@ite _ (provP p l t k m S Y a X b) (Classical.propDecidable _) 0 13
section
variable {p l t:Nat→Nat} {k m L a b:Nat} {S:RF} {X Y:Nat→RF} {x y:Nat→Rat} {s:Rat}
theorem mchk_ok (h:provP p l t k m S Y a X b):mchk p l t k m S Y a X b=0:=@if_pos _ (Classical.propDecidable _) h _ _ _
theorem mchk_bad (h:¬ provP p l t k m S Y a X b):mchk p l t k m S Y a X b=13:=@if_neg _ (Classical.propDecidable _) h _ _ _
theorem posP_fL (h:posP Y a m):hL Y a=fL (qq Y) m:=by
 obtain ⟨rfl,h⟩:=h
 unfold hL
 rw[hR_of fun i hi=>RF.of_q (h i hi).1]
 rfl
theorem tot_q (h1:posP Y a m) (h2:posP X b k) (h3:S.v=true):totA S Y a X b=totQ S.q (qq Y) m (qq X) k:=by
 unfold totA totQ
 rw[posP_fL h1,posP_fL h2,← h0_of,← h1_of,← h2_of,← RF.of_q h3]
@[simp] theorem goLoad_tot {u v:AV}:goLoad [f0 s,f1 s,f2 s,u,v] 0 (some 3)=some (fq s):=by simp[goLoad]
@[simp] theorem goLoad_totA {u v:AV}:goLoad [h0 S,h1 S,h2 S,u,v] 0 (some 3)=some (hq S):=by simp[goLoad]
noncomputable def sgC (s:Rat) (y:Nat→Rat) (m:Nat) (x:Nat→Rat) (k:Nat) (v:Rat):List (Nat × Entry):=[(5,.var [f0 s,f1 s,f2 s,fL y m,fL x k]),(8,.var (fr v))]
noncomputable def stC0 (p l t:Nat→Nat) (k m:Nat) (s:Rat) (y x:Nat→Rat) (i:Nat):St :=
 {env:=[(0,nN p l k),(1,nT t m),(5,.ptr 5 0),(8,.ptr 8 0),(42,fL y m),(43,iv m),(44,iv i)],sto:=sgC s y m x k (sumR i y)}
noncomputable def stC1 (p l t:Nat→Nat) (k m:Nat) (s:Rat) (y x:Nat→Rat) (j:Nat):St :=
 {env:=[(0,nN p l k),(1,nT t m),(5,.ptr 5 0),(8,.ptr 8 0),(61,nN p l k),(62,iv k),(63,iv j)],sto:=sgC s y m x k (sumR m y)}
noncomputable def XC (p l:Nat→Nat) (k m:Nat) (s:Rat) (y x:Nat→Rat) (j i:Nat):List (Nat × Entry) :=
 sgC s y m x k (sumR m y)++[(12,.var [iv (p j),iv (l j)]),(13,.var (fr (paidR p y j i)))]
theorem rest_XC {j i:Nat}:rest (XC p l k m s y x j i):=by
 intro q hq
 simp only[XC,sgC,List.cons_append,List.nil_append,List.mem_cons,List.not_mem_nil,or_false] at hq
 rcases hq with rfl | rfl | rfl | rfl<;>exact ⟨.inl (show (_:Nat)<1000 by simp),by simp[lowE,low_iv,low_fL]⟩
theorem ok_cclo:okFn Try.prog F_minrevenue_Check_1=true:=by kernel_rfl
theorem ccloI (hLb:L≤10000000) (hy:∀ i,i<m→sz L (y i)) {j i:Nat} (hi:i<m) (hm:m≤8) (hb:bitP (p j) i=true) {e:Entry} (t:St) (K':AV→St→Prop) (ht:t.sto=XC p l k m s y x j i++[(5003,e)])
  (h:K' (.tuple []) ⟨t.env,XC p l k m s y x j (i+1)++[(5003,e)],t.out,t.base⟩):CallI Try.prog F_minrevenue_Check_1 [iv i,.ptr 13 0,.ptr 5 0] t K':=by
 obtain ⟨env,σ,out,base⟩:=t
 simp only at ht h
 subst ht
 have e1:(i:Int)<m:=by omega
 have hLM:m*(L+1)≤8*(L+1):=Nat.mul_le_mul_right _ hm
 have ka:=add_q (K:=8*(L+1)) (by omega) (sz_mono (paid_sz (p:=p) hy (j:=j) (i:=i) (by omega)) hLM) (sz_mono (hy i hi) (by omega))
 have ev:paidR p y j i+y i=paidR p y j (i+1):=by unfold paidR; simp only[sumR,MB,hb,if_true]
 refine soundI' 6000 t_minrevenue_Check_1 (by simp) ?_
 simp[c_minrevenue_Check_1,XC,sgC,e1,hi]
 refine eCall_i ka (by simp) (by simp) ?_
 simp[r_minrevenue_Check_1,ev]
 exact h

theorem check_good (hk:k≤152) (hm:m≤8) (hp:∀ j,j<k→p j<256) (hl:∀ j,j<k→l j≤8000000) (ht:∀ i,i<m→t i≤1000000) (hLb:23≤L∧L≤10000000) (hx:∀ j,j<k→sz L (x j)) (hy:∀ i,i<m→sz L (y i)) (hs:sz 137438953472 s)
  (hy0:∀ i,i<m→0≤y i) {r:Int} (r0:Pays k m (MB p) (ZR l) (ZR t) y∧sumR m y=s∧boundR k m (MB p) (ZR l) (ZR t) x=s→r=0)
  (r1:¬ (Pays k m (MB p) (ZR l) (ZR t) y∧sumR m y=s∧boundR k m (MB p) (ZR l) (ZR t) x=s)→r=13) :
  awp Try.prog (sec (sec (sec c_minrevenue_Check))) ⟨[(0,nN p l k),(1,nT t m),(5,.ptr 5 0),(39,bv false)],[(5,.var [f0 s,f1 s,f2 s,fL y m,fL x k])],[],0⟩ (retC r_minrevenue_Check (iv r)):=by
 have g0:SoundCall Try.prog F_f_FromInt [iv 0] (fq 0):=fromInt_q (n:=0) (by decide) (by decide)
 have hLM:m*(L+1)≤8*(L+1):=Nat.mul_le_mul_right _ hm
 have sy:∀ i,i≤m→sz (8*(L+1)) (sumR i y):=fun i hi=>sz_mono (sum_sz_le (N:=m) (fun a ha=>hy a (by omega)) hi) hLM
 simp[sec,c_minrevenue_Check]
 refine eCall_i g0 (by simp) (by simp) ?_
 simp
 refine awp_forW (stC0 p l t k m s y x) (fun i=>∀ a,a<i→y a≤ZR t a) m (by simp[stC0,sgC,sumR]) (fun a ha=>by omega) (fun i hi hI=>?_) (fun hI0=>?_)
 ·have e:(i:Int)<m:=by omega
  have w:=wrap_succ (k:=i) (by omega)
  have k1:=add_q (K:=8*(L+1)) (by omega) (sy i (by omega)) (sz_mono (hy i hi) (by omega))
  have k2:=fromInt_nq (n:=t i) (by have:=ht i hi; omega)
  have k3:=cmp_q (by omega:L≤137438953472) (hy i hi) (sz_nat (n:=t i) (by have:=ht i hi; omega) hLb.1)
  have ev:sumR i y+y i=sumR (i+1) y:=rfl
  simp[c_minrevenue_Check_l0,stC0,sgC,e,hi]
  refine eCall_i k1 (by simp) (by simp) ?_
  simp[hi,e]
  refine eCall_i k2 (by simp) (by simp) ?_
  simp
  refine eCall_i k3 (by simp) (by simp) ?_
  by_cases h1:0<cmpR (y i) ((t i:Int):Rat)
  ·rw[r1 fun h=>by have:=(h.1.1 i hi).2; have:=cmpR_gt.1 h1; unfold ZR at *; grind]
   simp[h1,r_minrevenue_Check]
  ·simp[h1,w,ev,stC0,sgC]
   exact fun a ha=>by
    by_cases e:a=i
    ·subst e
     have g2:¬ ((t a:Int):Rat)<y a:=fun h=>h1 (cmpR_gt.2 h)
     unfold ZR
     grind
    ·exact hI a (by omega)
 ·simp[c_minrevenue_Check_l0,stC0,sgC,c_minrevenue_Check_k3]
  refine awp_forW (stC1 p l t k m s y x) (fun j=>∀ a,a<j→ZR l a≤paidR p y a m) k (by simp[stC1,sgC]) (fun a ha=>by omega) (fun j hj hI=>?_) (fun hI=>?_)
  ·have e:(j:Int)<k:=by omega
   have w:=wrap_succ (k:=j) (by omega)
   have k2:=fromInt_nq (hl j hj)
   have k3:=cmp_q (K:=8*(L+1)) (by omega) (sz_mono (paid_sz (p:=p) hy (j:=j) (Nat.le_refl m)) hLM) (sz_nat (hl j hj) (by omega))
   have z0:(0:Rat)=paidR p y j 0:=rfl
   simp[c_minrevenue_Check_l1,stC1,sgC,e,hj]
   refine eCall_i g0 (by simp) (by simp) ?_
   simp[ok_payers]
   rw[z0]
   refine eCallI_of (payersI (p:=p j) (l:=l j) (m:=m) (F:=F_minrevenue_Check_1) (caps:=[.ptr 13 0,.ptr 5 0]) (X:=XC p l k m s y x j) (hp j hj) hm ?_ (fun _=>rest_XC) ?_ ?_ ok_cclo ?_ ?_ ?_ ?_)
   ·simp[XC,sgC]
   ·simp[lowF_cons,lowF_nil,low_iv,low_ptr,low_fnM,low1,low_aggM,low_nTM,low_nNM]
   ·simp[lowO]
   ·simp[low_fnM,low1]
   ·exact fun i hi hb t K' h1 _ _ h4=>ccloI hLb.2 hy hi hm hb t K' h1 h4
   ·intro i hi hb
    have ev:paidR p y j (i+1)=paidR p y j i:=by unfold paidR; simp only[sumR,MB,hb]; grind
    simp only[XC,ev]
   simp[XC,sgC]
   refine eCall_i k2 (by simp) (by simp) ?_
   simp
   refine eCall_i k3 (by simp) (by simp) ?_
   by_cases h2:cmpR (paidR p y j m) ((l j:Int):Rat)<0
   ·rw[r1 fun h=>by have:=h.1.2 j hj; have:=cmpR_lt.1 h2; unfold ZR paidR at *; grind]
    simp[h2,r_minrevenue_Check]
   ·simp[h2,w,stC1,sgC]
    exact fun a ha=>by
     by_cases e:a=j
     ·subst e
      have g2:¬ paidR p y a m<((l a:Int):Rat):=fun h=>h2 (cmpR_lt.2 h)
      unfold ZR
      grind
     ·exact hI a (by omega)
  ·have hP:Pays k m (MB p) (ZR l) (ZR t) y:=⟨fun i hi=>⟨hy0 i hi,hI0 i hi⟩,hI⟩
   have k1:=cmp_q (K:=137438953472) (by omega) (sz_mono (sy m (Nat.le_refl m)) (by omega)) hs
   simp[c_minrevenue_Check_l1,stC1,sgC,c_minrevenue_Check_k2]
   refine eCall_i k1 (by simp) (by simp) ?_
   by_cases h1:cmpR (sumR m y) s=0
   ·have k2:=bound_s hk hm hp hl ht hLb hx
    have k3:=cmp_q (K:=137438953472) (by omega) (sz_mono (bd_sz (p:=p) hk hm hx hl ht (Nat.le_refl m)) (by omega)) hs
    rw[bdR_all] at k3
    simp[h1]
    refine eCall_i k2 (by simp) (by simp) ?_
    simp
    refine eCall_i k3 (by simp) (by simp) ?_
    by_cases h2:cmpR (boundR k m (MB p) (ZR l) (ZR t) x) s=0
    ·rw[r0 ⟨hP,cmpR_eq0.1 h1,cmpR_eq0.1 h2⟩]
     simp[h2,r_minrevenue_Check]
    ·rw[r1 fun h=>h2 (cmpR_eq0.2 h.2.2)]
     simp[h2,r_minrevenue_Check]
   ·rw[r1 fun h=>h1 (cmpR_eq0.2 h.2.1)]
    simp[h1,r_minrevenue_Check]
end
end Go.Proofs.Ytbgnkodhpbkdoaa

namespace Go.Proofs.Ytbgnkodhpbkdoaa
open Go Go.Am Go.Dig Go.LP
section
variable {p l t:Nat→Nat} {k m L a b:Nat} {S:RF} {X Y:Nat→RF} {x y:Nat→Rat} {s:Rat}
structure FineT (L:Nat) (S:RF) (Y:Nat→RF) (a:Nat) (X:Nat→RF) (b:Nat):Prop where
 la:a<1000000
 lb:b<1000000
 fS:S.fine
 fY:∀ i,i<a→(Y i).fine
 fX:∀ i,i<b→(X i).fine
 zS:S.v=true→sz 137438953472 S.q
 zY:∀ i,i<a→(Y i).v=true→sz L (Y i).q
 zX:∀ i,i<b→(X i).v=true→sz L (X i).q
theorem check_err {p l t:Nat→Int} (hk:k<2305843009213693952) (hm:m<2305843009213693952) (he:¬ argE p l k t m=0):SoundCall Try.prog F_minrevenue_Check [nL p l k,iL t m,totA S Y a X b] (iv (argE p l k t m)):=by
 have ka:=args_mr (p:=p) (l:=l) (t:=t) hk hm
 generalize argE p l k t m=e at *
 refine sound' t_minrevenue_Check (by simp) ?_
 simp[c_minrevenue_Check]
 refine eCall_i ka (by simp) (by simp) ?_
 simp[he,r_minrevenue_Check]
theorem argE_nat (hk:k≤152) (hm:m≤8) (hp:∀ j,j<k→p j<2^m) (hl:∀ j,j<k→l j≤8000000) (ht:∀ i,i<m→t i≤1000000):argE (fun j=>p j) (fun j=>l j) k (fun i=>t i) m=0 :=
 argE_ok (by omega) ⟨fun i hi=>by dsimp only; have:=ht i hi; omega,fun j hj=>by
  dsimp only
  have h1:=hp j hj
  have h2:=hl j hj
  have h3:((p j:Nat):Int)<((2^m:Nat):Int):=by omega
  rw[Int.natCast_pow] at h3
  exact ⟨⟨by omega,h3⟩,by omega,by omega⟩⟩
theorem pow_256 (hm:m≤8) {q:Nat} (h:q<2^m):q<256:=Nat.lt_of_lt_of_le h (Nat.pow_le_pow_right (by omega) hm)
theorem check_s (hk:k≤152) (hm:m≤8) (hp:∀ j,j<k→p j<2^m) (hl:∀ j,j<k→l j≤8000000) (ht:∀ i,i<m→t i≤1000000) (hLb:23≤L∧L≤10000000) (hf:FineT L S Y a X b) :
  SoundCall Try.prog F_minrevenue_Check [nN p l k,nT t m,totA S Y a X b] (iv (mchk p l t k m S Y a X b)):=by
 have hp2:∀ j,j<k→p j<256:=fun j hj=>pow_256 hm (hp j hj)
 have ka:=args_mr (p:=fun j=>p j) (l:=fun j=>l j) (t:=fun i=>t i) (k:=k) (m:=m) (by omega) (by omega)
 rw[argE_nat hk hm hp hl ht] at ka
 have kn1:=nonneg_s (n:=m) hf.la hf.fY
 have kn2:=nonneg_s (n:=k) hf.lb hf.fX
 have kv:=h_valid hf.fS
 by_cases h1:posP Y a m
 rotate_left
 ·rw[posV_false h1] at kn1
  rw[mchk_bad fun h=>h1 h.1]
  refine sound' t_minrevenue_Check (by simp) ?_
  simp[c_minrevenue_Check]
  refine eCall_i ka (by simp) (by simp) ?_
  simp
  refine eCall_i kn1 (by simp) (by simp) ?_
  simp[r_minrevenue_Check]
 rw[posV_true h1] at kn1
 by_cases h2:posP X b k
 rotate_left
 ·rw[posV_false h2] at kn2
  rw[mchk_bad fun h=>h2 h.2.1]
  refine sound' t_minrevenue_Check (by simp) ?_
  simp[c_minrevenue_Check]
  refine eCall_i ka (by simp) (by simp) ?_
  simp
  refine eCall_i kn1 (by simp) (by simp) ?_
  simp
  refine eCall_i kn2 (by simp) (by simp) ?_
  simp[r_minrevenue_Check]
 rw[posV_true h2] at kn2
 cases h3:S.v with
 | false =>
  rw[h3] at kv
  rw[mchk_bad fun h=>by have:=h.2.2.1; rw[h3] at this; cases this]
  refine sound' t_minrevenue_Check (by simp) ?_
  simp[c_minrevenue_Check]
  refine eCall_i ka (by simp) (by simp) ?_
  simp
  refine eCall_i kn1 (by simp) (by simp) ?_
  simp
  refine eCall_i kn2 (by simp) (by simp) ?_
  simp
  refine eCall_i kv (by simp) (by simp) ?_
  simp[r_minrevenue_Check]
 | true =>
  rw[h3] at kv
  rw[tot_q h1 h2 h3]
  rw[posP_fL h1] at kn1
  rw[posP_fL h2] at kn2
  rw[hq_fq h3] at kv
  have rest:=check_good (p:=p) (l:=l) (t:=t) (x:=qq X) (y:=qq Y) (s:=S.q) hk hm hp2 hl ht hLb (fun j hj=>hf.zX j (by rw[h2.1]; exact hj) (h2.2 j hj).1) (fun i hi=>hf.zY i (by rw[h1.1]; exact hi) (h1.2 i hi).1) (hf.zS h3) (fun i hi=>(h1.2 i hi).2)
   (r:=mchk p l t k m S Y a X b) (fun h=>mchk_ok ⟨h1,h2,h3,h.1,h.2.1,h.2.2⟩) (fun h=>mchk_bad fun h'=>h ⟨h'.2.2.2.1,h'.2.2.2.2.1,h'.2.2.2.2.2⟩)
  simp[sec,c_minrevenue_Check] at rest
  refine sound' t_minrevenue_Check (by simp) ?_
  simp[c_minrevenue_Check]
  refine eCall_i ka (by simp) (by simp) ?_
  simp
  refine eCall_i kn1 (by simp) (by simp) ?_
  simp
  refine eCall_i kn2 (by simp) (by simp) ?_
  simp
  refine eCall_i kv (by simp) (by simp) ?_
  simp
  exact rest
theorem RF.of_inj {p q:Rat} (h:RF.of p=RF.of q):p=q:=rat_parts.1 ⟨congrArg RF.s h,congrArg RF.a h,congrArg RF.c h⟩
theorem RF.q_of {q:Rat}:(RF.of q).q=q:=(RF.of_inj (RF.of_q (of_v q))).symm
theorem same_h {q:Rat} (hz:sz 137438953472 q) (_hf:S.fine):SoundCall Try.prog F_p_Same [fq q,hq S] (bv (@decide (S.v=true∧S.q=q) (Classical.propDecidable _))):=by
 obtain ⟨l1,l2⟩:=sz_len hz
 have h:=same_raw (s:=decide (q.num<0)) (t:=S.s) (a:=digs q.num.natAbs) (c:=digs q.den) (a':=S.a) (c':=S.c) (by omega) (by omega)
 have e:@decide (S.v=true∧S.q=q) (Classical.propDecidable _)=decide (decide (q.num<0)=S.s∧digs q.num.natAbs=S.a∧digs q.den=S.c):=by
  rw[decide_eq_decide]
  constructor
  ·rintro ⟨h1,rfl⟩
   have:=RF.of_q h1
   have e1:=congrArg RF.s this
   have e2:=congrArg RF.a this
   have e3:=congrArg RF.c this
   exact ⟨e1.symm,e2.symm,e3.symm⟩
  ·rintro ⟨e1,e2,e3⟩
   have:S=RF.of q:=by cases S; simp only at e1 e2 e3; subst e1 e2 e3; rfl
   rw[this]
   exact ⟨of_v q,RF.q_of⟩
 rw[e]
 unfold fq hq
 rw[fr_eq,hr_eq]
 exact h
theorem bound_bad {p l t:Nat→Int} (hk:k<1000000) (hb:b<1000000) (hX:∀ i,i<b→(X i).fine) (h:¬ (b=k∧∀ i,i<b→(X i).v=true)):SoundCall Try.prog F_ref30_Bound [nL p l k,iL t m,hL X b] (.tuple [.agg zz,bv false]):=by
 have kw:=whole_r hb hX
 refine sound' t_ref30_Bound (by simp) ?_
 by_cases h1:b=k
 rotate_left
 ·have h1':¬ (b:Int)=k:=by omega
  simp[c_ref30_Bound,h1',r_ref30_Bound]
 subst h1
 have hA:allV X b=false:=by
  cases h2:allV X b with
  | false=>rfl
  | true=>exact absurd ⟨rfl,allV_iff.1 h2⟩ h
 rw[hA] at kw
 simp[c_ref30_Bound]
 refine eCall_i kw (by simp) (by simp) ?_
 simp[r_ref30_Bound]
theorem holds_bad {p l t:Nat→Int} (hm:m<1000000) (ha:a<1000000) (hY:∀ i,i<a→(Y i).fine) (h:¬ (a=m∧∀ i,i<a→(Y i).v=true)):SoundCall Try.prog F_ref30_Holds [nL p l k,iL t m,hL Y a] (bv false):=by
 have kw:=whole_r ha hY
 refine sound' t_ref30_Holds (by simp) ?_
 by_cases h1:a=m
 rotate_left
 ·have h1':¬ (a:Int)=m:=by omega
  simp[c_ref30_Holds,h1',r_ref30_Holds]
 subst h1
 have hA:allV Y a=false:=by
  cases h2:allV Y a with
  | false=>rfl
  | true=>exact absurd ⟨rfl,allV_iff.1 h2⟩ h
 rw[hA] at kw
 simp[c_ref30_Holds]
 refine eCall_i kw (by simp) (by simp) ?_
 simp[r_ref30_Holds]
theorem allV_fL (h:a=m∧∀ i,i<a→(Y i).v=true):hL Y a=fL (qq Y) m:=by
 obtain ⟨rfl,h⟩:=h
 unfold hL
 rw[hR_of fun i hi=>RF.of_q (h i hi)]
 rfl
theorem checkr_err {p l t:Nat→Int} (hk:k<2305843009213693952) (hm:m<2305843009213693952) (he:¬ argE p l k t m=0):SoundCall Try.prog F_ref30_Check [nL p l k,iL t m,totA S Y a X b] (iv (argE p l k t m)):=by
 have ka:=fault_r (p:=p) (l:=l) (t:=t) hk hm
 generalize argE p l k t m=e at *
 refine sound' t_ref30_Check (by simp) ?_
 simp[c_ref30_Check]
 refine eCall_i ka (by simp) (by simp) ?_
 simp[he,r_ref30_Check]
theorem check_r (hk:k≤152) (hm:m≤8) (hp:∀ j,j<k→p j<2^m) (hl:∀ j,j<k→l j≤8000000) (ht:∀ i,i<m→t i≤1000000) (hLb:23≤L∧L≤10000000) (hf:FineT L S Y a X b) :
  SoundCall Try.prog F_ref30_Check [nN p l k,nT t m,totA S Y a X b] (iv (mchk p l t k m S Y a X b)):=by
 have hp2:∀ j,j<k→p j<256:=fun j hj=>pow_256 hm (hp j hj)
 have ka:=fault_r (p:=fun j=>p j) (l:=fun j=>l j) (t:=fun i=>t i) (k:=k) (m:=m) (by omega) (by omega)
 rw[argE_nat hk hm hp hl ht] at ka
 -- the prices are wrong
 have bad1:SoundCall Try.prog F_ref30_Bound [nN p l k,nT t m,hL X b] (.tuple [.agg zz,bv false])→mchk p l t k m S Y a X b=13→SoundCall Try.prog F_ref30_Check [nN p l k,nT t m,totA S Y a X b] (iv (mchk p l t k m S Y a X b)):=fun kb hc=>by
  rw[hc]
  refine sound' t_ref30_Check (by simp) ?_
  simp[c_ref30_Check]
  refine eCall_i ka (by simp) (by simp) ?_
  simp
  refine eCall_i kb (by simp) (by simp) ?_
  simp[r_ref30_Check]
 by_cases h1:b=k∧∀ i,i<b→(X i).v=true
 rotate_left
 ·exact bad1 (bound_bad (by omega) hf.lb hf.fX h1) (mchk_bad fun h=>h1 ⟨h.2.1.1,fun i hi=>(h.2.1.2 i (by rw[← h.2.1.1]; exact hi)).1⟩)
 have zx:∀ j,j<k→sz L (qq X j):=fun j hj=>hf.zX j (by rw[h1.1]; exact hj) (h1.2 j (by rw[h1.1]; exact hj))
 have kb:=bound_r (x:=qq X) hk hm hp2 hl ht hLb zx
 rw[← allV_fL h1] at kb
 by_cases h2:∀ j,j<k→0≤qq X j
 rotate_left
 ·exact bad1 (kb.2 h2) (mchk_bad fun h=>h2 fun j hj=>(h.2.1.2 j hj).2)
 have kb:=kb.1 h2
 have hX:posP X b k:=⟨h1.1,fun i hi=>⟨h1.2 i (by rw[h1.1]; exact hi),h2 i hi⟩⟩
 -- the payments are wrong
 have bad2:SoundCall Try.prog F_ref30_Holds [nN p l k,nT t m,hL Y a] (bv false)→mchk p l t k m S Y a X b=13→SoundCall Try.prog F_ref30_Check [nN p l k,nT t m,totA S Y a X b] (iv (mchk p l t k m S Y a X b)):=fun kh hc=>by
  rw[hc]
  refine sound' t_ref30_Check (by simp) ?_
  simp[c_ref30_Check]
  refine eCall_i ka (by simp) (by simp) ?_
  simp
  refine eCall_i kb (by simp) (by simp) ?_
  simp
  refine eCall_i kh (by simp) (by simp) ?_
  simp[r_ref30_Check]
 by_cases h3:a=m∧∀ i,i<a→(Y i).v=true
 rotate_left
 ·exact bad2 (holds_bad (by omega) hf.la hf.fY h3) (mchk_bad fun h=>h3 ⟨h.1.1,fun i hi=>(h.1.2 i (by rw[← h.1.1]; exact hi)).1⟩)
 have zy:∀ i,i<m→sz L (qq Y i):=fun i hi=>hf.zY i (by rw[h3.1]; exact hi) (h3.2 i (by rw[h3.1]; exact hi))
 have kh:=holds_r (p:=p) (l:=l) (t:=t) (y:=qq Y) hk hm hp2 hl ht ⟨hLb.1,by omega⟩ zy
 rw[← allV_fL h3] at kh
 by_cases h4:Pays k m (MB p) (ZR l) (ZR t) (qq Y)
 rotate_left
 ·rw[holdsV_false h4] at kh
  exact bad2 kh (mchk_bad fun h=>h4 h.2.2.2.1)
 rw[holdsV_true h4] at kh
 have hY:posP Y a m:=⟨h3.1,fun i hi=>⟨h3.2 i (by rw[h3.1]; exact hi),(h4.1 i hi).1⟩⟩
 have hLM:m*(L+1)≤8*(L+1):=Nat.mul_le_mul_right _ hm
 have ks:=sum_r (f:=qq Y) (n:=m) (L:=L) (by omega) (by omega) zy
 rw[← allV_fL h3] at ks
 have e1:=same_h (S:=S) (q:=sumR m (qq Y)) (sz_mono (sum_sz zy) (by omega)) hf.fS
 have e2:=same_h (S:=S) (q:=boundR k m (MB p) (ZR l) (ZR t) (qq X)) (sz_mono (by rw[← bdR_all]; exact bd_sz (p:=p) hk hm zx hl ht (Nat.le_refl m)) (by omega)) hf.fS
 by_cases h5:S.v=true∧S.q=sumR m (qq Y)
 rotate_left
 ·rw[@decide_eq_false _ (Classical.propDecidable _) h5] at e1
  rw[mchk_bad fun h=>h5 ⟨h.2.2.1,h.2.2.2.2.1.symm⟩]
  refine sound' t_ref30_Check (by simp) ?_
  simp[c_ref30_Check]
  refine eCall_i ka (by simp) (by simp) ?_
  simp
  refine eCall_i kb (by simp) (by simp) ?_
  simp
  refine eCall_i kh (by simp) (by simp) ?_
  simp
  refine eCall_i ks (by simp) (by simp) ?_
  simp
  refine eCall_i e1 (by simp) (by simp) ?_
  simp[r_ref30_Check]
 rw[@decide_eq_true _ (Classical.propDecidable _) h5] at e1
 have key:∀ r,mchk p l t k m S Y a X b=r→(@decide (S.v=true∧S.q=boundR k m (MB p) (ZR l) (ZR t) (qq X)) (Classical.propDecidable _)=decide (r=0))→(r=0∨r=13)→SoundCall Try.prog F_ref30_Check [nN p l k,nT t m,totA S Y a X b] (iv r):=fun r hr hd h01=>by
  rw[hd] at e2
  refine sound' t_ref30_Check (by simp) ?_
  simp[c_ref30_Check]
  refine eCall_i ka (by simp) (by simp) ?_
  simp
  refine eCall_i kb (by simp) (by simp) ?_
  simp
  refine eCall_i kh (by simp) (by simp) ?_
  simp
  refine eCall_i ks (by simp) (by simp) ?_
  simp
  refine eCall_i e1 (by simp) (by simp) ?_
  simp
  refine eCall_i e2 (by simp) (by simp) ?_
  rcases h01 with rfl | rfl<;>simp[r_ref30_Check]
 by_cases h6:S.v=true∧S.q=boundR k m (MB p) (ZR l) (ZR t) (qq X)
 ·have hok:mchk p l t k m S Y a X b=0:=mchk_ok ⟨hY,hX,h5.1,h4,h5.2.symm,h6.2.symm⟩
  rw[hok]
  exact key 0 hok (by rw[@decide_eq_true _ (Classical.propDecidable _) h6]; rfl) (.inl rfl)
 ·have hok:mchk p l t k m S Y a X b=13:=mchk_bad fun h=>h6 ⟨h.2.2.1,h.2.2.2.2.2.symm⟩
  rw[hok]
  exact key 13 hok (by rw[@decide_eq_false _ (Classical.propDecidable _) h6]; rfl) (.inr rfl)
end
end Go.Proofs.Ytbgnkodhpbkdoaa

namespace Go.Proofs.Ytbgnkodhpbkdoaa
open Go Go.Am Go.Dig Go.LP
section
variable {p l t:Nat→Nat} {k m:Nat}
theorem dual_pA:AV.imp (.agg [plc 3 (fR (mG k (ZR l) (ZR t)) (k+m)),plc 4 (rwZ (cfD p k k) (k+m) m)]) (pA (mA k (MB p)) mOne (mG k (ZR l) (ZR t)) (k+m) m):=by
 have:rwZ (cfD p k k) (k+m) m=pR (mA k (MB p)) mOne (k+m) m:=rfl
 rw[this]
 exact imp_agg (imps_cons (plc_imp impr_refl) (imps_cons (plc_imp impr_refl) imps_nil))
theorem grow23 (hm:m≤8):23≤grow 23 m∧grow 23 m≤1600000:=by
 have h1:=grow_mono (K:=23) hm
 have h2:grow 23 8≤1600000:=by decide
 have h3:23≤grow 23 m:=grow_mono (K:=23) (m:=0) (Nat.zero_le m)
 omega
theorem mA_sz {i j:Nat}:sz 23 (mA k (MB p) i j):=by
 unfold mA
 split
 ·split
  ·exact sz_one
  ·exact sz_zero
 ·split
  ·exact sz_neg sz_one
  ·exact sz_zero
theorem mG_sz (hl:∀ j,j<k→l j≤8000000) (ht:∀ i,i<m→t i≤1000000) {j:Nat} (hj:j<k+m):sz 23 (mG k (ZR l) (ZR t) j):=by
 unfold mG
 split
 ·rename_i h; exact sz_nat (hl j h) (by omega)
 ·exact sz_neg (sz_nat (by have:=ht (j-k) (by omega); omega) (by omega))
theorem goLoad_so {q:Rat} {a x y z:AV}:goLoad [a,f0 q,f1 q,f2 q,x,y,z] 1 (some 3)=some (fq q):=by simp[goLoad]
theorem splice_tot {q:Rat} {a b c d e:AV}:splice [a,b,c,d,e] 0 (fr q)=[f0 q,f1 q,f2 q,d,e]:=by unfold fr; simp[splice,-fr_fold]
def MSol (k m:Nat) (p l t:Nat→Nat) (r:AV):Prop :=
 (∃ x y v,(Opt (k+m) m (mA k (MB p)) mOne (mG k (ZR l) (ZR t)) x y v∧(∀ j,sz (grow 23 m) (x j))∧(∀ i,sz (grow 23 m) (y i))∧sz (grow 23 m) v)∧r=.tuple [.agg [f0 v,f1 v,f2 v,fL y m,.list 3 .full (fR x k)],iv 0]) ∨
 (∃ x ray,Unb (k+m) m (mA k (MB p)) mOne (mG k (ZR l) (ZR t)) x ray∧r=.tuple [.agg [bv false,nilA,nilA,nilA,nilA],iv 6])
theorem fR_takeK {x:Nat→Rat} {a b:Nat} (h:a≤b):(fR x b).take a=fR x a:=by
 unfold fR
 rw[← List.map_take,List.take_range,Nat.min_eq_left h]
theorem msolve_s (hk:k≤152) (hm:m≤8) (hp:∀ j,j<k→p j<2^m) (hl:∀ j,j<k→l j≤8000000) (ht:∀ i,i<m→t i≤1000000) :
  ∃ r,MSol k m p l t r∧SoundCall Try.prog F_minrevenue_Solve [nN p l k,nT t m] r:=by
 have hp2:∀ j,j<k→p j<256:=fun j hj=>pow_256 hm (hp j hj)
 have ka:=args_mr (p:=fun j=>p j) (l:=fun j=>l j) (t:=fun i=>t i) (k:=k) (m:=m) (by omega) (by omega)
 rw[argE_nat hk hm hp hl ht] at ka
 obtain ⟨g1,g2⟩:=grow23 hm
 have hL:grow 23 m+(m+1)*(2*grow 23 m+1)≤10000000000:=by
  have:(m+1)*(2*grow 23 m+1)≤9*(2*1600000+1):=Nat.mul_le_mul (by omega) (by omega)
  omega
 have kc:=check_pA (n:=k+m) (m:=m) (K:=23) (A:=mA k (MB p)) (bb:=mOne) (gg:=mG k (ZR l) (ZR t)) (by omega) (by omega) (by decide) (fun i j _ _=>mA_sz) (fun _ _=>sz_one) (fun j hj=>mG_sz hl ht hj)
 obtain ⟨r,hr,hs⟩:=solve_ex (n:=k+m) (m:=m) (S:=23) (by omega) (by omega) hL (fun i j _ _=>mA_sz) (fun _ _=>sz_one) (fun j hj=>mG_sz hl ht hj) kc
 have kd:=dual_s hk hm hp2 hl ht
 have ks:=imp_arg1 hs (dual_pA (p:=p) (l:=l) (t:=t) (k:=k) (m:=m))
 rcases hr with ⟨x,y,v,ho,rfl⟩ | ⟨y,⟨hi,_⟩,rfl⟩ | ⟨x,ray,⟨hu,_⟩,rfl⟩
 ·refine ⟨_,.inl ⟨x,y,v,ho,rfl⟩,?_⟩
  have e1:(k:Int)≤((k+m:Nat):Int):=by omega
  have ht:=fR_takeK (x:=x) (show k≤k+m by omega)
  obtain ⟨n,hn⟩:∃ n,k+m=n:=⟨_,rfl⟩
  rw[hn] at ks kd e1 ht
  have hkn:k≤n:=by omega
  refine sound' t_minrevenue_Solve (by simp) ?_
  simp[c_minrevenue_Solve]
  refine eCall_i ka (by simp) (by simp) ?_
  simp
  refine eCall_i kd (by simp) (by simp) ?_
  simp
  refine eCall_i ks (by simp) (by simp) ?_
  simp[goLoad_so,e1,ht,splice_tot,r_minrevenue_Solve]
 ·exact absurd (inf_no hi) id
 ·refine ⟨_,.inr ⟨x,ray,hu,rfl⟩,?_⟩
  refine sound' t_minrevenue_Solve (by simp) ?_
  simp[c_minrevenue_Solve]
  refine eCall_i ka (by simp) (by simp) ?_
  simp
  refine eCall_i kd (by simp) (by simp) ?_
  simp
  refine eCall_i ks (by simp) (by simp) ?_
  simp[r_minrevenue_Solve]
end
end Go.Proofs.Ytbgnkodhpbkdoaa

namespace Go.Proofs.Ytbgnkodhpbkdoaa
open Go Go.Am Go.Dig Go.LP
theorem imp_args {f:FuncId} {xs ys:List AV} {r:AV} (h:SoundCall Try.prog f ys r) (hi:imps xs ys):SoundCall Try.prog f xs r:=fun I vs w h1 h2 h3 =>
 h I vs w h1 (by rw[h2,hi.1]) fun i y hy=>by
  have hx:i<xs.length:=by rw[hi.1]; exact (List.getElem?_eq_some_iff.1 hy).1
  exact hi.2 i _ y (getE_of hx) hy _ _ _ (h3 i _ (getE_of hx))
theorem imps1 {a a':AV} (h:AV.imp a a'):imps [a] [a']:=imps_cons h imps_nil
theorem imps2 {a a' b b':AV} (h:AV.imp a a') (h2:AV.imp b b'):imps [a,b] [a',b']:=imps_cons h (imps_cons h2 imps_nil)
theorem imps3 {a a' b b' c c':AV} (h:AV.imp a a') (h2:AV.imp b b') (h3:AV.imp c c'):imps [a,b,c] [a',b',c']:=imps_cons h (imps_cons h2 (imps_cons h3 imps_nil))
section
variable {p l t:Nat→Nat} {k m L:Nat} {x y:Nat→Rat} {v:Rat}
theorem msolve_err {p l t:Nat→Int} (hk:k<2305843009213693952) (hm:m<2305843009213693952) (he:¬ argE p l k t m=0) :
  SoundCall Try.prog F_minrevenue_Solve [nL p l k,iL t m] (.tuple [.agg [bv false,nilA,nilA,nilA,nilA],iv (argE p l k t m)]):=by
 have ka:=args_mr (p:=p) (l:=l) (t:=t) hk hm
 generalize argE p l k t m=e at *
 refine sound' t_minrevenue_Solve (by simp) ?_
 simp[c_minrevenue_Solve]
 refine eCall_i ka (by simp) (by simp) ?_
 simp[he,r_minrevenue_Solve]
theorem tot_of:totA (RF.of v) (fun i=>RF.of (y i)) m (fun j=>RF.of (x j)) k=totQ v y m x k:=by
 unfold totA totQ hL
 rw[hR_of (g:=y) (fun _ _=>rfl),hR_of (g:=x) (fun _ _=>rfl),h0_of,h1_of,h2_of]
theorem fineT_of (hLb:L≤10000000) (hk:k≤152) (hm:m≤8) (hx:∀ j,j<k→sz L (x j)) (hy:∀ i,i<m→sz L (y i)) (hv:sz L v):FineT L (RF.of v) (fun i=>RF.of (y i)) m (fun j=>RF.of (x j)) k :=
 ⟨by omega,by omega,fine_of (by omega) hv,fun i hi=>fine_of (by omega) (hy i hi),fun i hi=>fine_of (by omega) (hx i hi),fun _=>by rw[RF.q_of]; exact sz_mono hv (by omega),fun i hi _=>by rw[RF.q_of]; exact hy i hi,fun i hi _=>by rw[RF.q_of]; exact hx i hi⟩
theorem prov_iff:provP p l t k m (RF.of v) (fun i=>RF.of (y i)) m (fun j=>RF.of (x j)) k↔((∀ i,i<m→0≤y i)∧(∀ j,j<k→0≤x j)∧Pays k m (MB p) (ZR l) (ZR t) y∧sumR m y=v∧boundR k m (MB p) (ZR l) (ZR t) x=v):=by
 have e1:qq (fun i=>RF.of (y i))=y:=funext fun i=>RF.q_of
 have e2:qq (fun i=>RF.of (x i))=x:=funext fun i=>RF.q_of
 unfold provP posP
 rw[e1,e2,RF.q_of]
 constructor
 ·rintro ⟨⟨_,h1⟩,⟨_,h2⟩,_,h3⟩
  exact ⟨fun i hi=>by have:=(h1 i hi).2; rwa [RF.q_of] at this,fun i hi=>by have:=(h2 i hi).2; rwa [RF.q_of] at this,h3⟩
 ·rintro ⟨h1,h2,h3⟩
  exact ⟨⟨rfl,fun i hi=>⟨of_v _,by rw[RF.q_of]; exact h1 i hi⟩⟩,⟨rfl,fun i hi=>⟨of_v _,by rw[RF.q_of]; exact h2 i hi⟩⟩,of_v _,h3⟩
theorem zr0 {i:Nat}:0≤ZR t i:=by
 unfold ZR
 exact_mod_cast Int.natCast_nonneg (t i)
theorem opt_checks (hk:k≤152) (hm:m≤8) (hp:∀ j,j<k→p j<2^m) (hl:∀ j,j<k→l j≤8000000) (ht:∀ i,i<m→t i≤1000000)
  (ho:Opt (k+m) m (mA k (MB p)) mOne (mG k (ZR l) (ZR t)) x y v∧(∀ j,sz (grow 23 m) (x j))∧(∀ i,sz (grow 23 m) (y i))∧sz (grow 23 m) v) :
  SoundCall Try.prog F_ref30_Check [nN p l k,nT t m,totQ v y m x k] (iv 0)∧SoundCall Try.prog F_minrevenue_Check [nN p l k,nT t m,totQ v y m x k] (iv 0):=by
 obtain ⟨g1,g2⟩:=grow23 hm
 obtain ⟨ho,zx,zy,zv⟩:=ho
 obtain ⟨h1,h2,h3⟩:=opt_pays (fun i _=>zr0) ho
 have hf:=fineT_of (L:=grow 23 m) (by omega) hk hm (fun j _=>zx j) (fun i _=>zy i) zv
 have hc:=mchk_ok (prov_iff.2 ⟨fun i _=>ho.y0 i,fun j _=>ho.x0 j,h1,h2,h3⟩)
 have r1:=check_r hk hm hp hl ht ⟨g1,by omega⟩ hf
 have r2:=check_s hk hm hp hl ht ⟨g1,by omega⟩ hf
 rw[hc,tot_of] at r1 r2
 exact ⟨r1,r2⟩
theorem tot_imp {X:Nat→Rat}:AV.imp (.agg [f0 v,f1 v,f2 v,fL y m,.list 3 .full (fR x k)]) (totQ v y m x k) :=
 imp_agg (imps_cons AV.imp.refl (imps_cons AV.imp.refl (imps_cons AV.imp.refl (imps_cons AV.imp.refl (imps_cons imp_full imps_nil)))))
theorem plain_s {a b c:AV} {s1 s2:Nat} {m1 m2:Am.Mode} {r1 r2:List (List AV)} (h:∀ z∈[a,b,c],rf z=true∧strip z=z∧refsTo 1 z=false) (h1:strip (.list s1 m1 r1)=.list s1 m1 r1) (h2:strip (.list s2 m2 r2)=.list s2 m2 r2) :
  SoundCall Try.prog F_law30_plain [.agg [a,b,c,.list s1 m1 r1,.list s2 m2 r2]] (.agg [a,b,c,.list s1 m1 r1,.list s2 m2 r2]):=by
 simp only[List.mem_cons,List.not_mem_nil,or_false,forall_eq_or_imp,forall_eq] at h
 obtain ⟨⟨a1,a2,a3⟩,⟨b1,b2,b3⟩,⟨c1,c2,c3⟩⟩:=h
 have d1:rf (.list s1 m1 r1)=true:=rfl
 have e1:rf (.list s2 m2 r2)=true:=rfl
 refine sound' t_law30_plain (by simp) ?_
 simp[c_law30_plain,a1,a2,b1,b2,c1,c2,a3,b3,c3,d1,h1,h2,e1,goLoad,splice,r_law30_plain]
theorem samefrac_r {K:Nat} {p q:Rat} (hK:K≤137438953472) (hp:sz K p):SoundCall Try.prog F_ref30_SameFrac [fq p,fq q] (bv (decide (p=q))):=by
 refine sound' t_ref30_SameFrac (by simp) ?_
 simp[c_ref30_SameFrac]
 refine eCall_i (same_q (q:=q) hK hp) (by simp) (by simp) ?_
 simp[r_ref30_SameFrac]
end
def pE (j:Nat):Nat:=if j=0 then 1 else if j=1 then 2 else 3
def lE (j:Nat):Nat:=if j=2 then 10 else 4
def tE6 (_:Nat):Nat:=6
theorem needs_s:SoundCall Try.prog F_law30_needs [] (.list 2 .full (needR (fun j=>pE j) (fun j=>lE j) 3)):=by
 have e:needR (fun j=>pE j) (fun j=>lE j) 3=[[iv 1,iv 4],[iv 2,iv 4],[iv 3,iv 10]]:=rfl
 rw[e]
 refine sound' t_law30_needs (by simp) ?_
 simp[c_law30_needs,r_law30_needs]
theorem sum2' {f:Nat→Rat}:sumR 2 f=f 0+f 1:=by simp only[sumR]; grind
theorem ex_pays:Pays 3 2 (MB pE) (ZR lE) (ZR tE6) (fun _=>5):=by
 refine ⟨fun i _=>⟨(by decide +kernel:(0:Rat)≤5),(by decide +kernel:(5:Rat)≤((6:Nat):Int))⟩,fun j hj=>?_⟩
 match j,hj with
 | 0,_=>rw[sum2']; decide +kernel
 | 1,_=>rw[sum2']; decide +kernel
 | 2,_=>rw[sum2']; decide +kernel
end Go.Proofs.Ytbgnkodhpbkdoaa

namespace Go.Proofs.Ytbgnkodhpbkdoaa
open Go Go.Am Go.Dig Go.LP
theorem sz_5:sz 23 5:=⟨by decide,by decide⟩
theorem ex_ok:(∀ j,j<3→pE j<2^2)∧(∀ j,j<3→lE j≤8000000)∧∀ i,i<2→tE6 i≤1000000 :=
 ⟨fun j _=>by
  unfold pE
  split
  ·omega
  ·split<;>omega,fun j _=>by unfold lE; split<;>omega,fun i _=>by unfold tE6; omega⟩
abbrev needsE:AV:=.list 2 .full (needR (fun j=>pE j) (fun j=>lE j) 3)
abbrev mostE:AV:=.list 1 .full [[iv 6],[iv 6]]
theorem most_imp:AV.imp mostE (nT tE6 2):=by
 have e:nT tE6 2=.list 1 .plain [[iv 6],[iv 6]]:=rfl
 rw[e]; exact imp_full
theorem solve1:∃ x y v,v=10∧(Opt (3+2) 2 (mA 3 (MB pE)) mOne (mG 3 (ZR lE) (ZR tE6)) x y v∧(∀ j,sz (grow 23 2) (x j))∧(∀ i,sz (grow 23 2) (y i))∧sz (grow 23 2) v) ∧
  SoundCall Try.prog F_minrevenue_Solve [needsE,mostE] (.tuple [.agg [f0 v,f1 v,f2 v,fL y 2,.list 3 .full (fR x 3)],iv 0]):=by
 obtain ⟨h1,h2,h3⟩:=ex_ok
 obtain ⟨r,hr,hs⟩:=msolve_s (k:=3) (m:=2) (by omega) (by omega) h1 h2 h3
 rcases hr with ⟨x,y,v,ho,rfl⟩ | ⟨x,ray,hu,rfl⟩
 ·refine ⟨x,y,v,?_,ho,imp_args hs (imps2 imp_full most_imp)⟩
  obtain ⟨q1,q2,q3⟩:=opt_pays (fun i _=>zr0) ho.1
  have q4:=bound_le (x:=x) (fun j _=>ho.1.x0 j) ex_pays
  rw[q3,sum2'] at q4
  have q5:=q1.2 2 (by omega)
  rw[sum2'] at q5
  rw[sum2'] at q2
  have e1:MB pE 2 0=true:=by decide
  have e2:MB pE 2 1=true:=by decide
  rw[if_pos e1,if_pos e2,q2] at q5
  have e3:ZR lE 2=10:=rfl
  rw[e3] at q5
  grind
 ·exact absurd (unb_pays hu ex_pays) id
theorem solve2:∃ x y,SoundCall Try.prog F_minrevenue_Solve [nilA,nilA] (.tuple [.agg [f0 0,f1 0,f2 0,fL y 0,.list 3 .full (fR x 0)],iv 0]):=by
 obtain ⟨r,hr,hs⟩:=msolve_s (p:=pE) (l:=lE) (t:=tE6) (k:=0) (m:=0) (by omega) (by omega) (fun j h=>by omega) (fun j h=>by omega) (fun j h=>by omega)
 rcases hr with ⟨x,y,v,ho,rfl⟩ | ⟨x,ray,hu,rfl⟩
 ·have h0:v=0:=by have:=ho.1.vy; exact this.symm
  subst h0
  exact ⟨x,y,imp_args hs (imps2 (AV.imp_nil rfl) (AV.imp_nil rfl))⟩
 ·exact absurd hu.up (by simp[sumR])
theorem solve3:SoundCall Try.prog F_minrevenue_Solve [.list 2 .full [[iv 1,iv 7]],.list 1 .full [[iv 6]]] (.tuple [.agg [bv false,nilA,nilA,nilA,nilA],iv 6]):=by
 obtain ⟨r,hr,hs⟩:=msolve_s (p:=fun _=>1) (l:=fun _=>7) (t:=tE6) (k:=1) (m:=1) (by omega) (by omega) (fun j h=>by decide) (fun j h=>by omega) (fun j h=>by unfold tE6; omega)
 rcases hr with ⟨x,y,v,ho,rfl⟩ | ⟨x,ray,hu,rfl⟩
 ·obtain ⟨q1,q2,q3⟩:=opt_pays (fun i _=>zr0) ho.1
  have a1:y 0≤ZR tE6 0:=(q1.1 0 (by omega)).2
  have a2:=q1.2 0 (by omega)
  have e1:MB (fun _=>1) 0 0=true:=by decide
  simp only[sumR] at a2
  rw[if_pos e1] at a2
  have e2:ZR (fun _=>7) 0=7:=rfl
  have e3:ZR tE6 0=6:=rfl
  rw[e2] at a2
  rw[e3] at a1
  exact absurd a1 (by grind)
 ·exact imp_args hs (imps2 imp_full imp_full)
abbrev nine0:List (List AV):=[[iv 0],[iv 0],[iv 0],[iv 0],[iv 0],[iv 0],[iv 0],[iv 0],[iv 0]]
theorem solve4I {s:St} {K:AV→St→Prop} (h36:lk s.sto 36=some (.arr 1 nine0)) (hf:lk s.sto 5004=none) (h:K (.tuple [.agg [bv false,nilA,nilA,nilA,nilA],iv 3]) ⟨s.env,pt s.sto 5004 (.var [bv false,nilA,nilA,nilA,nilA]),s.out,s.base⟩) :
  CallI Try.prog F_minrevenue_Solve [nilA,.sl 36 1 0 9] s K:=by
 obtain ⟨env,σ,out,base⟩:=s
 simp only at h36 hf h
 have e:argE (fun _=>0) (fun _=>0) 0 (fun _=>0) 9=3:=argE_long (by omega)
 have ka:=args_mr (p:=fun _=>0) (l:=fun _=>0) (t:=fun _=>0) (k:=0) (m:=9) (by omega) (by omega)
 rw[e] at ka
 have ka:SoundCall Try.prog F_minrevenue_arguments [nilA,.list 1 .plain nine0] (iv 3):=imp_args ka (imps2 (AV.imp_nil rfl) AV.imp.refl)
 refine soundI' 5000 t_minrevenue_Solve (by simp) ?_
 simp[c_minrevenue_Solve,hf]
 refine eCall_i ka (by simp[lk_pt,h36]) (by simp) ?_
 simp[r_minrevenue_Solve,splice]
 exact h
theorem solve5:SoundCall Try.prog F_minrevenue_Solve [.list 2 .full [[iv 4,iv 1]],mostE] (.tuple [.agg [bv false,nilA,nilA,nilA,nilA],iv 4]):=by
 have e:argE (fun _=>4) (fun _=>1) 1 (fun i=>tE6 i) 2=4:=argE_bad (by omega) fun h=>by have:=(h.2 0 (by omega)).1.2; exact absurd this (by decide)
 have h:=msolve_err (p:=fun _=>4) (l:=fun _=>1) (t:=fun i=>tE6 i) (k:=1) (m:=2) (by omega) (by omega) (by rw[e]; decide)
 rw[e] at h
 exact imp_args h (imps2 imp_full most_imp)
theorem ok_solve:okFn Try.prog F_minrevenue_Solve=true:=by kernel_rfl
def xE1 (j:Nat):Rat:=if j=2 then 1 else 0
def xE2 (j:Nat):Rat:=if j=2 then 0 else 1
theorem fl5:AV.imp (.list 3 .full [fr 5,fr 5]) (fL (fun _=>5) 2):=by
 have e:fR (fun _=>5) 2=[fr 5,fr 5]:=rfl
 unfold fL
 rw[e]; exact imp_full
theorem checkE {x:Nat→Rat} {r:Int} (hx:∀ j,0≤x j∧sz 23 (x j)) (hr:(boundR 3 2 (MB pE) (ZR lE) (ZR tE6) x=10∧r=0)∨(¬ boundR 3 2 (MB pE) (ZR lE) (ZR tE6) x=10∧r=13)) :
  SoundCall Try.prog F_minrevenue_Check [needsE,mostE,.agg [f0 10,f1 10,f2 10,.list 3 .full [fr 5,fr 5],.list 3 .full (fR x 3)]] (iv r):=by
 obtain ⟨h1,h2,h3⟩:=ex_ok
 have s10:sz 23 10:=⟨by decide,by decide⟩
 have hf:=fineT_of (L:=23) (k:=3) (m:=2) (by omega) (by omega) (by omega) (fun j _=>(hx j).2) (fun i _=>sz_5) s10
 have hc:=check_s (k:=3) (m:=2) (by omega) (by omega) h1 h2 h3 ⟨Nat.le_refl 23,by omega⟩ hf
 have hm:mchk pE lE tE6 3 2 (RF.of 10) (fun _=>RF.of 5) 2 (fun j=>RF.of (x j)) 3=r:=by
  rcases hr with ⟨e,rfl⟩ | ⟨e,rfl⟩
  ·exact mchk_ok (prov_iff.2 ⟨fun _ _=>by decide +kernel,fun j _=>(hx j).1,ex_pays,by rw[sum2']; decide +kernel,e⟩)
  ·exact mchk_bad fun h=>e (prov_iff.1 h).2.2.2.2
 rw[hm,tot_of] at hc
 exact imp_args hc (imps3 imp_full most_imp (imp_agg (imps_cons AV.imp.refl (imps_cons AV.imp.refl (imps_cons AV.imp.refl (imps_cons fl5 (imps_cons imp_full imps_nil)))))))
theorem check3:SoundCall Try.prog F_minrevenue_Check [needsE,mostE,.agg [bv false,nilA,nilA,nilA,nilA]] (iv 13):=by
 obtain ⟨w1,w2,w3⟩:=ex_ok
 have hf:FineT 23 ⟨false,[],[]⟩ (fun _=>⟨false,[],[]⟩) 0 (fun _=>⟨false,[],[]⟩) 0 :=
  ⟨by omega,by omega,⟨by simp[ok],by simp[ok],by simp,by simp⟩,fun i h=>by omega,fun i h=>by omega,fun h=>by
   have e:=congrArg val (congrArg RF.c (RF.of_q h))
   simp only[RF.of,val_digs] at e
   exact absurd e.symm (Rat.den_nz _),fun i h=>by omega,fun i h=>by omega⟩
 have hc:=check_s (k:=3) (m:=2) (by omega) (by omega) w1 w2 w3 ⟨Nat.le_refl 23,by omega⟩ hf
 rw[mchk_bad fun h=>absurd h.1.1 (by omega)] at hc
 have e0:h0 ⟨false,[],[]⟩=bv false:=h0_eq _
 have e1:h1 ⟨false,[],[]⟩=.list 1 .plain []:=h1_eq _
 have e2:h2 ⟨false,[],[]⟩=.list 1 .plain []:=h2_eq _
 refine imp_args hc (imps3 imp_full most_imp ?_)
 unfold totA
 rw[e0,e1,e2]
 exact imp_agg (imps_cons AV.imp.refl (imps_cons (AV.imp_nil rfl) (imps_cons (AV.imp_nil rfl) (imps_cons (AV.imp_nil rfl) (imps_cons (AV.imp_nil rfl) imps_nil)))))
theorem awake_s:SoundCall Try.prog F_law30_awake [] (bv true):=by
 obtain ⟨x,y,v,hv,ho,k1⟩:=solve1
 obtain ⟨x2,y2,k2⟩:=solve2
 obtain ⟨h1,h2,h3⟩:=ex_ok
 have kr:=(opt_checks (k:=3) (m:=2) (by omega) (by omega) h1 h2 h3 ho).1
 have kr:=imp_args kr (imps3 imp_full most_imp (tot_imp (X:=x)))
 subst hv
 have kp:=plain_s (a:=f0 10) (b:=f1 10) (c:=f2 10) (s1:=3) (m1:=.plain) (r1:=fR y 2) (s2:=3) (m2:=.full) (r2:=fR x 3) (fun z hz=>by rcases mem_fr.1 hz with rfl | rfl | rfl<;>simp) rfl rfl
 have i0:SoundCall Try.prog F_p_FromInt [iv 0] (fq 0):=zero_r
 have i1:SoundCall Try.prog F_p_FromInt [iv 1] (fq 1):=fromInt_r (n:=1) (by decide) (by decide)
 have i5:SoundCall Try.prog F_p_FromInt [iv 5] (fq 5):=fromInt_r (n:=5) (by decide) (by decide)
 have i10:SoundCall Try.prog F_p_FromInt [iv 10] (fq 10):=fromInt_r (n:=10) (by decide) (by decide)
 have s1:=samefrac_r (K:=23) (p:=10) (q:=10) (by decide) ⟨by decide,by decide⟩
 have s0:=samefrac_r (K:=23) (p:=0) (q:=0) (by decide) sz_zero
 rw[decide_eq_true rfl] at s1 s0
 have c1:=checkE (x:=xE1) (r:=0) (fun j=>by unfold xE1; split<;>exact ⟨by decide +kernel,by first | exact sz_one | exact sz_zero⟩) (.inl ⟨by decide +kernel,rfl⟩)
 have c2:=checkE (x:=xE2) (r:=13) (fun j=>by unfold xE2; split<;>exact ⟨by decide +kernel,by first | exact sz_one | exact sz_zero⟩) (.inr ⟨by decide +kernel,rfl⟩)
 have f1:fR xE1 3=[fr 0,fr 0,fr 1]:=rfl
 have f2:fR xE2 3=[fr 1,fr 1,fr 0]:=rfl
 rw[f1] at c1
 rw[f2] at c2
 refine sound' t_law30_awake (by simp) ?_
 simp[c_law30_awake]
 refine eCall_i (xs:=[]) (args:=[]) needs_s rfl (.inl rfl) ?_
 simp
 refine eCall_i k1 (by simp) (by simp) ?_
 simp
 refine eCall_i k2 (by simp) (by simp) ?_
 simp
 refine eCall_i solve3 (by simp) (by simp) ?_
 simp[eMk,ok_solve]
 refine eCallI_of (solve4I (by simp) (by simp) ?_)
 simp
 refine eCall_i solve5 (by simp) (by simp) ?_
 simp[eFreeze,frzE_var]
 refine eCall_i i10 (by simp) (by simp) ?_
 simp
 refine eCall_i s1 (by simp) (by simp) ?_
 simp
 refine eCall_i (xs:=[]) (args:=[]) needs_s rfl (.inl rfl) ?_
 simp
 refine eCall_i kp (by simp) (by simp) ?_
 simp
 refine eCall_i kr (by simp) (by simp) ?_
 simp
 refine eCall_i i0 (by simp) (by simp) ?_
 simp
 refine eCall_i s0 (by simp) (by simp) ?_
 simp
 refine eCall_i i5 (by simp) (by simp) ?_
 simp
 refine eCall_i i0 (by simp) (by simp) ?_
 simp
 refine eCall_i i1 (by simp) (by simp) ?_
 simp
 refine eCall_i i10 (by simp) (by simp) ?_
 simp[splice_tot]
 refine eCall_i i10 (by simp) (by simp) ?_
 simp[splice_tot]
 refine eCall_i (xs:=[]) (args:=[]) needs_s rfl (.inl rfl) ?_
 simp
 refine eCall_i c1 (by simp) (by simp) ?_
 simp
 refine eCall_i (xs:=[]) (args:=[]) needs_s rfl (.inl rfl) ?_
 simp
 refine eCall_i c2 (by simp) (by simp) ?_
 simp
 refine eCall_i (xs:=[]) (args:=[]) needs_s rfl (.inl rfl) ?_
 simp
 refine eCall_i check3 (by simp) (by simp) ?_
 simp[r_law30_awake]
end Go.Proofs.Ytbgnkodhpbkdoaa

namespace Go.Proofs.Ytbgnkodhpbkdoaa
open Go Go.Am Go.Dig Go.LP
abbrev tyNeed:Ty:=.st [.int .i64,.int .i64]
abbrev tyTot:Ty:=.st [tyFrac,.slice tyFrac,.slice tyFrac]
theorem needs_of {cs:List AV} (h:TyC (.slice tyNeed) cs):∃ (p l:Nat→Int) (k:Nat),cs=[nL p l k]∧k<2305843009213693952:=by
 obtain ⟨rows,rfl,hl,h⟩:=h
 obtain ⟨L,rfl,h2⟩:=rows_map (fun d:Int × Int=>[iv d.1,iv d.2]) (fun _=>True) (fun r hr=>by
  obtain ⟨a1,b1,rfl,⟨n,rfl,_⟩,a2,b2,rfl,⟨n2,rfl,_⟩,rfl⟩:=hr
  exact ⟨(n,n2),rfl,trivial⟩) h
 refine ⟨fun j=>(L.getD j (0,0)).1,fun j=>(L.getD j (0,0)).2,L.length,?_,by simp[reachBytes] at hl; omega⟩
 have:=mR_list ((0,0):Int × Int) (fun d=>[iv d.1,iv d.2]) L
 unfold nL needR
 rw[this]
 rfl
theorem ints_of {cs:List AV} (h:TyC (.slice (.int .i64)) cs):∃ (t:Nat→Int) (m:Nat),cs=[iL t m]∧m<2305843009213693952:=by
 obtain ⟨rows,rfl,hl,h⟩:=h
 obtain ⟨L,rfl,h2⟩:=rows_map (fun d:Int=>[iv d]) (fun _=>True) (fun r hr=>by
  obtain ⟨n,rfl,_⟩:=hr
  exact ⟨n,rfl,trivial⟩) h
 refine ⟨fun j=>L.getD j 0,L.length,?_,by simp[reachBytes] at hl; omega⟩
 have:=mR_list (0:Int) (fun d=>[iv d]) L
 unfold iL intR
 rw[this]
 rfl
theorem tot_of_ty {x:AV} (h:AVTy tyTot x):∃ (S:RF) (Y:Nat→RF) (a:Nat) (X:Nat→RF) (b:Nat),x=totA S Y a X b∧(a<2305843009213693952∧b<2305843009213693952)∧(ok S.a∧ok S.c) ∧
  (∀ i,i<a→ok (Y i).a∧ok (Y i).c)∧∀ i,i<b→ok (X i).a∧ok (X i).c:=by
 obtain ⟨cs,rfl,a1,b1,rfl,h1,a2,b2,rfl,h2,a3,b3,rfl,h3,rfl⟩:=h
 obtain ⟨S,rfl,hS⟩:=frac_of h1
 obtain ⟨Y,a,rfl,ha,hY⟩:=fracs_of h2
 obtain ⟨X,b,rfl,hb,hX⟩:=fracs_of h3
 exact ⟨S,Y,a,X,b,rfl,⟨ha,hb⟩,hS,hY,hX⟩
theorem nat_args {p l t:Nat→Int} {k m:Nat} (h:argE p l k t m=0):∃ pn ln tn:Nat→Nat,nL p l k=nN pn ln k∧iL t m=nT tn m∧m≤8∧k≤152∧(∀ j,j<k→pn j<2^m)∧(∀ j,j<k→ln j≤8000000)∧∀ i,i<m→tn i≤1000000:=by
 obtain ⟨h1,h2,h3,h4⟩:=argE_zero h
 refine ⟨fun j=>(p j).toNat,fun j=>(l j).toNat,fun i=>(t i).toNat,?_,?_,h1,h2,fun j hj=>?_,fun j hj=>?_,fun i hi=>?_⟩
 ·have:needR p l k=needR (fun j=>((p j).toNat:Int)) (fun j=>((l j).toNat:Int)) k:=mR_congr fun j hj=>by
   have:=h4 j hj
   dsimp only
   rw[Int.toNat_of_nonneg this.1.1,Int.toNat_of_nonneg this.2.1]
  unfold nN nL
  rw[this]
 ·have:intR t m=intR (fun i=>((t i).toNat:Int)) m:=mR_congr fun i hi=>by
   have:=h3 i hi
   dsimp only
   rw[Int.toNat_of_nonneg this.1]
  unfold nT iL
  rw[this]
 ·have:=(h4 j hj).1
  have h5:(((p j).toNat:Nat):Int)<((2^m:Nat):Int):=by rw[Int.toNat_of_nonneg this.1,Int.natCast_pow]; exact this.2
  dsimp only
  omega
 ·have:=(h4 j hj).2
  dsimp only
  omega
 ·have:=h3 i hi
  dsimp only
  omega
def shortP (S:RF) (Y:Nat→RF) (a:Nat) (X:Nat→RF) (b:Nat):Prop:=a≤10∧b≤10∧smallF S 6∧(∀ i,i<a→smallF (Y i) 6)∧∀ i,i<b→smallF (X i) 6
noncomputable def shortV (S:RF) (Y:Nat→RF) (a:Nat) (X:Nat→RF) (b:Nat):Bool:=@decide (shortP S Y a X b) (Classical.propDecidable _)
section
variable {S:RF} {X Y:Nat→RF} {a b:Nat}
theorem shortV_true (h:shortP S Y a X b):shortV S Y a X b=true:=@decide_eq_true _ (Classical.propDecidable _) h
theorem shortV_false (h:¬ shortP S Y a X b):shortV S Y a X b=false:=@decide_eq_false _ (Classical.propDecidable _) h
noncomputable def stSh0 (S:RF) (Y:Nat→RF) (a:Nat) (X:Nat→RF) (b i:Nat):St:={env:=[(1,.ptr 1 0),(3,iv i)],sto:=[(1,.var [h0 S,h1 S,h2 S,hL Y a,hL X b])]}
noncomputable def stSh1 (S:RF) (Y:Nat→RF) (a:Nat) (X:Nat→RF) (b i:Nat):St:={env:=[(1,.ptr 1 0),(4,iv i)],sto:=[(1,.var [h0 S,h1 S,h2 S,hL Y a,hL X b])]}
theorem short_s (ha:a<2305843009213693952) (hb:b<2305843009213693952):SoundCall Try.prog F_law30_short [totA S Y a X b] (bv (shortV S Y a X b)):=by
 refine sound' t_law30_short (by simp) ?_
 by_cases q1:10<a
 ·have q1':(10:Int)<a:=by omega
  rw[shortV_false fun h=>by have:=h.1; omega]
  simp[c_law30_short,q1',r_law30_short]
 have q1':¬ (10:Int)<a:=by omega
 by_cases q2:10<b
 ·have q2':(10:Int)<b:=by omega
  rw[shortV_false fun h=>by have:=h.2.1; omega]
  simp[c_law30_short,q1',q2',r_law30_short]
 have q2':¬ (10:Int)<b:=by omega
 by_cases q3:6<S.a.length
 ·have q3':(6:Int)<S.a.length:=by omega
  rw[shortV_false fun h=>by have:=h.2.2.1.1; omega]
  simp[c_law30_short,q1',q2',h1_eq,q3',r_law30_short]
 have q3':¬ (6:Int)<S.a.length:=by omega
 by_cases q4:6<S.c.length
 ·have q4':(6:Int)<S.c.length:=by omega
  rw[shortV_false fun h=>by have:=h.2.2.1.2; omega]
  simp[c_law30_short,q1',q2',h1_eq,h2_eq,q3',q4',r_law30_short]
 have q4':¬ (6:Int)<S.c.length:=by omega
 simp[c_law30_short,q1',q2',h1_eq,h2_eq,q3',q4']
 refine awp_forW (stSh0 S Y a X b) (fun i=>∀ j,j<i→smallF (Y j) 6) a (by simp[stSh0,h1_eq,h2_eq]) (fun j hj=>by omega) (fun i hi hI=>?_) (fun hI0=>?_)
 ·have e:(i:Int)<a:=by omega
  have w:=wrap_succ (k:=i) (by omega)
  by_cases c1:6<(Y i).a.length
  ·have c1':(6:Int)<(Y i).a.length:=by omega
   rw[shortV_false fun h=>by have:=(h.2.2.2.1 i hi).1; omega]
   simp[c_law30_short_l0,stSh0,e,hi,h1_eq,c1',r_law30_short]
  ·have c1':¬ (6:Int)<(Y i).a.length:=by omega
   by_cases c2:6<(Y i).c.length
   ·have c2':(6:Int)<(Y i).c.length:=by omega
    rw[shortV_false fun h=>by have:=(h.2.2.2.1 i hi).2; omega]
    simp[c_law30_short_l0,stSh0,e,hi,h1_eq,h2_eq,c1',c2',r_law30_short]
   ·have c2':¬ (6:Int)<(Y i).c.length:=by omega
    simp[c_law30_short_l0,stSh0,e,hi,h1_eq,h2_eq,c1',c2',w]
    exact fun j hj=>by
     by_cases e:j=i
     ·subst e; exact ⟨by omega,by omega⟩
     ·exact hI j (by omega)
 ·simp[c_law30_short_l0,stSh0,c_law30_short_k3]
  refine awp_forW (stSh1 S Y a X b) (fun i=>∀ j,j<i→smallF (X j) 6) b (by simp[stSh1]) (fun j hj=>by omega) (fun i hi hI=>?_) (fun hI=>?_)
  ·have e:(i:Int)<b:=by omega
   have w:=wrap_succ (k:=i) (by omega)
   by_cases c1:6<(X i).a.length
   ·have c1':(6:Int)<(X i).a.length:=by omega
    rw[shortV_false fun h=>by have:=(h.2.2.2.2 i hi).1; omega]
    simp[c_law30_short_l1,stSh1,e,hi,h1_eq,c1',r_law30_short]
   ·have c1':¬ (6:Int)<(X i).a.length:=by omega
    by_cases c2:6<(X i).c.length
    ·have c2':(6:Int)<(X i).c.length:=by omega
     rw[shortV_false fun h=>by have:=(h.2.2.2.2 i hi).2; omega]
     simp[c_law30_short_l1,stSh1,e,hi,h1_eq,h2_eq,c1',c2',r_law30_short]
    ·have c2':¬ (6:Int)<(X i).c.length:=by omega
     simp[c_law30_short_l1,stSh1,e,hi,h1_eq,h2_eq,c1',c2',w]
     exact fun j hj=>by
      by_cases e:j=i
      ·subst e; exact ⟨by omega,by omega⟩
      ·exact hI j (by omega)
  ·rw[shortV_true ⟨by omega,by omega,⟨by omega,by omega⟩,hI0,hI⟩]
   simp[c_law30_short_l1,stSh1,c_law30_short_k2,r_law30_short]
theorem fineT_short (h:shortP S Y a X b) (hS:ok S.a∧ok S.c) (hY:∀ i,i<a→ok (Y i).a∧ok (Y i).c) (hX:∀ i,i<b→ok (X i).a∧ok (X i).c):FineT 192 S Y a X b:=by
 obtain ⟨h1,h2,h3,h4,h5⟩:=h
 have key:∀ {x:RF},smallF x 6→x.v=true→sz 192 x.q:=fun hs hv=>sz_small (D:=6) hs (RF.of_q hv)
 exact ⟨by omega,by omega,fine_small hS h3 (by decide),fun i hi=>fine_small (hY i hi) (h4 i hi) (by decide),fun i hi=>fine_small (hX i hi) (h5 i hi) (by decide),
  fun hv=>sz_mono (key h3 hv) (by decide),fun i hi hv=>key (h4 i hi) hv,fun i hi hv=>key (h5 i hi) hv⟩
end
end Go.Proofs.Ytbgnkodhpbkdoaa

namespace Go.Proofs.Ytbgnkodhpbkdoaa
open Go Go.Am Go.Dig Go.LP
section
variable {p l t:Nat→Int} {k m a b n:Nat} {S:RF} {X Y Q:Nat→RF}
theorem plain_tot:SoundCall Try.prog F_law30_plain [totA S Y a X b] (totA S Y a X b) :=
 plain_s (a:=h0 S) (b:=h1 S) (c:=h2 S) (fun z hz=>by
  simp only[List.mem_cons,List.not_mem_nil,or_false] at hz
  rcases hz with rfl | rfl | rfl<;>simp) rfl rfl
theorem law_mchecks (hk:k<2305843009213693952) (hm:m<2305843009213693952) (ha:a<2305843009213693952) (hb:b<2305843009213693952) (hS:ok S.a∧ok S.c) (hY:∀ i,i<a→ok (Y i).a∧ok (Y i).c) (hX:∀ i,i<b→ok (X i).a∧ok (X i).c) :
  SoundCall Try.prog F_law30_MinrevenueChecks [nL p l k,iL t m,totA S Y a X b] (bv true):=by
 by_cases q1:10<k
 ·have q1':(10:Int)<k:=by omega
  refine sound' t_law30_MinrevenueChecks (by simp) ?_
  simp[c_law30_MinrevenueChecks,q1']
  refine eCall_i (xs:=[]) (args:=[]) awake_s rfl (.inl rfl) ?_
  simp[r_law30_MinrevenueChecks]
 have q1':¬ (10:Int)<k:=by omega
 by_cases q2:10<m
 ·have q2':(10:Int)<m:=by omega
  refine sound' t_law30_MinrevenueChecks (by simp) ?_
  simp[c_law30_MinrevenueChecks,q1',q2']
  refine eCall_i (xs:=[]) (args:=[]) awake_s rfl (.inl rfl) ?_
  simp[r_law30_MinrevenueChecks]
 have q2':¬ (10:Int)<m:=by omega
 have ks:=short_s (S:=S) (Y:=Y) (X:=X) ha hb
 by_cases hs:shortP S Y a X b
 rotate_left
 ·rw[shortV_false hs] at ks
  refine sound' t_law30_MinrevenueChecks (by simp) ?_
  simp[c_law30_MinrevenueChecks,q1',q2']
  refine eCall_i ks (by simp) (by simp) ?_
  simp
  refine eCall_i (xs:=[]) (args:=[]) awake_s rfl (.inl rfl) ?_
  simp[r_law30_MinrevenueChecks]
 rw[shortV_true hs] at ks
 have hf:=fineT_short hs hS hY hX
 have kp:=plain_tot (S:=S) (Y:=Y) (a:=a) (X:=X) (b:=b)
 obtain ⟨e,k1,k2⟩:∃ e,SoundCall Try.prog F_minrevenue_Check [nL p l k,iL t m,totA S Y a X b] (iv e)∧SoundCall Try.prog F_ref30_Check [nL p l k,iL t m,totA S Y a X b] (iv e):=by
  by_cases he:argE p l k t m=0
  ·obtain ⟨pn,ln,tn,e1,e2,g1,g2,g3,g4,g5⟩:=nat_args he
   rw[e1,e2]
   exact ⟨_,check_s g2 g1 g3 g4 g5 ⟨by decide,by decide⟩ hf,check_r g2 g1 g3 g4 g5 ⟨by decide,by decide⟩ hf⟩
  ·exact ⟨_,check_err hk hm he,checkr_err hk hm he⟩
 refine sound' t_law30_MinrevenueChecks (by simp) ?_
 simp[c_law30_MinrevenueChecks,q1',q2']
 refine eCall_i ks (by simp) (by simp) ?_
 simp
 refine eCall_i k1 (by simp) (by simp) ?_
 simp
 refine eCall_i kp (by simp) (by simp) ?_
 simp
 refine eCall_i k2 (by simp) (by simp) ?_
 simp
 refine eCall_i (xs:=[]) (args:=[]) awake_s rfl (.inl rfl) ?_
 simp[r_law30_MinrevenueChecks]
theorem law_mbounds (hk:k<2305843009213693952) (hm:m<2305843009213693952) (ha:a<2305843009213693952) (hb:b<2305843009213693952) (hn:n<2305843009213693952) (hS:ok S.a∧ok S.c) (hY:∀ i,i<a→ok (Y i).a∧ok (Y i).c) (hX:∀ i,i<b→ok (X i).a∧ok (X i).c)
  (hQ:∀ i,i<n→ok (Q i).a∧ok (Q i).c):SoundCall Try.prog F_law30_MinrevenueBounds [nL p l k,iL t m,totA S Y a X b,hL Q n] (bv true):=by
 by_cases q1:10<k
 ·have q1':(10:Int)<k:=by omega
  refine sound' t_law30_MinrevenueBounds (by simp) ?_
  simp[c_law30_MinrevenueBounds,q1']
  refine eCall_i (xs:=[]) (args:=[]) awake_s rfl (.inl rfl) ?_
  simp[r_law30_MinrevenueBounds]
 have q1':¬ (10:Int)<k:=by omega
 by_cases q2:10<m
 ·have q2':(10:Int)<m:=by omega
  refine sound' t_law30_MinrevenueBounds (by simp) ?_
  simp[c_law30_MinrevenueBounds,q1',q2']
  refine eCall_i (xs:=[]) (args:=[]) awake_s rfl (.inl rfl) ?_
  simp[r_law30_MinrevenueBounds]
 have q2':¬ (10:Int)<m:=by omega
 have ks:=short_s (S:=S) (Y:=Y) (X:=X) ha hb
 by_cases hs:shortP S Y a X b
 rotate_left
 ·rw[shortV_false hs] at ks
  refine sound' t_law30_MinrevenueBounds (by simp) ?_
  simp[c_law30_MinrevenueBounds,q1',q2']
  refine eCall_i ks (by simp) (by simp) ?_
  simp
  refine eCall_i (xs:=[]) (args:=[]) awake_s rfl (.inl rfl) ?_
  simp[r_law30_MinrevenueBounds]
 rw[shortV_true hs] at ks
 have hf:=fineT_short hs hS hY hX
 have kq:=short_s (S:=⟨false,[],[]⟩) (Y:=Q) (a:=n) (X:=fun _=>⟨false,[],[]⟩) (b:=0) hn (by omega)
 have e0:h0 ⟨false,[],[]⟩=bv false:=h0_eq _
 have e1:h1 ⟨false,[],[]⟩=.list 1 .plain []:=h1_eq _
 have e2:h2 ⟨false,[],[]⟩=.list 1 .plain []:=h2_eq _
 unfold totA at kq
 rw[e0,e1,e2] at kq
 have kq:SoundCall Try.prog F_law30_short [.agg [bv false,nilA,nilA,hL Q n,nilA]] _:=imp_args kq (imps1 (imp_agg (imps_cons AV.imp.refl (imps_cons (AV.imp_nil rfl) (imps_cons (AV.imp_nil rfl) (imps_cons AV.imp.refl (imps_cons (AV.imp_nil rfl) imps_nil)))))))
 by_cases hsq:shortP ⟨false,[],[]⟩ Q n (fun _=>⟨false,[],[]⟩) 0
 rotate_left
 ·rw[shortV_false hsq] at kq
  refine sound' t_law30_MinrevenueBounds (by simp) ?_
  simp[c_law30_MinrevenueBounds,q1',q2']
  refine eCall_i ks (by simp) (by simp) ?_
  simp[splice]
  refine eCall_i kq (by simp) (by simp) ?_
  simp
  refine eCall_i (xs:=[]) (args:=[]) awake_s rfl (.inl rfl) ?_
  simp[r_law30_MinrevenueBounds]
 rw[shortV_true hsq] at kq
 have bad:∀ e,¬ e=0→SoundCall Try.prog F_minrevenue_Check [nL p l k,iL t m,totA S Y a X b] (iv e)→SoundCall Try.prog F_law30_MinrevenueBounds [nL p l k,iL t m,totA S Y a X b,hL Q n] (bv true):=fun e he k1=>by
  refine sound' t_law30_MinrevenueBounds (by simp) ?_
  simp[c_law30_MinrevenueBounds,q1',q2']
  refine eCall_i ks (by simp) (by simp) ?_
  simp[splice]
  refine eCall_i kq (by simp) (by simp) ?_
  simp
  refine eCall_i k1 (by simp) (by simp) ?_
  simp[he]
  refine eCall_i (xs:=[]) (args:=[]) awake_s rfl (.inl rfl) ?_
  simp[r_law30_MinrevenueBounds]
 by_cases he:argE p l k t m=0
 rotate_left
 ·exact bad _ he (check_err hk hm he)
 obtain ⟨pn,ln,tn,e1,e2,g1,g2,g3,g4,g5⟩:=nat_args he
 have g3':∀ j,j<k→pn j<256:=fun j hj=>pow_256 g1 (g3 j hj)
 rw[e1,e2] at bad ⊢
 have k1:=check_s g2 g1 g3 g4 g5 ⟨by decide,by decide⟩ hf
 by_cases hp:provP pn ln tn k m S Y a X b
 rotate_left
 ·rw[mchk_bad hp] at k1
  exact bad 13 (by decide) k1
 rw[mchk_ok hp] at k1
 obtain ⟨hpY,hpX,hSv,hP,hsum,hbd⟩:=hp
 have bad2:SoundCall Try.prog F_ref30_Holds [nN pn ln k,nT tn m,hL Q n] (bv false)→SoundCall Try.prog F_law30_MinrevenueBounds [nN pn ln k,nT tn m,totA S Y a X b,hL Q n] (bv true):=fun kh=>by
  refine sound' t_law30_MinrevenueBounds (by simp) ?_
  simp[c_law30_MinrevenueBounds,q1',q2']
  refine eCall_i ks (by simp) (by simp) ?_
  simp[splice]
  refine eCall_i kq (by simp) (by simp) ?_
  simp
  refine eCall_i k1 (by simp) (by simp) ?_
  simp
  refine eCall_i kh (by simp) (by simp) ?_
  simp
  refine eCall_i (xs:=[]) (args:=[]) awake_s rfl (.inl rfl) ?_
  simp[r_law30_MinrevenueBounds]
 have n10:n≤10:=hsq.1
 have fQ:∀ i,i<n→(Q i).fine:=fun i hi=>fine_small (hQ i hi) (hsq.2.2.2.1 i hi) (by decide)
 by_cases hv:n=m∧∀ i,i<n→(Q i).v=true
 rotate_left
 ·exact bad2 (holds_bad (by omega) (by omega) fQ hv)
 have zq:∀ i,i<m→sz 192 (qq Q i):=fun i hi=>sz_small (D:=6) (hsq.2.2.2.1 i (by rw[hv.1]; exact hi)) (RF.of_q (hv.2 i (by rw[hv.1]; exact hi)))
 have kh:=holds_r (p:=pn) (l:=ln) (t:=tn) (y:=qq Q) g2 g1 g3' g4 g5 ⟨by decide,by decide⟩ zq
 rw[← allV_fL hv] at kh
 by_cases hh:Pays k m (MB pn) (ZR ln) (ZR tn) (qq Q)
 rotate_left
 ·rw[holdsV_false hh] at kh
  exact bad2 kh
 rw[holdsV_true hh] at kh
 have hLM:m*(192+1)≤8*(192+1):=Nat.mul_le_mul_right _ g1
 have kS:=sum_r (f:=qq Q) (n:=m) (L:=192) (by omega) (by omega) zq
 rw[← allV_fL hv] at kS
 have kc:=cmp_r (K:=137438953472) (by omega) (hf.zS hSv) (sz_mono (sum_sz zq) (by omega))
 rw[← hq_fq hSv] at kc
 have hle:cmpR S.q (sumR m (qq Q))≤0:=by
  have h1:=bound_le (x:=qq X) (fun j hj=>(hpX.2 j hj).2) hh
  rw[hbd] at h1
  have:¬ 0<cmpR S.q (sumR m (qq Q)):=fun h=>by have:=cmpR_gt.1 h; grind
  omega
 refine sound' t_law30_MinrevenueBounds (by simp) ?_
 simp[c_law30_MinrevenueBounds,q1',q2']
 refine eCall_i ks (by simp) (by simp) ?_
 simp[splice]
 refine eCall_i kq (by simp) (by simp) ?_
 simp
 refine eCall_i k1 (by simp) (by simp) ?_
 simp
 refine eCall_i kh (by simp) (by simp) ?_
 simp
 refine eCall_i kS (by simp) (by simp) ?_
 simp
 refine eCall_i kc (by simp) (by simp) ?_
 simp[hle]
 refine eCall_i (xs:=[]) (args:=[]) awake_s rfl (.inl rfl) ?_
 simp[r_law30_MinrevenueBounds]
end
theorem minrevenueChecks_contract (xs:List AV) (h:TyAll [.slice tyNeed,.slice (.int .i64),tyTot] xs):SoundCall Try.prog F_law30_MinrevenueChecks xs (bv true):=by
 obtain ⟨x,y,z,rfl,h1,h2,h3⟩:=TyAll_three h
 obtain ⟨p,l,k,e1,hk⟩:=needs_of h1
 obtain ⟨t,m,e2,hm⟩:=ints_of h2
 obtain ⟨S,Y,a,X,b,rfl,⟨ha,hb⟩,hS,hY,hX⟩:=tot_of_ty h3
 cases e1
 cases e2
 exact law_mchecks hk hm ha hb hS hY hX
theorem minrevenueBounds_contract (xs:List AV) (h:TyAll [.slice tyNeed,.slice (.int .i64),tyTot,.slice tyFrac] xs):SoundCall Try.prog F_law30_MinrevenueBounds xs (bv true):=by
 obtain ⟨x,y,z,u,rfl,h1,h2,h3,h4⟩:=TyAll_four h
 obtain ⟨p,l,k,e1,hk⟩:=needs_of h1
 obtain ⟨t,m,e2,hm⟩:=ints_of h2
 obtain ⟨S,Y,a,X,b,rfl,⟨ha,hb⟩,hS,hY,hX⟩:=tot_of_ty h3
 obtain ⟨Q,n,e4,hn,hQ⟩:=fracs_of h4
 cases e1
 cases e2
 cases e4
 exact law_mbounds hk hm ha hb hn hS hY hX hQ
end Go.Proofs.Ytbgnkodhpbkdoaa
