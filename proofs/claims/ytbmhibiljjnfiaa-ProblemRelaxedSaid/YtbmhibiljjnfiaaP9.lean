/- What the proof rests on, part 9: Q7 Q8 Q9 LC QA QB QC IM PD QD QE BT QF N1 N2 N3c Dig2 N4f N5 Dig3 Dig4 N6 N7 N8 N9 N10 Dig5 N11 N6b N12 N13 N14 F1 F3f F5 FR. -/
import Derived.Test.YtbmhibiljjnfiaaP8
set_option maxRecDepth 100000
set_option maxHeartbeats 4000000
namespace Go.Proofs.Ytbmhibiljjnfiaa
open Go Go.Am Go.Pb
theorem key7 {k:List Int} (h:k.length=7):∃ a b c d e f g,k=[a,b,c,d,e,f,g]:=by
 match k,h with
 | [a,b,c,d,e,f,g],_=>exact ⟨a,b,c,d,e,f,g,rfl⟩
theorem keyChk (b:Bool) (a0 a1 a2 a3 a4 a5 a6:Int):semPure Try.prog (Instr.checkKey b 10000 T_problem_key (keyV [a0,a1,a2,a3,a4,a5,a6]))=some ():=by kernel_rfl
theorem keyT_ok {t:TypeId}:KeyT Try.prog t T_problem_key 7 where
 kd:=kd_problem_key
 ag:=by kernel_rfl
 chk:=fun b k h=>by
  obtain ⟨a0,a1,a2,a3,a4,a5,a6,rfl⟩:=key7 h
  exact keyChk b a0 a1 a2 a3 a4 a5 a6
def keyO (o:Of):List Int:=o.b::bI o.w
theorem keyO_len {o:Of}:(keyO o).length=7:=rfl
theorem keyO_eq {o u:Of}:keyO o=keyO u↔sameO o u:=by
 unfold keyO sameO
 rw[List.cons.injEq,bI_eq]
def seenE (L:List Of):Ents:=L.map fun o=>(keyO o,.bool true)
theorem seenE_keys {L:List Of}:keysN 7 (seenE L):=fun x hx=>by
 obtain ⟨o,_,rfl⟩:=List.mem_map.1 hx
 exact keyO_len
theorem seenE_find {o:Of}:∀ {L:List Of},findL (keyO o) (seenE L)=if ∃ u∈L,sameO u o then some (.bool true) else none
 | []=>by simp[seenE,findL]
 | u::L=>by
  have ih:=seenE_find (o:=o) (L:=L)
  unfold seenE at ih ⊢
  rw[List.map_cons,findL,ih]
  by_cases h:keyO o=keyO u
  ·rw[if_pos h,if_pos ⟨u,by simp,keyO_eq.1 h.symm⟩]
  ·rw[if_neg h]
   by_cases h2:∃ u∈L,sameO u o
   ·obtain ⟨x,h3,h4⟩:=h2
    rw[if_pos ⟨x,h3,h4⟩,if_pos ⟨x,by simp[h3],h4⟩]
   ·rw[if_neg h2,if_neg]
    rintro ⟨x,h3,h4⟩
    rcases List.mem_cons.1 h3 with rfl | h3
    ·exact h (keyO_eq.2 h4).symm
    ·exact h2 ⟨x,h3,h4⟩
@[irreducible] def kC (o:Of):List AV:=(keyO o).map iv
theorem kC_eq (o:Of):kC o=[iv o.b,iv (o.w 0),iv (o.w 1),iv (o.w 2),iv (o.w 3),iv (o.w 4),iv (o.w 5)]:=by unfold kC; rfl
section
variable {o:Of} {k l:Nat}
@[simp] theorem kC_len:(kC o).length=7:=by rw[kC_eq]; rfl
@[simp] theorem kC_rf:(kC o).all rf=true:=by rw[kC_eq]; rfl
@[simp] theorem kC_mem_rf:(∀ x,x∈kC o→rf x=true)=True:=eq_true fun x h=>List.all_eq_true.1 kC_rf x h
@[simp] theorem kC_strip:(kC o).map strip=kC o:=by rw[kC_eq]; rfl
@[simp] theorem kC_dg:(kC o).map (dg l)=kC o:=by rw[kC_eq]; simp
@[simp] theorem kC_ref:anyRef k (kC o)=false:=by rw[kC_eq]; simp
@[simp] theorem goLoad_kC:goLoad (kC o) 0 (some 7)=some (.agg (kC o)):=by rw[goLoad_all kC_len kC_rf,kC_strip]
@[simp] theorem kC_build:splice [AV.val (Value.int IntKind.i64 o.b),AV.val (Value.int IntKind.i64 0),AV.val (Value.int IntKind.i64 0),AV.val (Value.int IntKind.i64 0),AV.val (Value.int IntKind.i64 0),AV.val (Value.int IntKind.i64 0),AV.val (Value.int IntKind.i64 0)] 1 (bC o.w)=kC o:=by
 rw[kC_eq,bC_eq]; rfl
end
noncomputable def boolT:TypeId:=match Try.prog.underlying T_mapaproblem_key_bool with
 | some (.map _ e)=>e
 | _=>0
theorem ckM:Try.prog.underlying T_mapaproblem_key_bool=some (.map T_problem_key boolT):=by kernel_rfl
theorem ckZ:semPure Try.prog (zeroValue boolT)=some (.bool false):=by kernel_rfl
theorem look_k {σ:Nat→Option Entry} {K:AV→Option Entry→Prop} {L:List Of} {o:Of} {c:Nat} (hs:σ 17=some (.map (mapA (seenE L)) c)) :
  eLookup Try.prog T_mapaproblem_key_bool false σ [.mp 17,.agg (kC o)] K=K (bv (decide (∃ u∈L,sameO u o))) none:=by
 have e:kC o=(keyO o).map iv:=by unfold kC; rfl
 rw[e,eLookup_ints keyT_ok ckM ckZ hs keyO_len seenE_keys,seenE_find]
 by_cases h:∃ u∈L,sameO u o
 ·rw[if_pos h,decide_eq_true h]; rfl
 ·rw[if_neg h,decide_eq_false h]; rfl
theorem set_k {s:St} {KS:St→Prop} {L:List Of} {o:Of} (hs:lk s.sto 17=some (.map (mapA (seenE L)) (seenE L).length)) (hn:¬ ∃ u∈L,sameO u o) :
  eMapset Try.prog T_mapaproblem_key_bool s none KS [.mp 17,.agg (kC o),.val (.bool true)]=KS {s with sto:=pt s.sto 17 (.map (mapA (seenE (L++[o]))) (seenE (L++[o])).length)}:=by
 have e:kC o=(keyO o).map iv:=by unfold kC; rfl
 have e2:setL (keyO o) (.bool true) (seenE L)=seenE (L++[o]):=by
  rw[setL_none (by rw[seenE_find,if_neg hn])]
  simp[seenE]
 rw[e,eMapset_ints keyT_ok ckM hs keyO_len seenE_keys rfl,e2]
 simp
section
variable {P:Pb} {r n:Nat} {o:Of} {L:List Of}
def stCk (P:Pb) (k:Nat):St:={env:=[(3,.ptr 3 0),(5,.mp 17),(19,ofA P.of),(20,iv P.of.length),(21,iv k)],sto:=[(3,.var (pbC P)),(17,.map (mapA (seenE (P.of.take k))) (seenE (P.of.take k)).length)]}
theorem check_s (hn:P.cl.length≤1000) (hk:P.of.length≤1000000):SoundCall Try.prog F_problem_Check [.agg (pbC P)] (iv P.chk):=by
 refine sound' t_problem_Check (by simp) ?_
 simp[c_problem_Check]
 refine eCall_i (frame_s (P:=P)) (by simp) (by simp) ?_
 unfold Pb.chk
 by_cases c1:P.frameE=0
 ·rw[if_pos c1]
  simp[c1]
  refine awp_forW (stCk P) (fun k=>P.chkL k=0) P.of.length (by simp[stCk,seenE,mapA,entL]) rfl (fun k hk' hI=>?_) (fun hI=>?_)
  ·have e:(k:Int)<P.of.length:=by omega
   have hg:P.of[k]?=some P.of[k]:=by simp[hk']
   have w1:=wrap_succ (k:=k) (by omega)
   obtain ⟨o,ho⟩:∃ o,P.of[k]=o:=⟨_,rfl⟩
   rw[ho] at hg
   simp[c_problem_Check_l0,stCk,e,hk',ho]
   refine eCall_i (offer_s (P:=P) (o:=o) hn) (by simp) (by simp) ?_
   by_cases d:P.offE o=0
   ·simp[d]
    rw[look_k (L:=P.of.take k) (c:=(seenE (P.of.take k)).length) (by simp)]
    by_cases d2:∃ u∈P.of.take k,sameO u o
    ·have hi:P.offI k o=7:=by unfold Pb.offI; rw[if_neg (fun h=>h d),if_pos d2]
     rw[chkL_first hI hg (by rw[hi]; decide) hk',hi]
     rw[decide_eq_true d2]
     simp[r_problem_Check]
    ·have hi:P.offI k o=0:=by unfold Pb.offI; rw[if_neg (fun h=>h d),if_neg d2]
     have hx:=chkL_next hI hg hi
     rw[decide_eq_false d2]
     simp
     rw[set_k (L:=P.of.take k) (by simp) d2,← take_succ' hg]
     simp[w1,hx,stCk]
   ·have hi:P.offI k o=P.offE o:=by unfold Pb.offI; rw[if_pos d]
    rw[chkL_first hI hg (by rw[hi]; exact d) hk',hi]
    simp[d,r_problem_Check]
  ·rw[hI]
   simp[c_problem_Check_l0,stCk,c_problem_Check_k1,r_problem_Check]
 ·rw[if_neg c1]
  simp[c1,r_problem_Check]
end
end Go.Proofs.Ytbmhibiljjnfiaa

namespace Go.Proofs.Ytbmhibiljjnfiaa
open Go Go.Am Go.Pb
def cmpI (a b:Int):Int:=if a<b then -1 else if b<a then 1 else 0
def cmpL:List Int→List Int→Int
 | [],[]=>0
 | [],_::_=>-1
 | _::_,[]=>1
 | a::l,b::m=>if cmpI a b=0 then cmpL l m else cmpI a b
theorem nan_s {a:Int}:SoundCall Try.prog F_cmp_isNaNaint_ [iv a] (bv false):=by
 refine sound' t_cmp_isNaNaint_ (by simp) ?_
 simp[c_cmp_isNaNaint_,r_cmp_isNaNaint_]
theorem icmp_s {a b:Int}:SoundCall Try.prog F_cmp_Compareaint_ [iv a,iv b] (iv (cmpI a b)):=by
 refine sound' t_cmp_Compareaint_ (by simp) ?_
 simp[c_cmp_Compareaint_]
 refine eCall_i (nan_s (a:=a)) (by simp) (by simp) ?_
 simp
 refine eCall_i (nan_s (a:=b)) (by simp) (by simp) ?_
 unfold cmpI
 by_cases c1:a<b
 ·simp[c1,r_cmp_Compareaint_]
 ·by_cases c2:b<a
  ·simp[c1,c2,r_cmp_Compareaint_]
  ·simp[c1,c2,r_cmp_Compareaint_]
section
variable {a b:List Int} {k:Nat}
theorem drop_cons' (h:k<a.length):a.drop k=a[k]::a.drop (k+1):=List.drop_eq_getElem_cons h
theorem cmpL_step (ha:k<a.length) (hb:k<b.length):cmpL (a.drop k) (b.drop k)=if cmpI a[k] b[k]=0 then cmpL (a.drop (k+1)) (b.drop (k+1)) else cmpI a[k] b[k]:=by
 rw[drop_cons' ha,drop_cons' hb,cmpL]
theorem cmpL_end (ha:k<a.length) (hb:b.length≤k):cmpL (a.drop k) (b.drop k)=1:=by
 rw[drop_cons' ha,List.drop_of_length_le hb,cmpL]
theorem cmpL_out (hb:a.length≤b.length):cmpL (a.drop a.length) (b.drop a.length)=if a.length<b.length then -1 else 0:=by
 rw[List.drop_of_length_le (Nat.le_refl _)]
 by_cases h:a.length<b.length
 ·rw[drop_cons' h,if_pos h,cmpL]
 ·rw[List.drop_of_length_le (by omega),if_neg h,cmpL]
def stCp (a b:List Int) (k:Nat):St:={env:=[(0,clA a),(1,clA b),(9,clA a),(10,iv a.length),(11,iv k)],sto:=[]}
theorem scmp_s (ha:a.length≤1000000) (_hb:b.length≤1000000):SoundCall Try.prog F_slices_Compareasl_int_int_ [clA a,clA b] (iv (cmpL a b)):=by
 refine sound' t_slices_Compareasl_int_int_ (by simp) ?_
 simp[c_slices_Compareasl_int_int_]
 refine awp_forW (stCp a b) (fun k=>k≤b.length∧cmpL a b=cmpL (a.drop k) (b.drop k)) a.length (by simp[stCp]) ⟨by omega,rfl⟩ (fun k hk hI=>?_) (fun hI=>?_)
 ·have e:(k:Int)<a.length:=by omega
  have w1:=wrap_succ (k:=k) (by omega)
  by_cases c1:k<b.length
  ·have e2:¬ (b.length:Int)≤k:=by omega
   have hs:=cmpL_step hk c1
   simp[c_slices_Compareasl_int_int__l0,stCp,e,hk,e2,c1]
   refine eCall_i (icmp_s (a:=a[k]) (b:=b[k])) (by simp) (by simp) ?_
   by_cases c2:cmpI a[k] b[k]=0
   ·rw[if_pos c2] at hs
    have hx:cmpL a b=cmpL (a.drop (k+1)) (b.drop (k+1)):=by rw[hI.2,hs]
    simp[c2,w1,stCp,hx]
    omega
   ·rw[if_neg c2] at hs
    rw[hI.2,hs]
    simp[c2,r_slices_Compareasl_int_int_]
  ·have e2:(b.length:Int)≤k:=by omega
   rw[hI.2,cmpL_end hk (by omega)]
   simp[c_slices_Compareasl_int_int__l0,stCp,e,hk,e2,r_slices_Compareasl_int_int_]
 ·rw[hI.2,cmpL_out hI.1]
  by_cases c:a.length<b.length
  ·simp[c_slices_Compareasl_int_int__l0,stCp,c_slices_Compareasl_int_int__k1,c,r_slices_Compareasl_int_int_]
  ·simp[c_slices_Compareasl_int_int__l0,stCp,c_slices_Compareasl_int_int__k1,c,r_slices_Compareasl_int_int_]
theorem pcmp_s (ha:a.length≤1000000) (hb:b.length≤1000000):SoundCall Try.prog F_problem_Compare [clA a,clA b] (iv (cmpL a b)):=by
 refine sound' t_problem_Compare (by simp) ?_
 simp[c_problem_Compare]
 refine eCall_i (scmp_s ha hb) (by simp) (by simp) ?_
 simp[r_problem_Compare]
end
end Go.Proofs.Ytbmhibiljjnfiaa

namespace Go.Proofs.Ytbmhibiljjnfiaa
open Go Go.Am Go.Pb
section
variable {a b:List Int} {k:Nat}
def stCr (a b:List Int) (k:Nat):St:={env:=[(0,clA a),(1,clA b),(5,iv k)],sto:=[]}
theorem cmpL_min (h:min a.length b.length=k):cmpL (a.drop k) (b.drop k)=if a.length<b.length then -1 else if b.length<a.length then 1 else 0:=by
 by_cases c:a.length≤b.length
 ·have e:k=a.length:=by omega
  subst e
  rw[cmpL_out c]
  by_cases c2:a.length<b.length
  ·rw[if_pos c2,if_pos c2]
  ·rw[if_neg c2,if_neg c2,if_neg (by omega)]
 ·have e:k=b.length:=by omega
  subst e
  rw[cmpL_end (by omega) (Nat.le_refl _),if_neg (by omega),if_pos (by omega)]
theorem rcmp_s (ha:a.length≤1000000) (hb:b.length≤1000000):SoundCall Try.prog F_ref20_Compare [clA a,clA b] (iv (cmpL a b)):=by
 refine sound' t_ref20_Compare (by simp) ?_
 simp[c_ref20_Compare]
 obtain ⟨N,hN⟩:∃ N,min a.length b.length=N:=⟨_,rfl⟩
 refine awp_forW (stCr a b) (fun k=>cmpL a b=cmpL (a.drop k) (b.drop k)) N (by simp[stCr]) rfl (fun k hk hI=>?_) (fun hI=>?_)
 ·have h1:k<a.length:=by omega
  have h2:k<b.length:=by omega
  have e1:(k:Int)<a.length:=by omega
  have e2:(k:Int)<b.length:=by omega
  have w1:=wrap_succ (k:=k) (by omega)
  have hs:=cmpL_step h1 h2
  unfold cmpI at hs
  by_cases c1:a[k]<b[k]
  ·rw[hI,hs]
   simp[c_ref20_Compare_l0,stCr,e1,e2,h1,h2,c1,r_ref20_Compare]
  ·by_cases c2:b[k]<a[k]
   ·rw[hI,hs]
    simp[c_ref20_Compare_l0,stCr,e1,e2,h1,h2,c1,c2,r_ref20_Compare]
   ·have hx:cmpL a b=cmpL (a.drop (k+1)) (b.drop (k+1)):=by rw[hI,hs]; simp[c1,c2]
    simp[c_ref20_Compare_l0,stCr,e1,e2,h1,h2,c1,c2,w1,hx]
 ·rw[hI,cmpL_min hN]
  by_cases c1:a.length<b.length
  ·have e1:¬ (N:Int)<a.length:=by omega
   simp[c_ref20_Compare_l0,stCr,c_ref20_Compare_k1,e1,c1,r_ref20_Compare]
  ·by_cases c2:b.length<a.length
   ·have e1:(N:Int)<a.length:=by omega
    have e2:¬ (N:Int)<b.length:=by omega
    simp[c_ref20_Compare_l0,stCr,c_ref20_Compare_k1,e1,e2,c1,c2,r_ref20_Compare]
   ·have e1:¬ (N:Int)<a.length:=by omega
    simp[c_ref20_Compare_l0,stCr,c_ref20_Compare_k1,e1,c1,c2,r_ref20_Compare]
end
end Go.Proofs.Ytbmhibiljjnfiaa

namespace Go.Proofs.Ytbmhibiljjnfiaa
open Go Go.Am Go.Pb
theorem cmpI_pos {a b:Int}:(cmpI a b=0↔a=b)∧(cmpI a b<0↔a<b)∧(0<cmpI a b↔b<a):=by
 unfold cmpI
 split
 ·exact ⟨by omega,by omega,by omega⟩
 ·split
  ·exact ⟨by omega,by omega,by omega⟩
  ·exact ⟨by omega,by omega,by omega⟩
end Go.Proofs.Ytbmhibiljjnfiaa

namespace Go.Proofs.Ytbmhibiljjnfiaa
open Go Go.Am Go.Pb
def stVd (w:Nat→Int) (k:Nat):St:={env:=[(1,.ptr 1 0),(3,iv k)],sto:=[(1,.var (bC w))]}
theorem rvalid_s {w:Nat→Int}:SoundCall Try.prog F_ref08_Valid [.agg (bC w)] (bv (decide (okB w))):=by
 refine sound' t_ref08_Valid (by simp) ?_
 simp[c_ref08_Valid]
 refine awp_forW (stVd w) (fun i=>∀ j,j<i→0≤w j∧w j≤4) 6 (by simp[stVd]) (fun j hj=>by omega) (fun i hi hI=>?_) (fun hI=>?_)
 ·have e:(i:Int)<6:=by omega
  have w1:=wrap_succ (k:=i) (by omega)
  by_cases c1:w i<0
  ·have hf:¬ okB w:=fun h=>by have:=h i hi; omega
   simp[c_ref08_Valid_l0,stVd,e,goLoad_bk hi,c1,hf,r_ref08_Valid]
  ·by_cases c2:4<w i
   ·have hf:¬ okB w:=fun h=>by have:=h i hi; omega
    simp[c_ref08_Valid_l0,stVd,e,goLoad_bk hi,c1,c2,hf,r_ref08_Valid]
   ·simp[c_ref08_Valid_l0,stVd,e,goLoad_bk hi,c1,c2,w1]
    exact fun j hj=>by
     by_cases e:j=i
     ·subst e; omega
     ·exact hI j (by omega)
 ·have hf:okB w:=hI
  simp[c_ref08_Valid_l0,stVd,hf,c_ref08_Valid_k1,r_ref08_Valid]
section
variable {P:Pb} {r n:Nat} {o:Of}
theorem rcoef_s (hn:P.cl.length≤1000) (hb:0≤o.b) (hr:r<P.rows):∃ c,(o.b<P.cl.length→c=P.coef r o)∧SoundCall Try.prog F_ref20_coef [.agg (pbC P),iv r,.agg (oC o)] (.tuple [iv c,iv (P.bnd r)]):=by
 unfold Pb.rows at hr
 unfold Pb.coef Pb.bnd
 obtain ⟨n,hn'⟩:∃ n,P.cl.length=n:=⟨_,rfl⟩
 rw[hn'] at hr hn ⊢
 by_cases h1:r<n
 ·refine ⟨if o.b=r then 1 else 0,fun _=>by rw[if_pos h1],?_⟩
  refine sound' t_ref20_coef (by simp) ?_
  rw[if_pos h1]
  by_cases h2:o.b=r
  ·rw[if_pos h2]
   simp[c_ref20_coef,hn',h1,h2,r_ref20_coef]
  ·rw[if_neg h2]
   simp[c_ref20_coef,hn',h1,h2,r_ref20_coef]
 ·have w0:IntKind.i64.wrap ((n:Int)+6)=(n:Int)+6:=by rw[wrap64]<;>omega
  obtain ⟨k,hk⟩:∃ k,r=n+k:=⟨r-n,by omega⟩
  have e0:(r:Int)-n=k:=by omega
  have e2:r-n=k:=by omega
  have w1:IntKind.i64.wrap (k:Int)=k:=by rw[wrap64]<;>omega
  rw[if_neg h1,if_neg h1,e2]
  have c1:¬ (r:Int)<n:=by omega
  by_cases h2:k<6
  ·have c2:(r:Int)<(n:Int)+6:=by omega
   have h2':(k:Int)<6:=by omega
   refine ⟨o.w k,fun _=>by rw[if_pos (by omega)],?_⟩
   rw[if_pos (by omega)]
   refine sound' t_ref20_coef (by simp) ?_
   simp[c_ref20_coef,hn',w0,c1,c2,e0,w1,h2',goLoad_oCk h2,goLoad_supk h2,r_ref20_coef]
  ·obtain ⟨j,hj0⟩:∃ j,k=6+j:=⟨k-6,by omega⟩
   have hj:j<6:=by omega
   have hj':(j:Int)<6:=by omega
   have c2:¬ (r:Int)<(n:Int)+6:=by omega
   have e3:(k:Int)-6=j:=by omega
   have w2:IntKind.i64.wrap (j:Int)=j:=by rw[wrap64]<;>omega
   have hr6:¬ r<n+6:=by omega
   rw[if_neg hr6,if_neg hr6,show k-6=j by omega]
   by_cases h3:P.cls j=0
   ·refine ⟨0,fun _=>by rw[if_pos (.inl h3)],?_⟩
    refine sound' t_ref20_coef (by simp) ?_
    simp[c_ref20_coef,hn',w0,c1,c2,e0,w1,e3,w2,hj',goLoad_clsk hj,goLoad_opnk hj,h3,r_ref20_coef]
   ·by_cases h5:o.b<n
    ·obtain ⟨b,hb1,hb2,hb3⟩:=clOf_get (P:=P) (o:=o) (by rw[hn']; exact ⟨hb,h5⟩)
     have hbn:(b:Int)<n:=by omega
     have hbn':b<n:=by omega
     have hc:P.cl[b]?=some (P.clOf (b:Int)):=by rw[← hb1]; exact hb3
     have hE:P.cl[b]=P.clOf (b:Int):=by rw[List.getElem?_eq_getElem hb2] at hc; exact Option.some.inj hc
     rw[hb1]
     by_cases h4:P.cls j=P.clOf (b:Int)
     ·refine ⟨0,fun _=>by rw[if_pos (.inr h4)],?_⟩
      rw[h4] at h3
      refine sound' t_ref20_coef (by simp) ?_
      simp[c_ref20_coef,hn',w0,c1,c2,e0,w1,e3,w2,hj',goLoad_clsk hj,goLoad_opnk hj,h3,hb1,hbn,hbn',hE,h4,r_ref20_coef]
     ·refine ⟨o.w j,fun _=>by rw[if_neg (fun h=>h.elim h3 h4)],?_⟩
      refine sound' t_ref20_coef (by simp) ?_
      simp[c_ref20_coef,hn',w0,c1,c2,e0,w1,e3,w2,hj',goLoad_clsk hj,goLoad_opnk hj,goLoad_oCk hj,h3,hb1,hbn,hbn',hE,h4,r_ref20_coef]
    ·refine ⟨0,fun h=>absurd h h5,?_⟩
     refine sound' t_ref20_coef (by simp) ?_
     simp[c_ref20_coef,hn',w0,c1,c2,e0,w1,e3,w2,hj',goLoad_clsk hj,goLoad_opnk hj,h3,h5,r_ref20_coef]
end
end Go.Proofs.Ytbmhibiljjnfiaa

namespace Go.Proofs.Ytbmhibiljjnfiaa
open Go Go.Am Go.Pb
def oZ:Of:=⟨0,fun _=>0,0⟩
theorem oC_zero:[iv 0,iv 0,iv 0,iv 0,iv 0,iv 0,iv 0,iv 0]=oC oZ:=by rw[oC_eq]; rfl
def stRf (P:Pb) (L:List Of) (r:Nat):St:={env:=[(1,ofA L),(2,.ptr 2 0),(5,iv r)],sto:=[(2,.var (pbC P))]}
def stRi (P:Pb) (L:List Of) (r k:Nat):St:={env:=[(1,ofA L),(2,.ptr 2 0),(5,iv r),(6,iv (preS (P.coef r) L k)),(7,iv k)],sto:=[(2,.var (pbC P))]}
section
variable {P:Pb} {r n:Nat} {o:Of} {L:List Of}
theorem rfits_s (hn:P.cl.length≤1000) (hL:L.length≤1000) (hb:∀ o∈L,0≤o.b∧o.b<P.cl.length) (hw:∀ o∈L,okB o.w):SoundCall Try.prog F_ref20_fits [.agg (pbC P),ofA L] (bv (decide (P.fits L))):=by
 have hR:P.rows≤1012:=by unfold Pb.rows; omega
 have hRi:((P.rows:Nat):Int)=(P.cl.length:Int)+12:=by unfold Pb.rows; omega
 have w0:IntKind.i64.wrap ((P.cl.length:Int)+12)=(P.cl.length:Int)+12:=by rw[wrap64]<;>omega
 refine sound' t_ref20_fits (by simp) ?_
 simp[c_ref20_fits]
 refine awp_forW (stRf P L) (fun r=>∀ q,q<r→(L.map (P.coef q)).sum≤P.bnd q) P.rows (by simp[stRf]) (fun q hq=>by omega) (fun r hr hI=>?_) (fun hI=>?_)
 ·have e:(r:Int)<(P.cl.length:Int)+12:=by omega
  have w1:=wrap_succ (k:=r) (by omega)
  simp[c_ref20_fits_l3,stRf,e,w0]
  refine awp_forW (stRi P L r) (fun _=>True) L.length (by simp[stRi,preS_zero]) trivial (fun k hk _=>?_) (fun _=>?_)
  ·have e':(k:Int)<L.length:=by omega
   have hg:L[k]?=some L[k]:=by simp[hk]
   have hm:L[k]∈L:=List.getElem_mem hk
   have w2:=wrap_succ (k:=k) (by omega)
   obtain ⟨p1,p2⟩:=preS_bound (f:=P.coef r) (fun o ho=>coef_ok (P:=P) (hw o ho) hr) k (by omega)
   obtain ⟨p3,p4⟩:=coef_ok (P:=P) (hw _ hm) hr
   have w3:IntKind.i64.wrap (preS (P.coef r) L k+P.coef r L[k])=preS (P.coef r) L k+P.coef r L[k]:=by rw[wrap64]<;>omega
   have hs:=preS_succ (f:=P.coef r) hg
   obtain ⟨c,hc,hk'⟩:=rcoef_s (P:=P) (o:=L[k]) hn (hb _ hm).1 hr
   have hc:=hc (hb _ hm).2
   subst hc
   simp[c_ref20_fits_l0,stRi,e',hk]
   refine eCall_i hk' (by simp) (by simp) ?_
   simp[w2,w3,hs,stRi]
  ·have hall:preS (P.coef r) L L.length=(L.map (P.coef r)).sum:=preS_all
   obtain ⟨z,hz,hz0⟩:∃ z:Of,[iv 0,iv 0,iv 0,iv 0,iv 0,iv 0,iv 0,iv 0]=oC z∧0≤z.b:=⟨oZ,oC_zero,Int.le_refl 0⟩
   obtain ⟨c,_,hk'⟩:=rcoef_s (P:=P) (o:=z) hn hz0 hr
   have key:∀ K:Exit→St→Prop,K (.exit 2) {env:=[(1,ofA L),(2,.ptr 2 0),(5,iv r),(6,iv (preS (P.coef r) L L.length)),(7,iv L.length),(23,bv false)],sto:=[(2,.var (pbC P))]}→awp Try.prog c_ref20_fits_l0 (stRi P L r L.length) (lastC K):=by
    intro K h
    simp[c_ref20_fits_l0,stRi]
    exact h
   refine key _ ?_
   simp[c_ref20_fits_k1,hz]
   refine eCall_i hk' (by simp) (by simp) ?_
   by_cases hc:P.bnd r<(L.map (P.coef r)).sum
   ·have hf:¬ P.fits L:=fun h=>by have:=h r hr; omega
    simp[hall,hc,hf,r_ref20_fits]
   ·simp[hall,hc,c_ref20_fits_k2,w1,stRf]
    exact fun q hq=>by
     by_cases eq:q=r
     ·subst eq; omega
     ·exact hI q (by omega)
 ·have hf:P.fits L:=hI
  have e:¬ ((P.rows:Nat):Int)<(P.cl.length:Int)+12:=by omega
  simp[c_ref20_fits_l3,stRf,w0,e,hf,c_ref20_fits_k4,r_ref20_fits]
end
end Go.Proofs.Ytbmhibiljjnfiaa

namespace Go.Proofs.Ytbmhibiljjnfiaa
open Go Go.Am Go.Pb
@[simp] theorem goLoad_oCt {u:Of}:goLoad (oC u).tail 0 (some 6)=some (.agg (bC u.w)):=by rw[oC_eq,bC_eq]; rfl
section
variable {P:Pb} {r n:Nat} {o:Of} {L:List Of}
def stRc0 (P:Pb) (k:Nat):St:={env:=[(1,.ptr 1 0),(3,iv k)],sto:=[(1,.var (pbC P))]}
def stRc1 (P:Pb) (k:Nat):St:={env:=[(1,.ptr 1 0),(4,iv k)],sto:=[(1,.var (pbC P))]}
def stRc2 (P:Pb) (k:Nat):St:={env:=[(1,.ptr 1 0),(5,iv k)],sto:=[(1,.var (pbC P))]}
def stRc3 (P:Pb) (o:Of) (k j:Nat):St:={env:=[(1,.ptr 1 0),(5,iv k),(6,.ptr 6 0),(7,iv j)],sto:=[(1,.var (pbC P)),(6,.var (oC o))]}
theorem offI_of {i:Nat} (h:P.offE o≠0):P.offI i o=P.offE o:=by unfold Pb.offI; rw[if_pos h]
theorem offE_b (h:o.b<0∨(P.cl.length:Int)≤o.b):P.offE o=6:=by
 have:fldE P.cl.length o=6:=by unfold fldE; rw[if_pos h]
 unfold Pb.offE; rw[this]; rfl
theorem offE_v (hb:¬ (o.b<0∨(P.cl.length:Int)≤o.b)) (h:o.v<1∨1000000<o.v):P.offE o=4:=by
 have:fldE P.cl.length o=4:=by unfold fldE; rw[if_neg hb,if_pos h]
 unfold Pb.offE; rw[this]; rfl
theorem offE_w (hb:¬ (o.b<0∨(P.cl.length:Int)≤o.b)) (hv:¬ (o.v<1∨1000000<o.v)) (h:¬ okB o.w):P.offE o=4:=by
 have:fldE P.cl.length o=4:=by unfold fldE; rw[if_neg hb,if_neg hv,if_neg h]
 unfold Pb.offE; rw[this]; rfl
theorem fldE_0 (hb:¬ (o.b<0∨(n:Int)≤o.b)) (hv:¬ (o.v<1∨1000000<o.v)) (h:okB o.w):fldE n o=0:=by unfold fldE; rw[if_neg hb,if_neg hv,if_pos h]
theorem offE_z (hf:fldE P.cl.length o=0) (h:zeroB o.w):P.offE o=4:=by unfold Pb.offE; rw[if_neg (fun h=>h hf),if_pos h]
theorem offE_f (hf:fldE P.cl.length o=0) (hz:¬ zeroB o.w):P.offE o=if P.fits [o] then 0 else 14:=by unfold Pb.offE; rw[if_neg (fun h=>h hf),if_neg hz]
theorem rcheck_s (hn:P.cl.length≤1000) (hk:P.of.length≤1000000):SoundCall Try.prog F_ref20_Check [.agg (pbC P)] (iv P.chk):=by
 have hkd:kds Try.prog Op.maxDepth T_api_Bundle=some (List.replicate 6 (.i .i64)):=by kernel_rfl
 have hg:Try.prog.eqGuardType Try.prog.depth T_api_Bundle=false:=by kernel_rfl
 have hA:agT Try.prog T_api_Bundle=true:=by kernel_rfl
 refine sound' t_ref20_Check (by simp) ?_
 simp[c_ref20_Check]
 refine eCall_i (rvalid_s (w:=P.sup)) (by simp) (by simp) ?_
 unfold Pb.chk
 by_cases c1:okB P.sup
 ·simp[c1]
  refine awp_forW (stRc0 P) (fun r=>∀ q,q<r→P.okC q) 6 (by simp[stRc0]) (fun q hq=>by omega) (fun k hk hI=>?_) (fun hI=>?_)
  ·have e:(k:Int)<6:=by omega
   have w1:=wrap_succ (k:=k) (by omega)
   by_cases d:P.okC k
   ·have d':=d
    unfold Pb.okC at d'
    obtain ⟨d1,d2,d3,d4,d5⟩:=d'
    have b1:¬ P.cls k<0:=by omega
    have b2:¬ 4<P.cls k:=by omega
    have b3:¬ P.opn k<0:=by omega
    have b4:¬ P.sup k<P.opn k:=by omega
    have hx:∀ q,q<k+1→P.okC q:=fun q hq=>by
     by_cases eq:q=k
     ·subst eq; exact d
     ·exact hI q (by omega)
    by_cases b5:P.cls k=0
    ·have b6:=d5 b5
     rw[b5] at b1 b2
     rw[b6] at b3 b4
     simp[c_ref20_Check_l0,stRc0,e,goLoad_opnk hk,goLoad_clsk hk,goLoad_supk hk,b3,b5,b6,w1]
     exact hx
    ·simp[c_ref20_Check_l0,stRc0,e,goLoad_opnk hk,goLoad_clsk hk,goLoad_supk hk,b1,b2,b3,b4,b5,w1]
     exact hx
   ·have hF:P.frameE=4:=by unfold Pb.frameE; rw[if_neg (fun h=>h c1),if_pos (show ¬ P.okCs from fun h=>d (h k hk))]
    rw[hF]
    by_cases b1:P.cls k<0
    ·simp[c_ref20_Check_l0,stRc0,e,goLoad_clsk hk,b1,r_ref20_Check]
    ·by_cases b2:4<P.cls k
     ·simp[c_ref20_Check_l0,stRc0,e,goLoad_clsk hk,b1,b2,r_ref20_Check]
     ·by_cases b3:P.opn k<0
      ·simp[c_ref20_Check_l0,stRc0,e,goLoad_opnk hk,goLoad_clsk hk,b1,b2,b3,r_ref20_Check]
      ·by_cases b4:P.sup k<P.opn k
       ·simp[c_ref20_Check_l0,stRc0,e,goLoad_opnk hk,goLoad_clsk hk,goLoad_supk hk,b1,b2,b3,b4,r_ref20_Check]
       ·have b5:P.cls k=0∧¬ P.opn k=P.sup k:=by
         unfold Pb.okC at d
         by_cases b5:P.cls k=0
         ·exact ⟨b5,fun h=>d ⟨by omega,by omega,by omega,by omega,fun _=>h⟩⟩
         ·exact absurd (⟨by omega,by omega,by omega,by omega,fun h=>absurd h b5⟩) d
        simp[c_ref20_Check_l0,stRc0,e,goLoad_opnk hk,goLoad_clsk hk,goLoad_supk hk,b3,b4,b5,r_ref20_Check]
  ·have hs:P.okCs:=hI
   have key:∀ K:Exit→St→Prop,K (.exit 0) {env:=[(1,.ptr 1 0),(3,iv (6:Nat)),(13,bv false)],sto:=[(1,.var (pbC P))]}→awp Try.prog c_ref20_Check_l0 (stRc0 P 6) (lastC K):=by
    intro K h
    simp[c_ref20_Check_l0,stRc0]
    exact h
   refine key _ ?_
   by_cases f1:8<P.cl.length
   ·have f1':(8:Int)<P.cl.length:=by omega
    have hF:P.frameE=3:=by unfold Pb.frameE; rw[if_neg (fun h=>h c1),if_neg (fun h=>h hs),if_pos (.inl f1)]
    simp[c_ref20_Check_k7,f1',hF,r_ref20_Check]
   ·have f1':¬ (8:Int)<P.cl.length:=by omega
    by_cases f2:160<P.of.length
    ·have f2':(160:Int)<P.of.length:=by omega
     have hF:P.frameE=3:=by unfold Pb.frameE; rw[if_neg (fun h=>h c1),if_neg (fun h=>h hs),if_pos (.inr f2)]
     simp[c_ref20_Check_k7,f1',f2',hF,r_ref20_Check]
    ·have f2':¬ (160:Int)<P.of.length:=by omega
     simp[c_ref20_Check_k7,f1',f2']
     refine awp_forW (stRc1 P) (fun r=>∀ q,q<r→(hq:q<P.cl.length)→okCl P.cl[q]) P.cl.length (by simp[stRc1]) (fun q hq=>by omega) (fun k hk hI=>?_) (fun hI=>?_)
     ·have e:(k:Int)<P.cl.length:=by omega
      have w1:=wrap_succ (k:=k) (by omega)
      by_cases d:okCl P.cl[k]
      ·have d':=d
       unfold okCl at d'
       have b1:¬ P.cl[k]<0:=by omega
       have b2:¬ 4<P.cl[k]:=by omega
       simp[c_ref20_Check_l1,stRc1,e,hk,b1,b2,w1]
       exact fun q hq hl=>by
        by_cases eq:q=k
        ·subst eq; exact d
        ·exact hI q (by omega) hl
      ·have hF:P.frameE=4:=by unfold Pb.frameE; rw[if_neg (fun h=>h c1),if_neg (fun h=>h hs),if_neg (by omega),if_neg (fun h=>d (h _ (List.getElem_mem hk)))]
       rw[hF]
       unfold okCl at d
       by_cases b1:P.cl[k]<0
       ·simp[c_ref20_Check_l1,stRc1,e,hk,b1,r_ref20_Check]
       ·have b2:4<P.cl[k]:=by omega
        simp[c_ref20_Check_l1,stRc1,e,hk,b1,b2,r_ref20_Check]
     ·have hc:=frC P fun i hi=>hI i hi hi
      have hF:P.frameE=0:=by unfold Pb.frameE; rw[if_neg (fun h=>h c1),if_neg (fun h=>h hs),if_neg (by omega),if_pos hc]
      rw[if_pos hF]
      have key:∀ K:Exit→St→Prop,K (.exit 2) {env:=[(1,.ptr 1 0),(4,iv P.cl.length),(78,bv false)],sto:=[(1,.var (pbC P))]}→awp Try.prog c_ref20_Check_l1 (stRc1 P P.cl.length) (lastC K):=by
       intro K h
       simp[c_ref20_Check_l1,stRc1]
       exact h
      refine key _ ?_
      simp[c_ref20_Check_k6]
      refine awp_forW (stRc2 P) (fun k=>P.chkL k=0) P.of.length (by simp[stRc2]) rfl (fun k hk' hI=>?_) (fun hI=>?_)
      ·have e:(k:Int)<P.of.length:=by omega
       have hgk:P.of[k]?=some P.of[k]:=by simp[hk']
       have w1:=wrap_succ (k:=k) (by omega)
       obtain ⟨o,ho⟩:∃ o,P.of[k]=o:=⟨_,rfl⟩
       rw[ho] at hgk
       have fin:P.offE o≠0→P.chkL P.of.length=P.offE o:=fun h=>by
        rw[chkL_first hI hgk (by rw[offI_of h]; exact h) hk',offI_of h]
       by_cases b1:o.b<0
       ·rw[fin (by rw[offE_b (.inl b1)]; decide),offE_b (.inl b1)]
        simp[c_ref20_Check_l4,stRc2,e,hk',ho,b1,r_ref20_Check]
       ·by_cases b2:(P.cl.length:Int)≤o.b
        ·rw[fin (by rw[offE_b (.inr b2)]; decide),offE_b (.inr b2)]
         simp[c_ref20_Check_l4,stRc2,e,hk',ho,b1,b2,r_ref20_Check]
        ·have hb:¬ (o.b<0∨(P.cl.length:Int)≤o.b):=by omega
         by_cases b3:o.v<1
         ·rw[fin (by rw[offE_v hb (.inl b3)]; decide),offE_v hb (.inl b3)]
          simp[c_ref20_Check_l4,stRc2,e,hk',ho,b1,b2,b3,r_ref20_Check]
         ·by_cases b4:1000000<o.v
          ·rw[fin (by rw[offE_v hb (.inr b4)]; decide),offE_v hb (.inr b4)]
           simp[c_ref20_Check_l4,stRc2,e,hk',ho,b1,b2,b3,b4,r_ref20_Check]
          ·have hv:¬ (o.v<1∨1000000<o.v):=by omega
           simp[c_ref20_Check_l4,stRc2,e,hk',ho,b1,b2,b3,b4]
           refine eCall_i (rvalid_s (w:=o.w)) (by simp) (by simp) ?_
           by_cases b5:okB o.w
           ·have hf:=fldE_0 (n:=P.cl.length) hb hv b5
            have hz:decide (bI o.w=bI (fun _=>0))=decide (zeroB o.w):=by
             rw[decide_eq_decide,bI_eq]
             exact Iff.rfl
            simp[b5,bC_zero]
            rw[eBin_eql_ints hkd hg hA isInts_bC isInts_bC]
            by_cases b6:zeroB o.w
            ·rw[fin (by rw[offE_z hf b6]; decide),offE_z hf b6]
             simp[hz,b6,r_ref20_Check]
            ·simp[hz,b6]
             have hfs:=rfits_s (P:=P) (L:=[o]) hn (by simp) (fun x hx=>by rw[List.mem_singleton.1 hx]; omega) (fun x hx=>by rw[List.mem_singleton.1 hx]; exact b5)
             refine eCall_i (imp_q2 hfs (imp_full (rows:=[oC o]))) (by simp) (by simp) ?_
             by_cases b7:P.fits [o]
             ·have hE:P.offE o=0:=by rw[offE_f hf b6,if_pos b7]
              simp[b7]
              refine awp_forW (stRc3 P o k) (fun j=>∀ (q:Nat) u,q<j→P.of[q]?=some u→¬ sameO u o) k (by simp[stRc3]) (fun q u hq=>by omega) (fun j hj hJ=>?_) (fun hJ=>?_)
              ·have ej:(j:Int)<k:=by omega
               have hj2:j<P.of.length:=by omega
               have ej2:(j:Int)<P.of.length:=by omega
               have w2:=wrap_succ (k:=j) (by omega)
               obtain ⟨u,hu⟩:∃ u,P.of[j]=u:=⟨_,rfl⟩
               have hgj:P.of[j]?=some u:=by simp[hj2,hu]
               have hzu:decide (bI u.w=bI o.w)=decide (eqB u.w o.w):=by rw[decide_eq_decide,bI_eq]
               by_cases d1:u.b=o.b
               ·simp[c_ref20_Check_l2,stRc3,ej,ej2,hj2,hu,d1]
                rw[eBin_eql_ints hkd hg hA isInts_bC isInts_bC]
                by_cases d2:eqB u.w o.w
                ·have hi:P.offI k o=7:=by
                  unfold Pb.offI
                  rw[if_neg (fun h=>h hE),if_pos ⟨u,List.mem_of_getElem? (i:=j) (by rw[List.getElem?_take,if_pos hj]; exact hgj),d1,d2⟩]
                 rw[chkL_first hI hgk (by rw[hi]; decide) hk',hi]
                 simp[hzu,d2,r_ref20_Check]
                ·simp[hzu,d2,w2,stRc3]
                 intro q x hq hx
                 by_cases eq:q=j
                 ·subst eq
                  rw[hgj] at hx
                  rw[← Option.some.inj hx]
                  exact fun h=>d2 h.2
                 ·exact hJ q x (by omega) hx
               ·simp[c_ref20_Check_l2,stRc3,ej,ej2,hj2,hu,d1,w2]
                intro q x hq hx
                by_cases eq:q=j
                ·subst eq
                 rw[hgj] at hx
                 rw[← Option.some.inj hx]
                 exact fun h=>d1 h.1
                ·exact hJ q x (by omega) hx
              ·have hi:P.offI k o=0:=by
                unfold Pb.offI
                rw[if_neg (fun h=>h hE),if_neg]
                rintro ⟨u,hu,hs'⟩
                obtain ⟨q,hq⟩:=List.mem_iff_getElem?.1 hu
                rw[List.getElem?_take] at hq
                split at hq
                ·rename_i hqk; exact hJ q u hqk hq hs'
                ·cases hq
               have hx:=chkL_next hI hgk hi
               have key:∀ K:Exit→St→Prop,K (.exit 6) {env:=[(1,.ptr 1 0),(5,iv k),(6,.ptr 6 0),(7,iv k),(145,bv false)],sto:=[(1,.var (pbC P)),(6,.var (oC o))]}→awp Try.prog c_ref20_Check_l2 (stRc3 P o k k) (lastC K):=by
                intro K h
                simp[c_ref20_Check_l2,stRc3]
                exact h
               refine key _ ?_
               simp[c_ref20_Check_k3,w1,hx,stRc2]
             ·have hE:P.offE o=14:=by rw[offE_f hf b6,if_neg b7]
              rw[fin (by rw[hE]; decide),hE]
              simp[b7,r_ref20_Check]
           ·rw[fin (by rw[offE_w hb hv b5]; decide),offE_w hb hv b5]
            simp[b5,r_ref20_Check]
      ·rw[hI]
       have key:∀ K:Exit→St→Prop,K (.exit 4) {env:=[(1,.ptr 1 0),(5,iv P.of.length),(99,bv false)],sto:=[(1,.var (pbC P))]}→awp Try.prog c_ref20_Check_l4 (stRc2 P P.of.length) (lastC K):=by
        intro K h
        simp[c_ref20_Check_l4,stRc2]
        exact h
       refine key _ ?_
       simp[c_ref20_Check_k5,r_ref20_Check]
 ·have hF:P.frameE=4:=by unfold Pb.frameE; rw[if_pos c1]
  simp[c1,hF,r_ref20_Check]
end
end Go.Proofs.Ytbmhibiljjnfiaa

namespace Go.Proofs.Ytbmhibiljjnfiaa
open Go Go.Am
abbrev nilL:AV:=.list 0 .full []
theorem imp_plain {sz:Nat} {m:Am.Mode} {rows:List (List AV)} (h:stm m=m):AV.imp (.list sz m rows) (.list sz .plain rows):=by
 cases m with
 | plain=>exact AV.imp.refl
 | full=>exact imp_full
 | own l=>cases h
def imps (xs ys:List AV):Prop:=xs.length=ys.length∧∀ (i:Nat) x y,xs[i]?=some x→ys[i]?=some y→AV.imp x y
theorem imps_nil:imps [] []:=⟨rfl,fun i x y h=>by simp at h⟩
theorem imps_cons {x y:AV} {xs ys:List AV} (h:AV.imp x y) (hs:imps xs ys):imps (x::xs) (y::ys) :=
 ⟨by simp[hs.1],fun i a b ha hb=>by
  cases i with
  | zero=>simp only[List.getElem?_cons_zero,Option.some.injEq] at ha hb; subst ha hb; exact h
  | succ i=>simp only[List.getElem?_cons_succ] at ha hb; exact hs.2 i a b ha hb⟩
theorem imps_refl {xs:List AV}:imps xs xs:=⟨rfl,fun i x y h h'=>by rw[h] at h'; cases h'; exact AV.imp.refl⟩
theorem getE_of {α:Type} {l:List α} {i:Nat} (h:i<l.length):l[i]?=some l[i]:=by simp[h]
theorem imp_agg {xs ys:List AV} (h:imps xs ys):AV.imp (.agg xs) (.agg ys):=fun I w v hv=>by
 cases hv with
 | agg _ vs hs h1 hc =>
  refine .agg _ vs (by rw[hs,h.1]) h1 fun i c hi=>?_
  have:i<xs.length:=by rw[h.1]; exact (List.getElem?_eq_some_iff.1 hi).1
  exact h.2 i _ c (getE_of this) hi _ _ _ (hc i _ (getE_of this))
theorem imp_tup {xs ys:List AV} (h:imps xs ys):AV.imp (.tuple xs) (.tuple ys):=fun I w v hv=>by
 cases hv with
 | tuple _ vs hs hc =>
  refine .tuple _ vs (by rw[hs,h.1]) fun i c hi=>?_
  have:i<xs.length:=by rw[h.1]; exact (List.getElem?_eq_some_iff.1 hi).1
  exact h.2 i _ c (getE_of this) hi _ _ _ (hc i _ (getE_of this))
def impr (xs ys:List (List AV)):Prop:=xs.length=ys.length∧∀ (i:Nat) x y,xs[i]?=some x→ys[i]?=some y→imps x y
theorem imp_rows {sz:Nat} {m:Am.Mode} {xs ys:List (List AV)} (hm:stm m=m) (h:impr xs ys):AV.imp (.list sz m xs) (.list sz .plain ys):=fun I w v hv=>by
 have hv:=imp_plain hm I w v hv
 cases hv with
 | listNil _ _ a cap _ _ =>
  have:ys=[]:=List.eq_nil_of_length_eq_zero (by rw[← h.1]; rfl)
  subst this
  exact .listNil _ _ _ _ (fun h=>by cases h) (fun _ h=>by cases h)
 | list _ _ _ b o cap g hcap hm' ho hrow hcell hc =>
  have get:∀ (i:Nat) r,ys[i]?=some r→∃ r0,xs[i]?=some r0∧imps r0 r:=fun i r hi=>by
   have:i<xs.length:=by rw[h.1]; exact (List.getElem?_eq_some_iff.1 hi).1
   exact ⟨xs[i],getE_of this,h.2 i _ r (getE_of this) hi⟩
  rw[h.1]
  refine .list _ _ _ b o cap g (by rw[← h.1]; exact hcap) (fun h=>by cases h) (fun _ h=>by cases h) (fun i r hi=>?_) (fun i r j c hi hj=>?_) fun i r j c hi hj=>?_
  ·obtain ⟨r0,h1,h2⟩:=get i r hi
   rw[← h2.1]; exact hrow i r0 h1
  ·obtain ⟨r0,h1,h2⟩:=get i r hi
   have hj0:j<r0.length:=by rw[h2.1]; exact (List.getElem?_eq_some_iff.1 hj).1
   exact hcell i r0 j _ h1 (getE_of hj0)
  ·obtain ⟨r0,h1,h2⟩:=get i r hi
   have hj0:j<r0.length:=by rw[h2.1]; exact (List.getElem?_eq_some_iff.1 hj).1
   exact h2.2 j _ c (getE_of hj0) hj _ _ _ (hc i r0 j _ h1 (getE_of hj0))
noncomputable def apc (tok sz:Nat) (rows:List (List AV)):AV:=if rows.length=0 then nilL else .list sz (.own tok) rows
noncomputable def plc (sz:Nat) (rows:List (List AV)):AV:=if rows.length=0 then nilL else .list sz .plain rows
section
variable {tok sz l k:Nat} {rows:List (List AV)}
theorem apc_nil (h:rows.length=0):apc tok sz rows=nilL:=if_pos h
theorem apc_some (h:¬ rows.length=0):apc tok sz rows=.list sz (.own tok) rows:=if_neg h
@[simp] theorem apc_rf:rf (apc tok sz rows)=true:=by unfold apc; split<;>rfl
@[simp] theorem apc_strip:strip (apc tok sz rows)=plc sz rows:=by unfold apc plc; split<;>rfl
@[simp] theorem cells_apc:cellsOf (apc tok sz rows)=some [apc tok sz rows]:=by unfold apc; split<;>rfl
@[simp] theorem snap_apc {σ:Nat→Option Entry}:snap σ (apc tok sz rows)=some (plc sz rows):=by unfold apc plc; split<;>rfl
@[simp] theorem apc_refs:refsTo k (apc tok sz rows)=false:=by unfold apc; split<;>rfl
theorem apc_dg (h:¬ tok=l):dg l (apc tok sz rows)=apc tok sz rows:=by
 unfold apc
 split
 ·simp
 ·simp only[dg]; rw[if_neg h]
@[simp] theorem cells_plc:cellsOf (plc sz rows)=some [plc sz rows]:=by unfold plc; split<;>rfl
@[simp] theorem plc_rf:rf (plc sz rows)=true:=by unfold plc; split<;>rfl
@[simp] theorem plc_strip:strip (plc sz rows)=plc sz rows:=by unfold plc; split<;>rfl
@[simp] theorem plc_dg:dg l (plc sz rows)=plc sz rows:=by unfold plc; split<;>simp
@[simp] theorem plc_refs:refsTo k (plc sz rows)=false:=by unfold plc; split<;>rfl
theorem plc_imp {rows':List (List AV)} (h:impr rows rows'):AV.imp (plc sz rows) (.list sz .plain rows'):=by
 unfold plc
 split
 ·rename_i h0
  have:rows'=[]:=List.eq_nil_of_length_eq_zero (by rw[← h.1]; exact h0)
  subst this
  exact AV.imp_nil rfl
 ·exact imp_rows rfl h
end
@[simp] theorem eLen1_apc {tok sz:Nat} {rows:List (List AV)} {K:AV→Option Entry→Prop}:eLen1 false K (apc tok sz rows)=K (.val (.int .i64 rows.length)) none:=by
 unfold apc; split
 ·rename_i h; rw[h]; simp[eLen1]
 ·simp[eLen1]
theorem eIaddrS_apc {tok sz i:Nat} {rows:List (List AV)} {K:AV→Option Entry→Prop} (h:i<rows.length):eIaddrS sz [apc tok sz rows,iv i] K=K (.ro rows[i]) none:=by
 have h0:¬ rows.length=0:=by omega
 rw[apc_some h0]
 have h1:(i:Int)<rows.length:=by omega
 simp[eIaddrS,h1,h]
theorem eIaddrS_pl {sz i:Nat} {m:Am.Mode} {rows:List (List AV)} {K:AV→Option Entry→Prop} (h:i<rows.length):eIaddrS sz [.list sz m rows,iv i] K=K (.ro rows[i]) none:=by
 have h1:(i:Int)<rows.length:=by omega
 simp[eIaddrS,h1,h]
theorem impr_refl {rows:List (List AV)}:impr rows rows:=⟨rfl,fun i x y h h'=>by rw[h] at h'; cases h'; exact imps_refl⟩
theorem sound_imp {f:FuncId} {args:List AV} {r r':AV} (h:SoundCall Try.prog f args r) (hr:AV.imp r r'):SoundCall Try.prog f args r':=fun I vs w h1 h2 h3 =>
 Calls.mono (h I vs w h1 h2 h3) fun _ _ ⟨v,e,hb,hv⟩=>⟨v,e,hb,hr _ _ _ hv⟩
theorem imp_args {f:FuncId} {xs ys:List AV} {r:AV} (h:SoundCall Try.prog f ys r) (hi:imps xs ys):SoundCall Try.prog f xs r:=fun I vs w h1 h2 h3 =>
 h I vs w h1 (by rw[h2,hi.1]) fun i y hy=>by
  have hx:i<xs.length:=by rw[hi.1]; exact (List.getElem?_eq_some_iff.1 hy).1
  exact hi.2 i _ y (getE_of hx) hy _ _ _ (h3 i _ (getE_of hx))
theorem imps2 {a a' b b':AV} (h:AV.imp a a') (h2:AV.imp b b'):imps [a,b] [a',b']:=imps_cons h (imps_cons h2 imps_nil)
end Go.Proofs.Ytbmhibiljjnfiaa

namespace Go.Pb
def Pb.at (P:Pb) (i:Int):Of:=P.of.getD i.toNat ⟨0,fun _=>0,0⟩
def Pb.pick (P:Pb) (ch:List Int):List Of:=ch.map P.at
def prv (ch:List Int):Nat→Int
 | 0=>-1
 | k+1=>ch.getD k 0
def okI (n:Nat) (ch:List Int) (k:Nat):Prop:=prv ch k<ch.getD k 0∧ch.getD k 0<n
instance (n:Nat) (ch:List Int) (k:Nat):Decidable (okI n ch k):=inferInstanceAs (Decidable (prv ch k<ch.getD k 0∧ch.getD k 0<n))
def okP (n:Nat) (ch:List Int):Prop:=∀ k,k<ch.length→okI n ch k
instance (n:Nat) (ch:List Int):Decidable (okP n ch):=Nat.decidableBallLT ch.length fun k _=>okI n ch k
def Pb.feaE (P:Pb) (ch:List Int):Int:=if P.chk≠0 then P.chk else if ¬ okP P.of.length ch then 4 else if P.fits (P.pick ch) then 0 else 14
def Pb.valE (P:Pb) (ch:List Int):Int:=if okP P.of.length ch∧P.chk=0 then ((P.pick ch).map fun o=>o.v).sum else 0
section
variable {P:Pb} {n k:Nat} {ch:List Int}
theorem prv_ge (h:∀ q,q<k→okI n ch q):(k:Int)-1≤prv ch k:=by
 induction k with
 | zero=>simp[prv]
 | succ k ih =>
  have h1:=ih fun q hq=>h q (by omega)
  have h2:=(h k (by omega)).1
  simp only[prv]
  omega
theorem okP_len (h:okP n ch):ch.length≤n:=by
 cases e:ch.length with
 | zero=>omega
 | succ k =>
  have h1:=prv_ge (k:=k) (n:=n) (ch:=ch) fun q hq=>h q (by omega)
  have h2:=h k (by omega)
  unfold okI at h2
  omega
theorem okI_nat (h:∀ q,q<k→okI n ch q) (hk:okI n ch k):∃ b:Nat,ch.getD k 0=b∧b<n:=by
 have h1:=prv_ge h
 have h2:=hk
 unfold okI at h2
 exact ⟨(ch.getD k 0).toNat,by omega,by omega⟩
theorem pick_mem (h:okP P.of.length ch):∀ o∈P.pick ch,o∈P.of:=fun o ho=>by
 obtain ⟨i,hi,rfl⟩:=List.mem_map.1 ho
 obtain ⟨k,hk,rfl⟩:=List.getElem_of_mem hi
 obtain ⟨b,hb,hbn⟩:=okI_nat (fun q hq=>h q (by omega)) (h k hk)
 have e:ch.getD k 0=ch[k]:=by rw[List.getD_eq_getElem?_getD,List.getElem?_eq_getElem hk]; rfl
 unfold Pb.at
 rw[← e,hb,Int.toNat_natCast,List.getD_eq_getElem?_getD,List.getElem?_eq_getElem hbn]
 exact List.getElem_mem hbn
theorem pick_len:(P.pick ch).length=ch.length:=by simp[Pb.pick]
end
def ints (l:List Nat):List Int:=l.map fun i:Nat=>(i:Int)
end Go.Pb

namespace Go.Proofs.Ytbmhibiljjnfiaa
open Go Go.Am Go.Pb
@[simp] theorem clR_nil:clR []=[]:=rfl
@[simp] theorem ofR_nil:ofR []=[]:=rfl
@[simp] theorem apc_nil0 {tok sz:Nat}:apc tok sz []=nilL:=apc_nil rfl
section
variable {P:Pb} {r n:Nat} {o:Of} {L:List Of} {ch:List Int}
theorem getD_lt {l:List Int} {k:Nat} (h:k<l.length):l.getD k 0=l[k]:=by rw[List.getD_eq_getElem?_getD,List.getElem?_eq_getElem h]; rfl
theorem at_lt {b:Nat} (h:b<P.of.length):P.at (b:Int)=P.of[b]:=by unfold Pb.at; rw[Int.toNat_natCast,List.getD_eq_getElem?_getD,List.getElem?_eq_getElem h]; rfl
theorem pick_take {k:Nat} (h:k<ch.length):P.pick (ch.take (k+1))=P.pick (ch.take k)++[P.at ch[k]]:=by
 unfold Pb.pick
 rw[take_succ' (o:=ch[k]) (by simp[h]),List.map_append]
 rfl
theorem ofR_app {L M:List Of}:ofR (L++M)=ofR L++ofR M:=by simp[ofR]
noncomputable def stPk (P:Pb) (ch:List Int) (k:Nat):St:={env:=[(2,.ptr 2 0),(6,apc 34 8 (ofR (P.pick (ch.take k)))),(7,iv (prv ch k)),(10,clA ch),(11,iv ch.length),(12,iv k)],sto:=[(2,.var (pbC P))]}
theorem apc_add {tok sz by_:Nat} {s:St} {KS:St→Prop} {rows:List (List AV)} {m:Am.Mode} {x:List AV} (h0:0<sz) (h1:s.base+tok=tok) (h2:(rows.length+1)*by_≤140737488355328) (h3:rows.length+1≤9223372036854775807) (h4:lk s.sto tok=none)
  (hK:KS ((s.dg tok).put (some tok) (apc tok sz (rows++[x])))):eAppend sz by_ s (some tok) KS [apc tok sz rows,.list sz m [x]]:=by
 have e:∀ r:List (List AV),apc tok sz r=appV sz tok r:=fun r=>by
  unfold apc appV
  by_cases h:r=[]
  ·subst h; simp
  ·simp[h]
 rw[e,eAppend_appV h0 h1]
 exact ⟨h2,h3,h4,by rw[← e]; exact hK⟩
theorem picked_s (hk:P.of.length≤1000000) (hl:ch.length<4611686018427387904):SoundCall Try.prog F_problem_picked [.agg (pbC P),clA ch] (.tuple [if okP P.of.length ch then ofA (P.pick ch) else nilL,bv (decide (okP P.of.length ch))]):=by
 refine soundW' t_problem_picked (by simp) ?_
 simp[c_problem_picked]
 have h0:apc 34 8 (ofR (P.pick (ch.take 0)))=.list 0 .full []:=by rw[List.take_zero]; exact apc_nil rfl
 refine awp_forW (stPk P ch) (fun k=>∀ q,q<k→okI P.of.length ch q) ch.length (by simp[stPk,prv,Pb.pick,ofR,apc]) (fun q hq=>by omega) (fun k hk' hI=>?_) (fun hI=>?_)
 ·have e:(k:Int)<ch.length:=by omega
  have w1:=wrap_succ (k:=k) (by omega)
  have hp:=prv_ge hI
  have hg:=getD_lt hk'
  by_cases d:okI P.of.length ch k
  ·have d':=d
   unfold okI at d'
   rw[hg] at d'
   obtain ⟨b,hb,hbn⟩:=okI_nat hI d
   rw[hg] at hb
   have hlen:=okP_len (n:=P.of.length) (ch:=ch.take (k+1)) (fun q hq=>by
    have hq:q<k+1:=by simp at hq; omega
    have e1:∀ j,j<k+1→(ch.take (k+1)).getD j 0=ch.getD j 0:=fun j hj=>by
     rw[List.getD_eq_getElem?_getD,List.getD_eq_getElem?_getD,List.getElem?_take,if_pos hj]
    have:=if hqk:q=k then hqk▸d else hI q (by omega)
    unfold okI at this ⊢
    rw[e1 q hq]
    cases q with
    | zero=>exact this
    | succ q=>simp only[prv] at this ⊢; rw[e1 q (by omega)]; exact this)
   have hkn:k+1≤P.of.length:=by simpa [List.length_take,Nat.min_eq_left (show k+1≤ch.length by omega)] using hlen
   rw[hb] at d'
   have b1:¬ (b:Int)≤prv ch k:=by omega
   have b2:(b:Int)<P.of.length:=by omega
   have b3:¬ (P.of.length:Int)≤b:=by omega
   have hat:P.of[b]=P.at ch[k]:=by rw[hb,at_lt hbn]
   have hpr:prv ch (k+1)=b:=by simp only[prv]; rw[hg,hb]
   simp[c_problem_picked_l0,stPk,e,hk',hb,b1,b2,b3,hbn]
   refine apc_add (by decide) rfl ?_ ?_ (by simp) ?_
   ·simp only[ofR_len,pick_len,List.length_take]; omega
   ·simp only[ofR_len,pick_len,List.length_take]; omega
   ·have hro:ofR (P.pick (ch.take k))++[oC P.of[b]]=ofR (P.pick (ch.take (k+1))):=by rw[pick_take hk',ofR_app,hat]; rfl
    rw[hro]
    simp[w1,hpr,stPk]
    exact fun q hq=>by
     by_cases eq:q=k
     ·subst eq; exact d
     ·exact hI q (by omega)
  ·have hf:¬ okP P.of.length ch:=fun h=>d (h k hk')
   unfold okI at d
   rw[hg] at d
   by_cases b1:ch[k]≤prv ch k
   ·simp[c_problem_picked_l0,stPk,e,hk',b1,hf,r_problem_picked]
    exact AV.imp.refl
   ·have b2:(P.of.length:Int)≤ch[k]:=by omega
    simp[c_problem_picked_l0,stPk,e,hk',b1,b2,hf,r_problem_picked]
    exact AV.imp.refl
 ·have hf:okP P.of.length ch:=hI
  simp[c_problem_picked_l0,stPk,hf,c_problem_picked_k1,r_problem_picked]
  exact AV.imp_tuple2 (plc_imp impr_refl)
theorem feasible_s (hn:P.cl.length≤1000) (hk:P.of.length≤1000000) (hl:ch.length<4611686018427387904):SoundCall Try.prog F_problem_Feasible [.agg (pbC P),clA ch] (iv (P.feaE ch)):=by
 refine sound' t_problem_Feasible (by simp) ?_
 simp[c_problem_Feasible]
 refine eCall_i (check_s hn hk) (by simp) (by simp) ?_
 unfold Pb.feaE
 by_cases c1:P.chk=0
 ·rw[if_neg (fun h:P.chk≠0=>h c1)]
  simp[c1]
  refine eCall_i (picked_s hk hl) (by simp) (by simp) ?_
  by_cases c2:okP P.of.length ch
  ·have hG:=chk_good c1
   have hm:=pick_mem c2
   simp[c2]
   have hP:∀ o∈P.pick ch,P.offE o=0:=fun o ho=>hG.off o (hm o ho)
   refine eCall_i (fits_s (P:=P) (L:=P.pick ch) hn (by rw[pick_len]; have:=okP_len c2; have:=hG.k; omega) (fun o ho=>(sim_ok (off_sim (hP o ho)).1).1) (fun o ho=>(sim_ok (off_sim (hP o ho)).1).2.2)) (by simp) (by simp) ?_
   by_cases c3:P.fits (P.pick ch)
   ·simp[c3,r_problem_Feasible]
   ·simp[c3,r_problem_Feasible]
  ·simp[c2,r_problem_Feasible]
 ·rw[if_pos c1]
  simp[c1,r_problem_Feasible]
def stVa (L:List Of) (k:Nat):St:={env:=[(7,iv (preS (fun o=>o.v) L k)),(23,ofA L),(24,iv L.length),(25,iv k)],sto:=[]}
theorem value_s (hn:P.cl.length≤1000) (hk:P.of.length≤1000000) (hl:ch.length<4611686018427387904):SoundCall Try.prog F_problem_Value [.agg (pbC P),clA ch] (iv (P.valE ch)):=by
 refine sound' t_problem_Value (by simp) ?_
 simp[c_problem_Value]
 refine eCall_i (picked_s hk hl) (by simp) (by simp) ?_
 unfold Pb.valE
 by_cases c2:okP P.of.length ch
 ·simp[c2]
  refine eCall_i (check_s hn hk) (by simp) (by simp) ?_
  by_cases c1:P.chk=0
  ·have hG:=chk_good c1
   have hm:=pick_mem c2
   have hP:∀ o∈P.pick ch,0≤o.v∧o.v≤1000000:=fun o ho=>by have:=(sim_ok (off_sim (hG.off o (hm o ho))).1).2.1; omega
   have hl2:(P.pick ch).length≤160:=by rw[pick_len]; have:=okP_len c2; have:=hG.k; omega
   simp[c1]
   generalize P.pick ch=L at *
   refine awp_forW (stVa L) (fun _=>True) L.length (by simp[stVa,preS_zero]) trivial (fun k hk' _=>?_) (fun _=>?_)
   ·have e:(k:Int)<L.length:=by omega
    have hg:L[k]?=some L[k]:=by simp[hk']
    have w1:=wrap_succ (k:=k) (by omega)
    obtain ⟨p1,p2⟩:=preS_bound (f:=fun o:Of=>o.v) hP k (by omega)
    have p3:=hP _ (List.getElem_mem hk')
    have w3:IntKind.i64.wrap (preS (fun o=>o.v) L k+L[k].v)=preS (fun o=>o.v) L k+L[k].v:=by rw[wrap64]<;>omega
    have hs:=preS_succ (f:=fun o:Of=>o.v) hg
    simp[c_problem_Value_l0,stVa,e,hk',w1,w3,hs]
   ·have hall:preS (fun o=>o.v) L L.length=(L.map fun o=>o.v).sum:=preS_all
    simp[c_problem_Value_l0,stVa,c_problem_Value_k1,hall,r_problem_Value]
  ·simp[c1,r_problem_Value]
 ·simp[c2,r_problem_Value]
end
end Go.Proofs.Ytbmhibiljjnfiaa

namespace Go.Proofs.Ytbmhibiljjnfiaa
open Go Go.Am Go.Pb
def rowsE (P:Pb):Nat:=if P.chk=0 then P.rows else 0
def rowL (P:Pb) (r:Nat):List Int:=P.of.map (P.coef r)
section
variable {P:Pb} {r n:Nat} {o:Of} {L:List Of}
theorem rows2_s (hn:P.cl.length≤1000) (hk:P.of.length≤1000000):SoundCall Try.prog F_problem_Rows [.agg (pbC P)] (iv (rowsE P)):=by
 refine sound' t_problem_Rows (by simp) ?_
 simp[c_problem_Rows]
 refine eCall_i (check_s hn hk) (by simp) (by simp) ?_
 unfold rowsE
 by_cases c1:P.chk=0
 ·simp[c1,pbX_splice]
  refine eCall_i (rows_s hn) (by simp) (by simp) ?_
  simp[r_problem_Rows]
 ·simp[c1,r_problem_Rows]
theorem rrows_s (hn:P.cl.length≤1000) (hk:P.of.length≤1000000):SoundCall Try.prog F_ref20_Rows [.agg (pbC P)] (iv (rowsE P)):=by
 refine sound' t_ref20_Rows (by simp) ?_
 simp[c_ref20_Rows]
 refine eCall_i (rcheck_s hn hk) (by simp) (by simp) ?_
 unfold rowsE
 by_cases c1:P.chk=0
 ·have w1:IntKind.i64.wrap ((P.cl.length:Int)+12)=(P.cl.length:Int)+12:=by rw[wrap64]<;>omega
  have e:((P.rows:Nat):Int)=(P.cl.length:Int)+12:=by unfold Pb.rows; omega
  simp[c1,w1,e,r_ref20_Rows]
 ·simp[c1,r_ref20_Rows]
noncomputable def stRw (P:Pb) (r:Int) (q k:Nat):St:={env:=[(1,iv r),(4,apc 32 1 (clR ((rowL P q).take k))),(6,.ptr 6 0),(20,ofA P.of),(21,iv P.of.length),(22,iv k)],sto:=[(6,.var (pbC P))]}
noncomputable def stRv (P:Pb) (r:Int) (q k:Nat):St:={env:=[(1,iv r),(2,.ptr 2 0),(6,apc 41 1 (clR ((rowL P q).take k))),(7,iv k)],sto:=[(2,.var (pbC P))]}
@[simp] theorem rowL_len:(rowL P r).length=P.of.length:=by simp[rowL]
theorem rowL_take {k:Nat} (h:k<P.of.length):clR ((rowL P r).take k)++[[iv (P.coef r P.of[k])]]=clR ((rowL P r).take (k+1)):=by
 rw[take_succ' (l:=rowL P r) (o:=P.coef r P.of[k]) (by simp[rowL,h])]
 simp[clR]
theorem rowL_all {k:Nat} (h:P.of.length≤k):(rowL P r).take k=rowL P r:=List.take_of_length_le (by rw[rowL_len]; exact h)
def rowR (P:Pb) (r:Int):AV:=.tuple [if 0≤r∧r<rowsE P then clA (rowL P r.toNat) else nilL,iv (if 0≤r∧r<rowsE P then P.bnd r.toNat else 0)]
theorem row_s {r:Int} (hn:P.cl.length≤1000) (hk:P.of.length≤1000000):SoundCall Try.prog F_problem_Row [.agg (pbC P),iv r] (rowR P r):=by
 refine soundW' t_problem_Row (by simp) ?_
 unfold rowR
 by_cases b1:r<0
 ·have hc:¬ (0≤r∧r<rowsE P):=by omega
  simp[c_problem_Row,b1,hc,r_problem_Row]
  exact AV.imp.refl
 ·simp[c_problem_Row,b1]
  refine eCall_i (rows2_s hn hk) (by simp) (by simp) ?_
  by_cases b2:(rowsE P:Int)≤r
  ·have hc:¬ (0≤r∧r<rowsE P):=by omega
   simp[b2,hc,r_problem_Row]
   exact AV.imp.refl
  ·have hc:0≤r∧r<rowsE P:=by omega
   obtain ⟨q,rfl⟩:∃ q:Nat,r=q:=⟨r.toNat,by omega⟩
   have hG:P.Good:=by
    refine chk_good ?_
    unfold rowsE at hc
    split at hc
    ·assumption
    ·omega
   have hq:q<P.rows:=by
    unfold rowsE at hc
    split at hc<;>omega
   simp[b2,hc,pbX_splice]
   refine awp_forW (stRw P q q) (fun _=>True) P.of.length (by simp[stRw]) trivial (fun k hk' _=>?_) (fun _=>?_)
   ·have e:(k:Int)<P.of.length:=by omega
    have w1:=wrap_succ (k:=k) (by omega)
    have hm:P.of[k]∈P.of:=List.getElem_mem hk'
    have hs:=sim_ok (off_sim (hG.off _ hm)).1
    simp[c_problem_Row_l0,stRw,e,hk',oC_splice]
    refine eCall_i (coef_s (P:=P) (r:=q) hn hs.1 hq) (by simp) (by simp) ?_
    simp
    refine apc_add (by decide) rfl ?_ ?_ (by simp) ?_
    ·simp only[clR_len,rowL_len,List.length_take]; omega
    ·simp only[clR_len,rowL_len,List.length_take]; omega
    ·rw[rowL_take hk']
     simp[w1,stRw]
   ·simp[c_problem_Row_l0,stRw,c_problem_Row_k1,rowL_all]
    refine eCall_i (bound_s (P:=P) (r:=q) hn hq) (by simp) (by simp) ?_
    simp[r_problem_Row]
    exact AV.imp_tuple2 (plc_imp impr_refl)
theorem rrow_s {r:Int} (hn:P.cl.length≤1000) (hk:P.of.length≤1000000):SoundCall Try.prog F_ref20_Row [.agg (pbC P),iv r] (rowR P r):=by
 refine soundW' t_ref20_Row (by simp) ?_
 unfold rowR
 by_cases b1:r<0
 ·have hc:¬ (0≤r∧r<rowsE P):=by omega
  simp[c_ref20_Row,b1,hc,r_ref20_Row]
  exact AV.imp.refl
 ·simp[c_ref20_Row,b1]
  refine eCall_i (rrows_s hn hk) (by simp) (by simp) ?_
  by_cases b2:(rowsE P:Int)≤r
  ·have hc:¬ (0≤r∧r<rowsE P):=by omega
   simp[b2,hc,r_ref20_Row]
   exact AV.imp.refl
  ·have hc:0≤r∧r<rowsE P:=by omega
   obtain ⟨q,rfl⟩:∃ q:Nat,r=q:=⟨r.toNat,by omega⟩
   have hG:P.Good:=by
    refine chk_good ?_
    unfold rowsE at hc
    split at hc
    ·assumption
    ·omega
   have hq:q<P.rows:=by
    unfold rowsE at hc
    split at hc<;>omega
   simp[b2,hc]
   refine awp_forW (stRv P q q) (fun _=>True) P.of.length (by simp[stRv]) trivial (fun k hk' _=>?_) (fun _=>?_)
   ·have e:(k:Int)<P.of.length:=by omega
    have w1:=wrap_succ (k:=k) (by omega)
    have hm:P.of[k]∈P.of:=List.getElem_mem hk'
    have hs:=sim_ok (off_sim (hG.off _ hm)).1
    obtain ⟨c,hc1,hk1⟩:=rcoef_s (P:=P) (o:=P.of[k]) hn hs.1.1 hq
    have hc1:=hc1 hs.1.2
    subst hc1
    simp[c_ref20_Row_l0,stRv,e,hk']
    refine eCall_i hk1 (by simp) (by simp) ?_
    simp
    refine apc_add (by decide) rfl ?_ ?_ (by simp) ?_
    ·simp only[clR_len,rowL_len,List.length_take]; omega
    ·simp only[clR_len,rowL_len,List.length_take]; omega
    ·rw[rowL_take hk']
     simp[w1,stRv]
   ·obtain ⟨z,hz,hz0⟩:∃ z:Of,[iv 0,iv 0,iv 0,iv 0,iv 0,iv 0,iv 0,iv 0]=oC z∧0≤z.b:=⟨oZ,oC_zero,Int.le_refl 0⟩
    obtain ⟨c,_,hk1⟩:=rcoef_s (P:=P) (o:=z) hn hz0 hq
    have key:∀ K:Exit→St→Prop,K (.exit 0) {env:=[(1,iv q),(2,.ptr 2 0),(6,apc 41 1 (clR (rowL P q))),(7,iv P.of.length),(24,bv false)],sto:=[(2,.var (pbC P))]}→awp Try.prog c_ref20_Row_l0 (stRv P q q P.of.length) (lastC K):=by
     intro K h
     simp[c_ref20_Row_l0,stRv,rowL_all]
     exact h
    refine key _ ?_
    simp[c_ref20_Row_k1,hz]
    refine eCall_i hk1 (by simp) (by simp) ?_
    simp[r_ref20_Row]
    exact AV.imp_tuple2 (plc_imp impr_refl)
end
end Go.Proofs.Ytbmhibiljjnfiaa

namespace Go.Proofs.Ytbmhibiljjnfiaa
open Go Go.Am
def mb (m:Int) (b:Nat):Bool:=(BitVec.ofInt 64 m).getLsbD b
theorem mb_one (m:Int) (b:Nat) (h1:-9223372036854775808≤m) (h2:m<9223372036854775808) (hb:b<64):bitI .and .i64 (m.fdiv (2^b)) 1=if mb m b then 1 else 0:=by
 have hx:(BitVec.ofInt 64 m).toInt=m:=by
  rw[BitVec.toInt_ofInt,Int.bmod_eq_of_le]<;>omega
 have hs:BitVec.ofInt 64 (m.fdiv (2^b))=(BitVec.ofInt 64 m).sshiftRight b:=by
  apply BitVec.eq_of_toInt_eq
  rw[BitVec.toInt_sshiftRight,hx,← hx]
  conv=>rhs; rw[← BitVec.toInt_sshiftRight,← BitVec.ofInt_toInt (x:=(BitVec.ofInt 64 m).sshiftRight b),BitVec.toInt_sshiftRight]
  rw[Int.shiftRight_eq_div_pow,Int.fdiv_eq_ediv_of_nonneg _ (Int.le_of_lt (Int.pow_pos (by decide)))]
  rfl
 have hbits:IntKind.i64.bits=64:=rfl
 simp only[bitI]
 rw[hbits,hs]
 have hg:(BitVec.ofInt 64 m).getLsbD b=((BitVec.ofInt 64 m).sshiftRight b).getLsbD 0:=by
  rw[BitVec.getLsbD_sshiftRight]
  simp[hb]
 unfold mb
 rw[hg]
 generalize (BitVec.ofInt 64 m).sshiftRight b=y
 have e1:(y &&& BitVec.ofInt 64 1).toNat=y.toNat%2:=by
  rw[BitVec.toNat_and]
  have:(BitVec.ofInt 64 1).toNat=1:=by decide
  rw[this,Nat.and_one_is_mod]
 rw[e1]
 have e2:y.getLsbD 0=decide (y.toNat%2=1):=by
  rw[BitVec.getLsbD,Nat.testBit_zero]
 rw[e2]
 by_cases h:y.toNat%2=1
 ·rw[h]; simp; rw[wrap64]<;>omega
 ·have:y.toNat%2=0:=by omega
  rw[this]; simp; rw[wrap64]<;>omega
end Go.Proofs.Ytbmhibiljjnfiaa

namespace Go.Proofs.Ytbmhibiljjnfiaa
open Go Go.Am Go.Pb
def pbZ:Pb:=⟨fun _=>0,fun _=>0,fun _=>0,[],[]⟩
def keepL (m:Int) (L:List Of):List Of:=L.filter fun o=>!mb m o.b.toNat
def woP (P:Pb) (m:Int):Pb:={P with of:=keepL m P.of}
def woE (P:Pb) (m:Int):Pb:=if P.chk=0 then woP P m else pbZ
section
variable {P:Pb} {r n:Nat} {o:Of} {L:List Of}
theorem pbZ_eq:[iv 0,iv 0,iv 0,iv 0,iv 0,iv 0,iv 0,iv 0,iv 0,iv 0,iv 0,iv 0,iv 0,iv 0,iv 0,iv 0,iv 0,iv 0,nilL,nilL]=pbX pbZ nilL nilL:=by rw[pbX_eq]; rfl
theorem pbX_imp {c c' o o':AV} (h1:AV.imp c c') (h2:AV.imp o o'):AV.imp (.agg (pbX P c o)) (.agg (pbX P c' o')):=by
 rw[pbX_eq,pbX_eq]
 refine imp_agg ?_
 repeat' first | exact imps_cons h1 (imps_cons h2 imps_nil) | refine imps_cons AV.imp.refl ?_
theorem pbZ_impX:AV.imp (.agg (pbX pbZ nilL nilL)) (.agg (pbC pbZ)):=pbX_imp (AV.imp_nil rfl) (AV.imp_nil rfl)
theorem clone_s {l:List Int} (hl:l.length≤1000000):SoundCall Try.prog F_slices_Cloneasl_int_int_ [clA l] (clA l):=by
 refine soundW' t_slices_Cloneasl_int_int_ (by simp) ?_
 by_cases h0:l=[]
 ·subst h0
  simp[c_slices_Cloneasl_int_int_,r_slices_Cloneasl_int_int_]
  exact ⟨AV.imp_nil rfl,AV.imp.refl⟩
 ·have h1:clR l≠[]:=fun h=>h0 (by have:=congrArg List.length h; simpa using this)
  simp[c_slices_Cloneasl_int_int_,h1,r_slices_Cloneasl_int_int_]
  exact ⟨by omega,by omega,AV.imp.refl⟩
theorem keepL_take {m:Int} {k:Nat} (h:L[k]?=some o):keepL m (L.take (k+1))=if mb m o.b.toNat then keepL m (L.take k) else keepL m (L.take k)++[o]:=by
 unfold keepL
 rw[take_succ' h,List.filter_append]
 cases hb:mb m o.b.toNat<;>simp[hb]
theorem keepL_len {m:Int}:(keepL m L).length≤L.length:=List.length_filter_le _ _
noncomputable def stWo (P:Pb) (m:Int) (k:Nat):St:={env:=[(1,iv m),(4,.ptr 4 0),(5,.ptr 5 0),(19,ofA P.of),(20,iv P.of.length),(21,iv k)],sto:=[(4,.var (pbX pbZ nilL nilL)),(5,.var (pbX P (clA P.cl) (apc 35 8 (ofR (keepL m (P.of.take k))))))]}
@[simp] theorem pbX_splice0 {c o c' o':AV} {Q:Pb}:splice (pbX Q c' o') 0 (pbX P c o)=pbX P c o:=pbX_splice pbX_len
theorem goLoad_pbX {c o:AV} (hc:rf c=true) (ho:rf o=true):goLoad (pbX P c o) 0 (some 20)=some (.agg (pbX P (strip c) (strip o))):=by rw[goLoad_all pbX_len (pbX_rf hc ho),pbX_strip]
@[simp] theorem pbX_st18 {c o x:AV}:(pbX P c o).set 18 x=pbX P x o:=by rw[pbX_eq,pbX_eq]; rfl
@[simp] theorem pbX_st19 {c o x:AV}:(pbX P c o).set 19 x=pbX P c x:=by rw[pbX_eq,pbX_eq]; rfl
@[simp] theorem goLoad_pbN:goLoad (pbX P nilL nilL) 0 (some 20)=some (.agg (pbX P nilL nilL)):=goLoad_pbX rfl rfl
@[simp] theorem goLoad_pbA {l:List Int} {tok:Nat} {rows:List (List AV)}:goLoad (pbX P (clA l) (apc tok 8 rows)) 0 (some 20)=some (.agg (pbX P (clA l) (plc 8 rows))):=by rw[goLoad_pbX rfl (by simp),apc_strip]; rfl
@[simp] theorem goLoad_pbB {l:List Int} {rows:List (List AV)}:goLoad (pbX P (clA l) (plc 8 rows)) 0 (some 20)=some (.agg (pbX P (clA l) (plc 8 rows))):=by rw[goLoad_pbX rfl (by simp),plc_strip]; rfl
theorem wo_out {X:List Of} {m:Int} (h:X=keepL m P.of):AV.imp (.agg (pbX P (clA P.cl) (plc 8 (ofR X)))) (.agg (pbC (woP P m))):=by
 have e:pbC (woP P m)=pbX P (clA P.cl) (ofA (keepL m P.of)):=by unfold woP; simp only[pbX_eq]
 rw[e,← h]
 exact pbX_imp AV.imp.refl (plc_imp impr_refl)
theorem without_s {m:Int} (h1:-9223372036854775808≤m) (h2:m<9223372036854775808) (hn:P.cl.length≤1000) (hk:P.of.length≤1000000):SoundCall Try.prog F_problem_Without [.agg (pbC P),iv m] (.agg (pbC (woE P m))):=by
 refine soundW' t_problem_Without (by simp) ?_
 simp[c_problem_Without,pbZ_eq]
 refine eCall_i (check_s hn hk) (by simp) (by simp) ?_
 unfold woE
 by_cases c1:P.chk=0
 ·have hG:=chk_good c1
  rw[if_pos c1]
  simp[c1]
  refine eCall_i (clone_s (l:=P.cl) (by omega)) (by simp) (by simp) ?_
  simp
  refine awp_forW (stWo P m) (fun _=>True) P.of.length (by simp[stWo,keepL]) trivial (fun k hk' _=>?_) (fun _=>?_)
  ·have e:(k:Int)<P.of.length:=by omega
   have w1:=wrap_succ (k:=k) (by omega)
   have hm:P.of[k]∈P.of:=List.getElem_mem hk'
   obtain ⟨hb,_,_⟩:=sim_ok (off_sim (hG.off _ hm)).1
   have hgk:P.of[k]?=some P.of[k]:=by simp[hk']
   have ht:=keepL_take (m:=m) hgk
   obtain ⟨o,ho⟩:∃ o,P.of[k]=o:=⟨_,rfl⟩
   rw[ho] at hb ht
   have hn8:=hG.n
   have b1:¬ o.b<0:=by omega
   have b2:min o.b.toNat 64=o.b.toNat:=by omega
   have h64:IntKind.i64.bits=64:=rfl
   have hbit:=mb_one m o.b.toNat h1 h2 (by omega)
   have hlen:=keepL_len (m:=m) (L:=P.of.take k)
   rw[List.length_take] at hlen
   cases hv:mb m o.b.toNat
   ·rw[hv] at hbit ht
    simp at hbit
    simp at ht
    simp[c_problem_Without_l0,stWo,e,hk',ho,eBin_shr b1,h64,b2,hbit]
    refine apc_add (by decide) rfl ?_ ?_ (by simp) ?_
    ·simp only[ofR_len]; omega
    ·simp only[ofR_len]; omega
    ·have hro:ofR (keepL m (P.of.take k))++[oC o]=ofR (keepL m (P.of.take (k+1))):=by rw[ht,ofR_app]; rfl
     rw[hro]
     simp[-cellsOf,w1,stWo]
   ·rw[hv] at hbit ht
    simp at hbit
    simp at ht
    simp[c_problem_Without_l0,stWo,e,hk',ho,eBin_shr b1,h64,b2,hbit,w1,ht]
  ·simp[c_problem_Without_l0,stWo,c_problem_Without_k1,r_problem_Without]
   exact wo_out rfl
 ·rw[if_neg c1]
  simp[c1,r_problem_Without]
  exact pbZ_impX
end
end Go.Proofs.Ytbmhibiljjnfiaa

namespace Go.Proofs.Ytbmhibiljjnfiaa
open Go Go.Am Go.Dig
def stTr (m:Am.Mode) (a:List Nat) (k:Nat):St:={env:=[(0,nl m a),(3,iv ((a.length-k:Nat):Int))],sto:=[]}
theorem trim_sound {m:Am.Mode} {a:List Nat} (ha:ok a) (hn:a.length<1099511627776):SoundCall Try.prog F_n_trim [nl m a] (nD (val a)):=by
 obtain ⟨h1,h2,h3,h4⟩:=len_facts ha
 refine soundW' t_n_trim (by simp) ?_
 simp[c_n_trim]
 generalize hT:(digs (val a)).length=T at h1 h2 h3 h4
 refine awp_for (stTr m a) (a.length-T) ?_ (fun k hk=>?_) ?_
 ·simp[stTr]
 ·have hp:0<a.length-k:=by omega
  have hp2:k<a.length:=by omega
  have w:IntKind.i64.wrap (((a.length-k:Nat):Int)-1)=((a.length-(k+1):Nat):Int):=by rw[wrap64]<;>omega
  have hlt:a.length-(k+1)<a.length:=by omega
  have hz:=h2 (a.length-(k+1)) hlt (by omega)
  simp[c_n_trim_l0,stTr,hp,w,hlt,hz]
 ·have e:a.length-(a.length-T)=T:=by omega
  rcases T with _ | T
  ·have h5:digs (val a)=[]:=by rw[← h4]; rfl
   simp[c_n_trim_l0,stTr,c_n_trim_k1,r_n_trim]
   rw[show nD (val a)=.list 1 .plain [] by simp only[nD,nl,drows,h5,List.map_nil]]
   exact imp_full
  ·have w:IntKind.i64.wrap (((T+1:Nat):Int)-1)=(T:Int):=by rw[wrap64]<;>omega
   have hz:=h3 (by omega) (by omega)
   simp only[Nat.add_sub_cancel] at hz
   have hlt:T<a.length:=by omega
   have ht:List.take (T+1) (drows a)=drows (digs (val a)):=by rw[← h4]; simp
   have en:((T:Int)+1).toNat=T+1:=by omega
   have e0:(0:Int)≤(T:Int)+1:=by omega
   have e1:(T:Int)+1≤a.length:=by omega
   simp at w
   simp[c_n_trim_l0,stTr,e,w,hlt,hz,e0,e1,en,c_n_trim_k1,r_n_trim]
   first | (rw[ht]; exact imp_full) | (simp only[← List.map_take]; rw[h4]; exact imp_full)
end Go.Proofs.Ytbmhibiljjnfiaa

namespace Go.Proofs.Ytbmhibiljjnfiaa
open Go Go.Am Go.Dig
theorem wu64 (n:Int):IntKind.u64.wrap n=n%18446744073709551616:=by simp[IntKind.wrap,IntKind.bits,IntKind.signed]
abbrev u64v (n:Nat):AV:=.val (.int .u64 (n:Int))
theorem shr32 (n:Nat):(n:Int).fdiv (2^min 32 IntKind.u64.bits)=((n/B:Nat):Int):=by
 have:min 32 IntKind.u64.bits=32:=rfl
 rw[this,Int.fdiv_eq_ediv_of_nonneg _ (by decide),B_eq]
 rfl
theorem drows_set {a:List Nat} {k d:Nat}:(drows a).set k [uv d]=drows (a.set k d):=by simp[List.map_set]
theorem val_take_all {b:List Nat} {k:Nat} (h:b.length≤k):val (b.take k)=val b:=by rw[List.take_of_length_le h]
theorem val_take_le {a:List Nat} (h:ok a) (k:Nat):val (a.take k)<B^k:=val_lt_of (ok_take h k) (by simp; omega)
def low (a b:List Nat) (k:Nat):Nat:=val (a.take k)+val (b.take k)
def car (a b:List Nat) (k:Nat):Nat:=low a b k/B^k
theorem car_le {a b:List Nat} (ha:ok a) (hb:ok b) (k:Nat):car a b k≤1:=by
 have h1:=val_take_le ha k
 have h2:=val_take_le hb k
 have:low a b k<2*B^k:=by unfold low; omega
 have:=Nat.div_lt_of_lt_mul (Nat.mul_comm 2 _▸this)
 unfold car
 omega
theorem car_zero {a b:List Nat}:car a b 0=0:=by simp[car,low,val]
theorem low_split {a b:List Nat} {k t R:Nat} (h:low a b (k+1)=low a b k+B^k*t) (hs:val a+val b=low a b (k+1)+B^(k+1)*R) :
  (val a+val b)/B^k%B=(car a b k+t)%B∧car a b (k+1)=(car a b k+t)/B:=by
 constructor
 ·rw[hs,h,col_digit]; rfl
 ·unfold car; rw[h,col_carry]
theorem low_rest (a b:List Nat) (k:Nat) (ha:k≤a.length) (hb:k≤b.length∨b.length≤k):∃ R,val a+val b=low a b k+B^k*R:=by
 have e1:=val_split a k
 rw[Nat.min_eq_left ha] at e1
 rcases hb with hb | hb
 ·have e2:=val_split b k
  rw[Nat.min_eq_left hb] at e2
  exact ⟨val (a.drop k)+val (b.drop k),by unfold low; rw[Nat.mul_add]; omega⟩
 ·exact ⟨val (a.drop k),by unfold low; rw[val_take_all hb]; omega⟩
theorem add_col {a b:List Nat} {k:Nat} (hk:k<a.length) (hb:k<b.length∨b.length≤k):∃ t,t=car a b k+(a[k]+(b[k]?.getD 0))∧(val a+val b)/B^k%B=t%B∧car a b (k+1)=t/B:=by
 refine ⟨_,rfl,?_⟩
 obtain ⟨R,hR⟩:=low_rest a b (k+1) (by omega) (by omega)
 rcases hb with hb | hb
 ·rw[List.getElem?_eq_getElem hb,Option.getD_some]
  exact low_split (by unfold low; rw[val_take_succ hk,val_take_succ hb,Nat.mul_add]; omega) hR
 ·rw[List.getElem?_eq_none hb,Option.getD_none]
  exact low_split (by unfold low; rw[val_take_succ hk,val_take_all hb,val_take_all (show b.length≤k+1 by omega)]; simp; omega) hR
def stAdd (m1 m2:Am.Mode) (a b:List Nat) (k:Nat):St :=
 {env:=[(0,nl m1 a),(1,nl m2 b),(5,.sl 19 1 0 (a.length+1)),(6,u64v (car a b k)),(21,iv a.length),(22,iv k)],sto:=[(19,.arr 1 (drows (fillN (a.length+1) k (val a+val b))))]}
theorem add_loop {m1 m2:Am.Mode} {a b:List Nat} (ha:ok a) (hb:ok b) (hl:b.length≤a.length) (hn:a.length<1099511627775) :
  awp Try.prog (.loop c_n_Add_l0) (stAdd m1 m2 a b 0) (blockC 0 (seqC Try.prog c_n_Add_k1 (retW r_n_Add (nD (val a+val b))))):=by
 have hS:val a+val b<B^(a.length+1):=by
  have h1:=val_lt ha
  have h2:=val_lt_of hb hl
  rw[Nat.pow_succ,B_eq] at *
  omega
 refine awp_forW (stAdd m1 m2 a b) (fun _=>True) a.length (by simp[stAdd]) trivial (fun k hk _=>?_) (fun _=>?_)
 ·have e:(k:Int)<a.length:=by omega
  have hc:=car_le ha hb k
  have hak:=ok_get ha hk
  have hfl:=fillN_len (n:=a.length+1) (k:=k) (S:=val a+val b) (by omega)
  have hfk:k<(fillN (a.length+1) k (val a+val b)).length:=by omega
  have hset:=fillN_set (n:=a.length+1) (k:=k) (S:=val a+val b) (by omega)
  have e1:IntKind.u64.wrap ((a[k]:Nat):Int)=(a[k]:Nat):=w64 (by rw[B_eq] at hak; omega)
  obtain ⟨t,ht,g1,g2⟩:=add_col (a:=a) (b:=b) hk (by omega)
  rw[g1] at hset
  obtain ⟨d,hd⟩:∃ d,t%B=d:=⟨_,rfl⟩
  obtain ⟨q,hq⟩:∃ q,t/B=q:=⟨_,rfl⟩
  have f1:IntKind.u32.wrap (t:Int)=(d:Int):=by rw[w32,hd]
  have f2:(t:Int).fdiv (2^min 32 IntKind.u64.bits)=(q:Int):=by rw[shr32,hq]
  rw[hd] at hset
  have hset':(drows (fillN (a.length+1) k (val a+val b))).set k [uv d]=drows (fillN (a.length+1) (k+1) (val a+val b)):=by rw[drows_set,hset]
  rw[hq] at g2
  rw[B_eq] at hak
  have e4:IntKind.u64.wrap ((a[k]:Int)+(car a b k:Int))=((a[k]:Int)+(car a b k:Int)):=by rw[w64']<;>omega
  by_cases hkb:k<b.length
  ·have e2:(k:Int)<b.length:=by omega
   have hbk:=ok_get hb hkb
   rw[B_eq] at hbk
   rw[List.getElem?_eq_getElem hkb,Option.getD_some] at ht
   have e3:IntKind.u64.wrap ((b[k]:Nat):Int)=(b[k]:Nat):=w64 (by omega)
   have e5:IntKind.u64.wrap ((a[k]:Int)+(car a b k:Int)+(b[k]:Int))=(t:Int):=by rw[w64']<;>omega
   simp[c_n_Add_l0,stAdd,e,e2,hk,hkb,e1,e3,e4,e5,eBin_shr,hfk,splice,f1,f2,hset',g2,wrap_succ (show k<4611686018427387904 by omega)]
   omega
  ·have e2:¬ (k:Int)<b.length:=by omega
   rw[List.getElem?_eq_none (by omega),Option.getD_none] at ht
   have e5:(a[k]:Int)+(car a b k:Int)=(t:Int):=by omega
   rw[e5] at e4
   simp[c_n_Add_l0,stAdd,e,e2,hk,e1,e5,e4,eBin_shr,hfk,splice,f1,f2,hset',g2,wrap_succ (show k<4611686018427387904 by omega)]
   omega
 ·have hfl:=fillN_len (n:=a.length+1) (k:=a.length) (S:=val a+val b) (by omega)
  have hfk:a.length<(fillN (a.length+1) a.length (val a+val b)).length:=by omega
  have hset:=fillN_set (n:=a.length+1) (k:=a.length) (S:=val a+val b) (by omega)
  have hc:=car_le ha hb a.length
  have hcl:(val a+val b)/B^a.length%B=car a b a.length:=by
   have h1:car a b a.length=(val a+val b)/B^a.length:=by
    unfold car low; rw[val_take_all (Nat.le_refl _),val_take_all hl]
   rw[← h1,Nat.mod_eq_of_lt (by rw[B_eq]; omega)]
  rw[hcl] at hset
  have hset':(drows (fillN (a.length+1) a.length (val a+val b))).set a.length [uv (car a b a.length)]=drows (digsN (a.length+1) (val a+val b)):=by rw[drows_set,hset,fillN_all]
  have f1:IntKind.u32.wrap (car a b a.length:Int)=(car a b a.length:Int):=IntWalk.u32_in _ (by omega)
  have hle:a.length+1≤(digsN (a.length+1) (val a+val b)).length:=by rw[digsN_len]; exact Nat.le_refl _
  have htk:(drows (digsN (a.length+1) (val a+val b))).take (a.length+1)=drows (digsN (a.length+1) (val a+val b)):=List.take_of_length_le (by rw[List.length_map,digsN_len]; exact Nat.le_refl _)
  have key:=trim_sound (m:=.plain) (a:=digsN (a.length+1) (val a+val b)) ok_digsN (by rw[digsN_len]; omega)
  rw[val_digsN_lt hS] at key
  simp[c_n_Add_l0,stAdd,c_n_Add_k1,hfk,splice,f1,hset',eFreeze,frzE,htk,hle]
  refine ⟨by omega,?_⟩
  refine eCall_i key (by simp) (by simp) ?_
  simp[r_n_Add]
  exact AV.imp.refl
theorem add_sound {m1 m2:Am.Mode} {a b:List Nat} (ha:ok a) (hb:ok b) (hna:a.length<1099511627775) (hnb:b.length<1099511627775):SoundCall Try.prog F_n_Add [nl m1 a,nl m2 b] (nD (val a+val b)):=by
 refine soundW' t_n_Add (by simp) ?_
 by_cases h:a.length<b.length
 ·have h':(a.length:Int)<b.length:=by omega
  have w:IntKind.i64.wrap ((b.length:Int)+1)=(b.length:Int)+1:=wrap64 (by omega) (by omega)
  have key:=add_loop (m1:=m2) (m2:=m1) hb ha (by omega) (by omega)
  rw[Nat.add_comm (val b)] at key
  have e1:((b.length:Int)+1).toNat=b.length+1:=by omega
  simp[c_n_Add,h',w,eMk,e1]
  refine ⟨by omega,by omega,by omega,?_⟩
  have e2:stAdd m2 m1 b a 0={env:=[(0,nl m2 b),(1,nl m1 a),(5,.sl 19 1 0 (b.length+1)),(6,u64v 0),(21,iv b.length),(22,iv 0)],sto:=[(19,.arr 1 (List.replicate (b.length+1) [uv 0]))]}:=by
   simp[stAdd,car_zero,fillN_zero]
  rw[e2] at key
  exact key
 ·have h':¬ (a.length:Int)<b.length:=by omega
  have w:IntKind.i64.wrap ((a.length:Int)+1)=(a.length:Int)+1:=wrap64 (by omega) (by omega)
  have key:=add_loop (m1:=m1) (m2:=m2) ha hb (by omega) (by omega)
  have e1:((a.length:Int)+1).toNat=a.length+1:=by omega
  simp[c_n_Add,h',w,eMk,e1]
  refine ⟨by omega,by omega,by omega,?_⟩
  have e2:stAdd m1 m2 a b 0={env:=[(0,nl m1 a),(1,nl m2 b),(5,.sl 19 1 0 (a.length+1)),(6,u64v 0),(21,iv a.length),(22,iv 0)],sto:=[(19,.arr 1 (List.replicate (a.length+1) [uv 0]))]}:=by
   simp[stAdd,car_zero,fillN_zero]
  rw[e2] at key
  exact key
end Go.Proofs.Ytbmhibiljjnfiaa

namespace Go.Proofs.Ytbmhibiljjnfiaa
open Go Go.Am Go.Dig
def cmpN (x y:Nat):Int:=if x<y then -1 else if y<x then 1 else 0
def stCmp (x y:Nat) (k:Nat):St:={env:=[(0,nD x),(1,nD y),(22,iv (digs x).length),(23,iv k)],sto:=[]}
theorem cmp_sound {m1 m2:Am.Mode} {a b:List Nat} (ha:ok a) (hb:ok b) (hna:a.length<1099511627776) (hnb:b.length<1099511627776):SoundCall Try.prog F_n_Cmp [nl m1 a,nl m2 b] (iv (cmpN (val a) (val b))):=by
 refine sound' t_n_Cmp (by simp) ?_
 simp[c_n_Cmp]
 refine eCall_i (trim_sound (m:=stm m1) ha hna) (by simp[strip_list]) (by simp) ?_
 simp
 refine eCall_i (trim_sound (m:=stm m2) hb hnb) (by simp[strip_list]) (by simp) ?_
 have lx:=digs_digs_norm ha
 have ly:=digs_digs_norm hb
 generalize val a=x at *
 generalize val b=y at *
 by_cases hl:(digs x).length=(digs y).length
 ·have hl':(((digs x).length:Nat):Int)=((digs y).length:Int):=by omega
  simp[hl']
  refine awp_forW (stCmp x y) (fun k=>(digs x).drop ((digs x).length-k)=(digs y).drop ((digs x).length-k)) (digs x).length (by simp[stCmp,hl]) (by simp[hl]) (fun k hk hi=>?_) (fun hi=>?_)
  ·have e:(k:Int)<(digs x).length:=by omega
   have w:IntKind.i64.wrap (((digs x).length:Int)-1-k)=(((digs x).length-1-k:Nat):Int):=by rw[wrap64]<;>omega
   have w0:IntKind.i64.wrap (((digs x).length:Int)-1)=((digs x).length:Int)-1:=by rw[wrap64]<;>omega
   obtain ⟨j,hj⟩:∃ j,(digs x).length-1-k=j:=⟨_,rfl⟩
   rw[hj] at w
   have hjx:j<(digs x).length:=by omega
   have hjy:j<(digs y).length:=by omega
   have ejx:(j:Int)<(digs x).length:=by omega
   have ejy:(j:Int)<(digs y).length:=by omega
   have hd:(digs x).drop (j+1)=(digs y).drop (j+1):=by
    have:j+1=(digs x).length-k:=by omega
    rw[this]; exact hi
   rcases Nat.lt_trichotomy (digs x)[j] (digs y)[j] with h | h | h
   ·have hlt:=cmp_of_high (ok_digs x) (ok_digs y) hl hjx hd h
    rw[val_digs,val_digs] at hlt
    have hc:cmpN x y=-1:=by simp[cmpN,hlt]
    simp[c_n_Cmp_l0,stCmp,e,w0,w,hjx,hjy,ejx,ejy,h,r_n_Cmp,hc]
   ·have hnext:(digs x).drop ((digs x).length-(k+1))=(digs y).drop ((digs x).length-(k+1)):=by
     have:(digs x).length-(k+1)=j:=by omega
     rw[this,List.drop_eq_getElem_cons hjx,List.drop_eq_getElem_cons hjy,h,hd]
    simp[c_n_Cmp_l0,stCmp,e,w0,w,hjx,hjy,ejx,ejy,h,wrap_succ (show k<4611686018427387904 by omega),hnext]
   ·have hlt:=cmp_of_high (ok_digs y) (ok_digs x) hl.symm hjy hd.symm h
    rw[val_digs,val_digs] at hlt
    have hn:¬ (digs x)[j]<(digs y)[j]:=by omega
    have hc:cmpN x y=1:=by
     have:¬ x<y:=by omega
     simp[cmpN,hlt,this]
    simp[c_n_Cmp_l0,stCmp,e,w0,w,hjx,hjy,ejx,ejy,h,hn,r_n_Cmp,hc]
  ·have hxy:x=y:=digs_inj (by simpa using hi)
   have hc:cmpN x y=0:=by simp[cmpN,hxy]
   simp[c_n_Cmp_l0,stCmp,c_n_Cmp_k1,r_n_Cmp,hc]
 ·have hl':¬ (((digs x).length:Nat):Int)=((digs y).length:Int):=by omega
  by_cases hlt:(digs x).length<(digs y).length
  ·have hlt':(((digs x).length:Nat):Int)<((digs y).length:Int):=by omega
   have hc:cmpN x y=-1:=by simp[cmpN,lt_of_len hlt]
   simp[hl',hlt',r_n_Cmp,hc]
  ·have hlt':¬ (((digs x).length:Nat):Int)<((digs y).length:Int):=by omega
   have h2:=lt_of_len (show (digs y).length<(digs x).length by omega)
   have hc:cmpN x y=1:=by
    have:¬ x<y:=by omega
    simp[cmpN,h2,this]
   simp[hl',hlt',r_n_Cmp,hc]
theorem wsub (u v:Int):IntKind.u64.wrap (IntKind.u64.wrap u-v)=IntKind.u64.wrap (u-v):=by
 rw[wu64,wu64,wu64]; omega
theorem w3264 (u:Int):IntKind.u32.wrap (IntKind.u64.wrap u)=u%4294967296:=by
 rw[wu64,IntKind.wrap_u32]; omega
theorem shr63 {u:Int} (h1:-8589934592≤u) (h2:u<8589934592):(IntKind.u64.wrap u).fdiv (2^min 63 IntKind.u64.bits)=if u<0 then 1 else 0:=by
 have:min 63 IntKind.u64.bits=63:=rfl
 rw[this,Int.fdiv_eq_ediv_of_nonneg _ (by decide),wu64]
 have:(2:Int)^63=9223372036854775808:=by decide
 rw[this]
 split<;>omega
end Go.Proofs.Ytbmhibiljjnfiaa

namespace Go.Dig
theorem val_set {o:List Nat} {j d:Nat} (hj:j<o.length):val (o.set j d)+B^j*o[j]=val o+B^j*d:=by
 induction o generalizing j with
 | nil=>simp at hj
 | cons x o ih =>
  rcases j with _ | j
  ·simp[val]; omega
  ·simp only[List.length_cons,Nat.add_lt_add_iff_right] at hj
   have:=ih hj
   simp only[List.set_cons_succ,val,List.getElem_cons_succ,Nat.pow_succ]
   have e1:B^j*B*o[j]=B*(B^j*o[j]):=by rw[Nat.mul_comm (B^j) B,Nat.mul_assoc]
   have e2:B^j*B*d=B*(B^j*d):=by rw[Nat.mul_comm (B^j) B,Nat.mul_assoc]
   rw[e1,e2]
   have e3:B*(val (o.set j d)+B^j*o[j])=B*(val o+B^j*d):=by rw[this]
   rw[Nat.mul_add,Nat.mul_add] at e3
   omega
theorem ok_getD {a:List Nat} (h:ok a) (i:Nat):a.getD i 0<B:=by
 rw[List.getD_eq_getElem?_getD]
 by_cases hi:i<a.length
 ·rw[List.getElem?_eq_getElem hi]; exact ok_get h hi
 ·rw[List.getElem?_eq_none (by omega)]; exact B_pos
theorem mul_bound {x y z w:Nat} (hx:x<B) (hy:y<B) (hz:z<B) (hw:w<B):x*y+z+w<B*B:=by
 have h:x*y≤(B-1)*(B-1):=Nat.mul_le_mul (by omega) (by omega)
 have:(B-1)*(B-1)+(B-1)+(B-1)<B*B:=by decide
 omega
def smallQ (n D i:Nat):List Nat:=List.replicate (n-i) 0++(digsN n D).drop (n-i)
theorem smallQ_zero {n D:Nat}:smallQ n D 0=List.replicate n 0:=by
 simp[smallQ,digsN_len]
theorem smallQ_all {n D:Nat}:smallQ n D n=digsN n D:=by simp[smallQ]
theorem smallQ_len {n D i:Nat} (_h:i≤n):(smallQ n D i).length=n:=by simp[smallQ,digsN_len]; try omega
theorem smallQ_set {n D i:Nat} (h:i<n):(smallQ n D i).set (n-1-i) (D/B^(n-1-i)%B)=smallQ n D (i+1):=by
 obtain ⟨j,hj⟩:∃ j,n-1-i=j:=⟨_,rfl⟩
 have h1:n-i=j+1:=by omega
 have h2:n-(i+1)=j:=by omega
 unfold smallQ
 rw[hj,h1,h2,List.replicate_succ']
 rw[List.append_assoc,List.set_append_right _ _ (by simp)]
 simp only[List.length_replicate,Nat.sub_self]
 have hlt:j<(digsN n D).length:=by rw[digsN_len]; omega
 rw[List.drop_eq_getElem_cons hlt,digsN_get]
 rfl
theorem small_step {A d:Nat} (hd:0<d):(A/B%d*B+A%B)/d=A/d%B∧(A/B%d*B+A%B)%d=A%d∧A/B%d*B+A%B<d*B:=by
 have hA:=Nat.div_add_mod A B
 have h1:=Nat.div_add_mod (A/B) d
 have hm:=Nat.mod_lt (A/B) hd
 have hb:=Nat.mod_lt A B_pos
 have hlt:A/B%d*B+A%B<d*B:=by
  have:(A/B%d+1)*B≤d*B:=Nat.mul_le_mul_right _ hm
  rw[Nat.add_mul] at this
  omega
 have key:A=d*(A/B/d*B)+(A/B%d*B+A%B):=by
  have e:B*(A/B)=B*(d*(A/B/d)+A/B%d):=by rw[h1]
  rw[Nat.mul_add] at e
  have e2:d*(A/B/d*B)=B*(d*(A/B/d)):=by rw[← Nat.mul_assoc,Nat.mul_comm]
  rw[e2,Nat.mul_comm (A/B%d)]
  omega
 generalize A/B%d*B+A%B=t at *
 generalize A/B/d=g at *
 have hq:t/d<B:=Nat.div_lt_of_lt_mul hlt
 refine ⟨?_,?_,hlt⟩
 ·rw[key,Nat.mul_add_div hd,Nat.add_comm (g*B) _,Nat.add_mul_mod_self_right,Nat.mod_eq_of_lt hq]
 ·rw[key,Nat.mul_add_mod]
end Go.Dig

namespace Go.Proofs.Ytbmhibiljjnfiaa
open Go Go.Am Go.Dig
theorem fromUint_sound {x:Nat} (h:x<18446744073709551616):SoundCall Try.prog F_n_FromUint [u64v x] (nD x):=by
 have f2:(x:Int).fdiv (2^min 32 IntKind.u64.bits)=((x/B:Nat):Int):=shr32 x
 have f1:=w32 x
 have f3:=w32 (x/B)
 obtain ⟨d0,h0⟩:∃ d,x%B=d:=⟨_,rfl⟩
 obtain ⟨q,hq⟩:∃ q,x/B=q:=⟨_,rfl⟩
 obtain ⟨d1,h1⟩:∃ d,q%B=d:=⟨_,rfl⟩
 rw[hq] at f2 f3
 rw[h0] at f1
 rw[h1] at f3
 have hok:ok [d0,d1]:=by
  intro d hd
  simp at hd
  rcases hd with rfl | rfl
  ·rw[← h0]; exact Nat.mod_lt _ B_pos
  ·rw[← h1]; exact Nat.mod_lt _ B_pos
 have hv:val [d0,d1]=x:=by
  have e1:=Nat.mod_add_div x B
  have hq2:q<B:=by rw[← hq,B_eq]; omega
  rw[Nat.mod_eq_of_lt hq2] at h1
  simp only[val,Nat.mul_zero,Nat.add_zero]
  rw[← h1,← h0,← hq]
  exact e1
 have key:=trim_sound (m:=.full) (a:=[d0,d1]) hok (by simp)
 rw[hv] at key
 refine sound' t_n_FromUint (by simp) ?_
 simp[c_n_FromUint,eBin_shr,f1,f2,f3,rowsA]
 refine eCall_i key (by simp) (by simp) ?_
 simp[r_n_FromUint]
end Go.Proofs.Ytbmhibiljjnfiaa

namespace Go.Proofs.Ytbmhibiljjnfiaa
open Go Go.Am Go.Dig
theorem or_hi {r a:Nat} (hr:r<B) (ha:a<B):bitI .or .u64 ((r*B:Nat):Int) (a:Int)=((r*B+a:Nat):Int):=by
 rw[B_eq] at *
 have hbits:IntKind.u64.bits=64:=rfl
 simp only[bitI]
 rw[BitVec.toNat_or]
 have e1:(BitVec.ofInt IntKind.u64.bits ((r*4294967296:Nat):Int)).toNat=r*4294967296:=by rw[hbits,BitVec.toNat_ofInt]; omega
 have e2:(BitVec.ofInt IntKind.u64.bits (a:Int)).toNat=a:=by rw[hbits,BitVec.toNat_ofInt]; omega
 rw[e1,e2]
 have h3:=Nat.shiftLeft_add_eq_or_of_lt (i:=32) (b:=a) (by omega) r
 rw[Nat.shiftLeft_eq] at h3
 have:(2:Nat)^32=4294967296:=by decide
 rw[this] at h3
 rw[← h3]
 exact w64 (by omega)
theorem shl32 {r:Nat} (hr:r<B):IntKind.u64.wrap ((r:Int)*2^min 32 IntKind.u64.bits)=((r*B:Nat):Int):=by
 have:min 32 IntKind.u64.bits=32:=rfl
 rw[this]
 have:(2:Int)^32=4294967296:=by decide
 rw[this]
 rw[B_eq] at *
 rw[w64']<;>omega
def stSm (m:Am.Mode) (a:List Nat) (d i:Nat):St :=
 {env:=[(0,nl m a),(1,uv d),(6,.sl 13 1 0 a.length),(7,u64v (val a/B^(a.length-i)%d)),(15,iv a.length),(16,iv i)],sto:=[(13,.arr 1 (drows (smallQ a.length (val a/d) i)))]}
theorem small_sound {m:Am.Mode} {a:List Nat} {d:Nat} (ha:ok a) (hn:a.length<1099511627776) (h0:0<d) (hd:d<B) (f1:stm m=m) :
  SoundCall Try.prog F_n_small [nl m a,uv d] (.tuple [nD (val a/d),uv (val a%d)]):=by
 refine soundW' t_n_small (by simp) ?_
 simp[c_n_small,eMk]
 refine ⟨by omega,by omega,?_⟩
 have hz:val a/B^a.length%d=0:=by rw[Nat.div_eq_of_lt (val_lt ha)]; exact Nat.zero_mod _
 refine awp_forW (stSm m a d) (fun _=>True) a.length (by simp[stSm,smallQ_zero,hz]) trivial (fun i hi _=>?_) (fun _=>?_)
 ·have e:(i:Int)<a.length:=by omega
  obtain ⟨k,hk⟩:∃ k,a.length-1-i=k:=⟨_,rfl⟩
  have hk1:a.length-i=k+1:=by omega
  have hk2:a.length-(i+1)=k:=by omega
  have hka:k<a.length:=by omega
  have w0:IntKind.i64.wrap ((a.length:Int)-1)=(a.length:Int)-1:=by rw[wrap64]<;>omega
  have w1:IntKind.i64.wrap ((a.length:Int)-1-i)=(k:Int):=by rw[wrap64]<;>omega
  obtain ⟨s1,s2,s3⟩:=small_step (A:=val a/B^k) h0
  rw[← get_val ha hka,Nat.div_div_eq_div_mul,← Nat.pow_succ] at s1 s2 s3
  obtain ⟨r,hr⟩:∃ r,val a/B^(k+1)%d=r:=⟨_,rfl⟩
  have hrd:r<d:=by rw[← hr]; exact Nat.mod_lt _ h0
  have hrB:r<B:=by omega
  have hak:=ok_get ha hka
  have hor:=or_hi hrB hak
  have hsh:=shl32 hrB
  rw[Nat.succ_eq_add_one,hr] at s1 s2 s3
  obtain ⟨t,ht⟩:∃ t,r*B+a[k]=t:=⟨_,rfl⟩
  obtain ⟨rb,hrb⟩:∃ rb,r*B=rb:=⟨_,rfl⟩
  rw[ht] at hor s1 s2 s3
  rw[hrb] at hor hsh
  have hset:=smallQ_set (n:=a.length) (D:=val a/d) hi
  rw[hk,Nat.div_div_eq_div_mul,Nat.mul_comm d,← Nat.div_div_eq_div_mul,← s1] at hset
  obtain ⟨q,hq⟩:∃ q,t/d=q:=⟨_,rfl⟩
  obtain ⟨r2,hr2⟩:∃ r2,t%d=r2:=⟨_,rfl⟩
  rw[hq] at hset s1
  rw[hr2] at s2
  have hqB:q<B:=by rw[s1]; exact Nat.mod_lt _ B_pos
  have hset':(drows (smallQ a.length (val a/d) i)).set k [uv q]=drows (smallQ a.length (val a/d) (i+1)):=by rw[drows_set,hset]
  have htB:t<18446744073709551616:=by
   have:d*B≤B*B:=Nat.mul_le_mul_right _ (by omega)
   have hBB:B*B=18446744073709551616:=by decide
   omega
  have hfl:=smallQ_len (D:=val a/d) (show i≤a.length by omega)
  have hkl:k<(smallQ a.length (val a/d) i).length:=by omega
  rw[B_eq] at hak hqB hd
  have u1:IntKind.u64.wrap ((a[k]:Nat):Int)=(a[k]:Nat):=w64 (by omega)
  have u2:IntKind.u64.wrap (d:Int)=d:=w64 (by omega)
  have hd0:¬ (d:Int)=0:=by omega
  have hd0n:¬ d=0:=by omega
  have u3:IntKind.u64.wrap ((t:Int).tdiv d)=(q:Int):=by
   rw[show (t:Int).tdiv d=((t/d:Nat):Int) from rfl,hq]; exact w64 (by omega)
  have u3':IntKind.u64.wrap ((t:Int)/d)=(q:Int):=by
   rw[show (t:Int)/d=((t/d:Nat):Int) by simp,hq]; exact w64 (by omega)
  have u4:(t:Int).tmod d=(r2:Int):=by rw[show (t:Int).tmod d=((t%d:Nat):Int) from rfl,hr2]
  have u5:IntKind.u32.wrap (q:Int)=q:=IntWalk.u32_in _ (by omega)
  simp[c_n_small_l0,stSm,e,w0,w1,hka,hkl,hk1,hk2,hr,eBin_shl,hsh,u1,hor,u2,eBin_quo,eBin_rem,hd0n,u3',u4,u5,splice,hset',s2,wrap_succ (show i<4611686018427387904 by omega)]
 ·have htk:(drows (digsN a.length (val a/d))).take a.length=drows (digsN a.length (val a/d)):=List.take_of_length_le (by rw[List.length_map,digsN_len]; exact Nat.le_refl _)
  have hle2:a.length≤(digsN a.length (val a/d)).length:=by rw[digsN_len]; exact Nat.le_refl _
  have key:=trim_sound (m:=.plain) (a:=digsN a.length (val a/d)) ok_digsN (by rw[digsN_len]; omega)
  have hlt:val a/d<B^a.length:=Nat.lt_of_le_of_lt (Nat.div_le_self _ _) (val_lt ha)
  rw[val_digsN_lt hlt] at key
  have hr:val a%d<d:=Nat.mod_lt _ h0
  have u5:IntKind.u32.wrap ((val a%d:Nat):Int)=(val a%d:Nat):=IntWalk.u32_in _ (by rw[B_eq] at hd; omega)
  obtain ⟨r,hr2⟩:∃ r,val a%d=r:=⟨_,rfl⟩
  have hr3:val a/B^(a.length-a.length)%d=r:=by simp[hr2]
  rw[hr2] at u5 ⊢
  simp[c_n_small_l0,stSm,smallQ_all,c_n_small_k1,eFreeze,frz_list f1,frzE,htk,hle2,hr2]
  refine eCall_i key (by simp) (by simp) ?_
  simp[r_n_small,u5]
  exact AV.imp.refl
end Go.Proofs.Ytbmhibiljjnfiaa

namespace Go.Dig
def qhat (w u2 v1 v2:Nat):Nat:=min (B-1) ((w*B+u2)/(v1*B+v2))
def tooBig (g r u2 v2:Nat):Prop:=B≤g∨r*B+u2<g*v2
theorem qhat_le {w u2 v1 v2:Nat} (h1:0<v1) (hu:u2<B):qhat w u2 v1 v2≤w/v1:=by
 unfold qhat
 refine Nat.le_trans (Nat.min_le_right _ _) ?_
 rw[Nat.le_div_iff_mul_le h1]
 have h:=Nat.div_mul_le_self (w*B+u2) (v1*B+v2)
 generalize (w*B+u2)/(v1*B+v2)=q at *
 rw[Nat.mul_add,← Nat.mul_assoc] at h
 apply Nat.le_of_not_lt
 intro hlt
 have:(w+1)*B≤q*v1*B:=Nat.mul_le_mul_right _ hlt
 rw[Nat.add_mul] at this
 omega
theorem tooBig_iff {g r w u2 v1 v2:Nat} (h1:0<v1) (hr:w=g*v1+r):tooBig g r u2 v2↔qhat w u2 v1 v2<g:=by
 have hV:0<v1*B+v2:=by have:=Nat.mul_pos h1 B_pos; omega
 have key:g≤(w*B+u2)/(v1*B+v2)↔g*v2≤r*B+u2:=by
  rw[Nat.le_div_iff_mul_le hV,hr,Nat.mul_add,Nat.add_mul,← Nat.mul_assoc]
  omega
 unfold tooBig qhat
 have hB:=B_pos
 constructor
 ·rintro (h | h)
  ·exact Nat.lt_of_le_of_lt (Nat.min_le_left _ _) (by omega)
  ·exact Nat.lt_of_le_of_lt (Nat.min_le_right _ _) (by omega)
 ·intro h
  apply Classical.byContradiction
  intro hno
  have h2:g≤B-1:=by
   apply Nat.le_of_not_lt; intro h3; exact hno (.inl (by omega))
  have h3:g≤(w*B+u2)/(v1*B+v2):=key.2 (by
   apply Nat.le_of_not_lt; intro h4; exact hno (.inr h4))
  have:=Nat.le_min.2 ⟨h2,h3⟩
  omega
theorem break_ok {g r w u2 v1 v2:Nat} (_h1:0<v1) (hr:w=g*v1+r) (hw:w≤v1*B+(B-1)) (hv2:v2<B) (hrB:B≤r):¬ tooBig g r u2 v2:=by
 have hg:g≤B-1:=by
  apply Nat.le_of_not_lt
  intro h
  have:B*v1≤g*v1:=Nat.mul_le_mul_right _ (by omega)
  rw[Nat.mul_comm v1] at hw
  have:=B_pos
  omega
 rintro (h | h)
 ·have:=B_pos; omega
 ·have h2:g*v2≤(B-1)*(B-1):=Nat.mul_le_mul hg (by omega)
  have h3:B*B≤r*B:=Nat.mul_le_mul_right _ hrB
  have h4:(B-1)*(B-1)<B*B:=by decide
  omega
theorem qhat_close {w u2 v1 v2 U V P Q R:Nat} (h1:0<v1) (hu2:u2<B) (hv2:v2<B) (hU:U=(w*B+u2)*P+R) (hR:R<P) (hV:V=(v1*B+v2)*P+Q) (hQ:Q<P) (hUV:U<V*B) :
  U/V≤qhat w u2 v1 v2∧qhat w u2 v1 v2≤U/V+1:=by
 have hP:0<P:=by omega
 have hV2:0<v1*B+v2:=by have:=Nat.mul_pos h1 B_pos; omega
 have hVpos:0<V:=by have:=Nat.mul_pos hV2 hP; omega
 constructor
 ·unfold qhat
  refine Nat.le_min.2 ⟨?_,?_⟩
  ·have:U/V<B:=Nat.div_lt_of_lt_mul hUV
   omega
  ·rw[Nat.le_div_iff_mul_le hV2]
   have h:=Nat.div_mul_le_self U V
   generalize U/V=q at *
   have h2:q*((v1*B+v2)*P)≤q*V:=Nat.mul_le_mul_left _ (by omega)
   rw[← Nat.mul_assoc] at h2
   apply Nat.le_of_not_lt
   intro hlt
   have:(w*B+u2+1)*P≤q*(v1*B+v2)*P:=Nat.mul_le_mul_right _ hlt
   rw[Nat.add_mul] at this
   omega
 ·have hq1:qhat w u2 v1 v2≤B-1:=Nat.min_le_left _ _
  have hq2:qhat w u2 v1 v2*(v1*B+v2)≤w*B+u2:=by
   have:qhat w u2 v1 v2≤(w*B+u2)/(v1*B+v2):=Nat.min_le_right _ _
   exact Nat.le_trans (Nat.mul_le_mul_right _ this) (Nat.div_mul_le_self _ _)
  generalize qhat w u2 v1 v2=g at *
  rcases g with _ | g
  ·exact Nat.zero_le _
  ·have:g≤U/V:=by
    rw[Nat.le_div_iff_mul_le hVpos]
    -- (g+1) V2 P≤U,and V<(V2+1) P,g+1≤B-1≤v1 B
    have e1:(g+1)*(v1*B+v2)*P≤(w*B+u2)*P:=Nat.mul_le_mul_right _ hq2
    have e2:g*V≤g*((v1*B+v2)*P+P):=Nat.mul_le_mul_left _ (by omega)
    have e3:g*P≤(v1*B+v2)*P:=Nat.mul_le_mul_right _ (by
     have:1*B≤v1*B:=Nat.mul_le_mul_right _ h1
     omega)
    rw[Nat.add_mul,Nat.one_mul,Nat.add_mul] at e1
    rw[Nat.mul_add,← Nat.mul_assoc] at e2
    omega
   omega
theorem mul_col {g:Nat} {v:List Nat} {k:Nat} (hk:k<v.length):(g*val v)/B^k%B=(g*v[k]+g*val (v.take k)/B^k)%B∧g*val (v.take (k+1))/B^(k+1)=(g*v[k]+g*val (v.take k)/B^k)/B:=by
 have e1:=val_take_succ hk
 have e2:=val_split v (k+1)
 rw[Nat.min_eq_left (by omega)] at e2
 constructor
 ·rw[e2,e1,Nat.mul_add,Nat.mul_add,Nat.mul_left_comm g (B^k),Nat.mul_left_comm g (B^(k+1)),col_digit,Nat.add_comm]
 ·rw[e1,Nat.mul_add,Nat.mul_left_comm g (B^k),col_carry,Nat.add_comm]
theorem mul_carry_lt {g:Nat} {v:List Nat} (hv:ok v) (hg:g<B) (k:Nat):g*val (v.take k)/B^k<B:=by
 apply Nat.div_lt_of_lt_mul
 have h1:=val_lt_of (ok_take hv k) (n:=k) (by simp; omega)
 have:g*val (v.take k)≤B*val (v.take k):=Nat.mul_le_mul_right _ (by omega)
 have h2:B*val (v.take k)<B*B^k:=Nat.mul_lt_mul_of_pos_left h1 B_pos
 rw[Nat.mul_comm (B^k)]
 omega
def mixD (Z:Nat) (u:List Nat) (k:Nat):List Nat:=digsN k Z++u.drop k
theorem mixD_zero {Z:Nat} {u:List Nat}:mixD Z u 0=u:=by simp[mixD,digsN]
theorem mixD_len {Z:Nat} {u:List Nat} {k:Nat} (h:k≤u.length):(mixD Z u k).length=u.length:=by simp[mixD,digsN_len]; omega
theorem mixD_get {Z:Nat} {u:List Nat} {k:Nat} (h:k<u.length):(mixD Z u k)[k]'(by rw[mixD_len (by omega)]; exact h)=u[k]:=by
 unfold mixD
 rw[List.getElem_append_right (by rw[digsN_len]; exact Nat.le_refl _)]
 simp[digsN_len]
theorem mixD_set {Z:Nat} {u:List Nat} {k:Nat} (h:k<u.length):(mixD Z u k).set k (Z/B^k%B)=mixD Z u (k+1):=by
 unfold mixD
 rw[List.set_append_right _ _ (by rw[digsN_len]; exact Nat.le_refl _),digsN_len,Nat.sub_self,List.drop_eq_getElem_cons h,List.set_cons_zero,digsN_succ]
 simp
theorem mixD_all {Z:Nat} {u:List Nat} {n:Nat} (h:u.length=n):mixD Z u n=digsN n Z:=by
 unfold mixD; rw[List.drop_of_length_le (by omega)]; simp
theorem digsN_mod {n x:Nat}:digsN n (x+B^n)=digsN n x:=by
 refine val_inj ok_digsN ok_digsN (by rw[digsN_len,digsN_len]) ?_
 rw[val_digsN,val_digsN,Nat.add_mod_right]
theorem digit_add {U n k:Nat} (hk:k<n):(U+B^n)/B^k%B=U/B^k%B:=by
 have h:=digsN_mod (n:=n) (x:=U)
 have h1:k<(digsN n (U+B^n)).length:=by rw[digsN_len]; exact hk
 have h2:k<(digsN n U).length:=by rw[digsN_len]; exact hk
 rw[← digsN_get h1,← digsN_get h2]
 simp only[h]
def seg (W:List Nat) (off:Nat) (X:List Nat):List Nat:=W.take off++X++W.drop (off+X.length)
theorem seg_len {W X:List Nat} {off:Nat} (h:off+X.length≤W.length):(seg W off X).length=W.length:=by simp[seg]; omega
theorem seg_get {W X:List Nat} {off i:Nat} (h:off+X.length≤W.length) (hi:i<X.length):(seg W off X)[off+i]'(by rw[seg_len h]; omega)=X[i]:=by
 unfold seg
 rw[List.getElem_append_left (by simp; omega),List.getElem_append_right (by simp; omega)]
 congr 1
 simp; omega
theorem seg_set {W X:List Nat} {off i d:Nat} (h:off+X.length≤W.length) (hi:i<X.length):(seg W off X).set (off+i) d=seg W off (X.set i d):=by
 unfold seg
 rw[List.length_set,List.set_append_left _ _ (by simp; omega),List.set_append_right _ _ (by simp; omega)]
 have:off+i-(List.take off W).length=i:=by simp; omega
 rw[this]
theorem seg_self {W:List Nat} {off n:Nat} (h:off+n≤W.length):seg W off ((W.drop off).take n)=W:=by
 unfold seg
 have:((W.drop off).take n).length=n:=by simp; omega
 rw[this]
 rw[List.append_assoc,← List.drop_drop,List.take_append_drop,List.take_append_drop]
end Go.Dig

namespace Go.Dig
theorem shift_step {N L i t:Nat} (hL:L<B^(i+1)) (hi:i+1<N) (hlt:L+B^i*t<B^N) (ht:(L/B^i+t)/B<B) :
  ((digsN N L).set i ((L/B^i+t)%B)).set (i+1) ((L/B^i+t)/B)=digsN N (L+B^i*t):=by
 have hLN:L<B^N:=Nat.lt_of_lt_of_le hL (Nat.pow_le_pow_right B_pos (by omega))
 have hlen:=digsN_len (n:=N) (x:=L)
 have ho:ok (digsN N L):=ok_digsN
 have hd1:(L/B^i+t)%B<B:=Nat.mod_lt _ B_pos
 refine val_inj (ok_set (ok_set ho hd1) ht) ok_digsN (by simp[digsN_len]) ?_
 rw[val_digsN_lt hlt]
 have e1:=val_set (o:=digsN N L) (j:=i) (d:=(L/B^i+t)%B) (by omega)
 have e2:=val_set (o:=(digsN N L).set i ((L/B^i+t)%B)) (j:=i+1) (d:=(L/B^i+t)/B) (by simp; omega)
 rw[val_digsN_lt hLN,digsN_get] at e1
 rw[List.getElem_set_ne (by omega),digsN_get,Nat.div_eq_of_lt hL] at e2
 have h0:0%B=0:=rfl
 rw[h0,Nat.mul_zero,Nat.add_zero] at e2
 have hc:L/B^i<B:=Nat.div_lt_of_lt_mul (by rw[← Nat.pow_succ]; exact hL)
 rw[Nat.mod_eq_of_lt hc] at e1
 have e3:=Nat.mod_add_div (L/B^i+t) B
 have e4:B^(i+1)*((L/B^i+t)/B)=B^i*(B*((L/B^i+t)/B)):=by rw[Nat.pow_succ,Nat.mul_assoc]
 have e5:B^i*((L/B^i+t)%B)+B^i*(B*((L/B^i+t)/B))=B^i*(L/B^i)+B^i*t:=by rw[← Nat.mul_add,e3,Nat.mul_add]
 rw[e2,e4]
 omega
theorem low_or {c a bits:Nat} (hb:bits<32) (hc:c<2^bits) (_ha:a<B):c ||| (a*2^bits%B)=c+a*2^bits%B∧c+a*2^bits%B=(c+a*2^bits)%B∧a*2^bits/B=(c+a*2^bits)/B∧c+a*2^bits%B<B:=by
 have hB:B=2^(32-bits)*2^bits:=by
  rw[← Nat.pow_add,Nat.sub_add_cancel (by omega)]; rfl
 have hm:a*2^bits%B=(a%2^(32-bits))*2^bits:=by
  rw[hB,Nat.mul_mod_mul_right]
 have hlt:a%2^(32-bits)<2^(32-bits):=Nat.mod_lt _ (Nat.pow_pos (by omega))
 have hd:=Nat.div_add_mod (a*2^bits) B
 have hsum:c+a*2^bits%B<B:=by
  rw[hm]
  have:(a%2^(32-bits)+1)*2^bits≤2^(32-bits)*2^bits:=Nat.mul_le_mul_right _ hlt
  rw[Nat.add_mul,← hB] at this
  omega
 refine ⟨?_,?_,?_,hsum⟩
 ·rw[hm]
  have h:=Nat.shiftLeft_add_eq_or_of_lt hc (a%2^(32-bits))
  rw[Nat.shiftLeft_eq] at h
  rw[Nat.or_comm,← h]; omega
 ·have:c+a*2^bits=c+a*2^bits%B+B*(a*2^bits/B):=by omega
  rw[this,Nat.add_mul_mod_self_left,Nat.mod_eq_of_lt hsum]
 ·have:c+a*2^bits=c+a*2^bits%B+B*(a*2^bits/B):=by omega
  rw[this,Nat.add_mul_div_left _ _ B_pos,Nat.div_eq_of_lt hsum,Nat.zero_add]
def shL (a:List Nat) (bits i:Nat):Nat:=val (a.take i)*2^bits
theorem shL_zero {a:List Nat} {bits:Nat}:shL a bits 0=0:=by simp[shL,val]
theorem pow_bits {bits:Nat} (hb:bits<32):2^bits<B:=by
 have:2^bits<2^32:=Nat.pow_lt_pow_right (by omega) hb
 exact this
theorem shL_lt {a:List Nat} {bits i:Nat} (ha:ok a):shL a bits i<B^i*2^bits:=by
 unfold shL
 exact Nat.mul_lt_mul_of_pos_right (val_lt_of (ok_take ha i) (by simp; omega)) (Nat.pow_pos (by omega))
theorem shL_succ {a:List Nat} {bits i:Nat} (hi:i<a.length):shL a bits (i+1)=shL a bits i+B^i*(a[i]*2^bits):=by
 unfold shL
 rw[val_take_succ hi,Nat.add_mul,Nat.mul_assoc]
theorem shL_all {a:List Nat} {bits:Nat}:shL a bits a.length=val a*2^bits:=by
 unfold shL; rw[List.take_of_length_le (Nat.le_refl _)]
theorem digsN_zero {n:Nat}:digsN n 0=List.replicate n 0:=by
 refine val_inj ok_digsN (ok_rep n) (by simp[digsN_len]) ?_
 rw[val_digsN,val_rep,Nat.zero_mod]
end Go.Dig

namespace Go.Proofs.Ytbmhibiljjnfiaa
open Go Go.Am Go.Dig
theorem or32 {c x:Nat} (hc:c<B) (hx:x<B) (h:c ||| x<B):bitI .or .u32 (c:Int) (x:Int)=((c ||| x:Nat):Int):=by
 rw[B_eq] at *
 have hbits:IntKind.u32.bits=32:=rfl
 simp only[bitI]
 rw[BitVec.toNat_or]
 have e1:(BitVec.ofInt IntKind.u32.bits (c:Int)).toNat=c:=by rw[hbits,BitVec.toNat_ofInt]; omega
 have e2:(BitVec.ofInt IntKind.u32.bits (x:Int)).toNat=x:=by rw[hbits,BitVec.toNat_ofInt]; omega
 rw[e1,e2]
 exact IntWalk.u32_in _ (by omega)
def stSh (a:List Nat) (m:Am.Mode) (σ:List (Nat × Entry)) (out:List (List (Nat × AV))) (b bits i:Nat):St :=
 {env:=[(0,nl m a),(1,u64v bits),(5,.sl (b+11) 1 0 (a.length+1)),(13,iv a.length),(14,iv i)],sto:=pt σ (b+11) (.arr 1 (drows (digsN (a.length+1) (shL a bits i)))),out:=out,base:=b}
theorem shiftedI {m:Am.Mode} {a:List Nat} {bits:Nat} {s:St} {K:AV→St→Prop} (b:Nat) (ha:ok a) (hn:a.length<1099511627775) (hb:bits<32) (hf:lk s.sto (b+11)=none)
  (h:K (.sl (b+11) 1 0 (a.length+1)) ⟨s.env,pt s.sto (b+11) (.arr 1 (drows (digsN (a.length+1) (val a*2^bits)))),s.out,s.base⟩):CallI Try.prog F_n_shifted [nl m a,u64v bits] s K:=by
 obtain ⟨env,σ,out,base⟩:=s
 simp only at hf h
 refine soundI' b t_n_shifted (by simp) ?_
 have w:IntKind.i64.wrap ((a.length:Int)+1)=(a.length:Int)+1:=wrap64 (by omega) (by omega)
 have e1:((a.length:Int)+1).toNat=a.length+1:=by omega
 simp[c_n_shifted,w,eMk,e1,hf]
 refine ⟨by omega,by omega,by omega,?_⟩
 refine awp_forW (stSh a m σ (env::out) b bits) (fun _=>True) a.length (by simp[stSh,shL_zero,digsN_zero]; exact .inl rfl) trivial (fun i hi _=>?_) (fun _=>?_)
 ·have e:(i:Int)<a.length:=by omega
  have hpow:=pow_bits hb
  have hak:=ok_get ha hi
  have hL:=shL_lt (bits:=bits) (i:=i) ha
  have hLB:shL a bits i<B^(i+1):=by
   have:B^i*2^bits≤B^i*B:=Nat.mul_le_mul_left _ (by omega)
   rw[Nat.pow_succ]; omega
  have hc:shL a bits i/B^i<2^bits:=Nat.div_lt_of_lt_mul hL
  obtain ⟨o1,o2,o3,o4⟩:=low_or (c:=shL a bits i/B^i) (a:=a[i]) hb hc hak
  have hsucc:=shL_succ (bits:=bits) hi
  have hL2:=shL_lt (bits:=bits) (i:=i+1) ha
  have hLN:shL a bits (i+1)<B^(a.length+1):=by
   have h1:B^(i+1)*2^bits≤B^(i+1)*B:=Nat.mul_le_mul_left _ (by omega)
   have h3:B^(i+1+1)=B^(i+1)*B:=Nat.pow_succ _ _
   have h2:B^(i+1+1)≤B^(a.length+1):=Nat.pow_le_pow_right B_pos (by omega)
   omega
  have htB:(shL a bits i/B^i+a[i]*2^bits)/B<B:=by
   rw[← o3]
   apply Nat.div_lt_of_lt_mul
   exact Nat.mul_lt_mul_of_lt_of_lt hak hpow
  have hstep:=shift_step (N:=a.length+1) (i:=i) (t:=a[i]*2^bits) hLB (by omega) (by rw[← hsucc]; exact hLN) htB
  rw[← hsucc,← o2,← o3] at hstep
  have hlen:=digsN_len (n:=a.length+1) (x:=shL a bits i)
  have hi1:i<(digsN (a.length+1) (shL a bits i)).length:=by omega
  have hget:(digsN (a.length+1) (shL a bits i))[i]=shL a bits i/B^i:=by
   rw[digsN_get,Nat.mod_eq_of_lt (Nat.lt_trans hc hpow)]
  obtain ⟨c,hcE⟩:∃ c,shL a bits i/B^i=c:=⟨_,rfl⟩
  obtain ⟨t,htE⟩:∃ t,a[i]*2^bits=t:=⟨_,rfl⟩
  have htlt:t<B*B:=by rw[← htE]; exact Nat.mul_lt_mul_of_lt_of_lt hak hpow
  rw[hcE,htE] at o1 o4 hstep
  rw[hcE] at hget hc
  obtain ⟨x,hxE⟩:∃ x,t%B=x:=⟨_,rfl⟩
  obtain ⟨q,hqE⟩:∃ q,t/B=q:=⟨_,rfl⟩
  rw[hxE] at o1 o4 hstep
  rw[hqE] at hstep
  have hxB:x<B:=by rw[← hxE]; exact Nat.mod_lt _ B_pos
  have hqB:q<B:=by rw[← hqE]; exact Nat.div_lt_of_lt_mul htlt
  have hor:=or32 (c:=c) (x:=x) (by omega) hxB (by rw[o1]; exact o4)
  rw[o1] at hor
  obtain ⟨y,hyE⟩:∃ y,c+x=y:=⟨_,rfl⟩
  rw[hyE] at hor hstep
  have hBB:B*B=18446744073709551616:=by decide
  rw[hBB] at htlt
  have f1:IntKind.u32.wrap (t:Int)=(x:Int):=by rw[w32,hxE]
  have f2:(t:Int).fdiv (2^min 32 IntKind.u64.bits)=(q:Int):=by rw[shr32,hqE]
  have f3:IntKind.u32.wrap (q:Int)=q:=IntWalk.u32_in _ (by rw[B_eq] at hqB; omega)
  have u1:IntKind.u64.wrap ((a[i]:Nat):Int)=(a[i]:Nat):=w64 (by rw[B_eq] at hak; omega)
  have hmin:min bits IntKind.u64.bits=bits:=by
   have:IntKind.u64.bits=64:=rfl
   omega
  have u2:IntKind.u64.wrap (((a[i]:Nat):Int)*2^bits)=(t:Int):=by
   rw[show ((a[i]:Nat):Int)*2^bits=((a[i]*2^bits:Nat):Int) by simp,htE]; exact w64 htlt
  have hset:((drows (digsN (a.length+1) (shL a bits i))).set i [uv y]).set (i+1) [uv q]=drows (digsN (a.length+1) (shL a bits (i+1))):=by
   rw[drows_set,drows_set,hstep]
  have wi:IntKind.i64.wrap ((i:Int)+1)=(i:Int)+1:=wrap64 (by omega) (by omega)
  have ei1:(i:Int)<a.length+1:=by omega
  have e2:((i:Int)+1).toNat=i+1:=by omega
  have e3:(0:Int)≤(i:Int)+1:=by omega
  have hi2:i+1<(digsN (a.length+1) (shL a bits i)).length:=by omega
  have hnb:¬ ((bits:Int)<0):=by omega
  simp[c_n_shifted_l0,stSh,e,hi,hi1,hi2,ei1,e2,e3,hget,hor,u1,eBin_shl,eBin_shr,hmin,u2,f1,f2,f3,wi,splice,hset]
 ·have:digsN (a.length+1) (shL a bits a.length)=digsN (a.length+1) (val a*2^bits):=by rw[shL_all]
  simp[c_n_shifted_l0,stSh,c_n_shifted_k1,r_n_shifted,this]
  exact h
end Go.Proofs.Ytbmhibiljjnfiaa

namespace Go.Proofs.Ytbmhibiljjnfiaa
open Go Go.Am Go.Dig
def gK (w v1 k:Nat):Nat:=w/v1-k
def rK (w v1 k:Nat):Nat:=w%v1+k*v1
theorem gr_eq {w v1 k:Nat} (hk:k≤w/v1):w=gK w v1 k*v1+rK w v1 k:=by
 unfold gK rK
 have h:=Nat.div_add_mod w v1
 have:(w/v1-k)*v1+k*v1=v1*(w/v1):=by rw[← Nat.add_mul,Nat.sub_add_cancel hk,Nat.mul_comm]
 omega
structure DigOk (W v:List Nat) (off e:Nat):Prop where
 okW:ok W
 okv:ok v
 hv:v.length=e+2
 hW:off+e+3≤W.length
 small:W.length<1099511627776
def topW (W:List Nat) (off e:Nat):Nat:=W.getD (off+(e+2)) 0*B+W.getD (off+(e+1)) 0
def stD0 (m:Am.Mode) (W v:List Nat) (σ:List (Nat × Entry)) (out:List (List (Nat × AV))) (b j off e k:Nat):St :=
 {env:=[(0,.sl j 1 off (e+3)),(1,nl m v),(5,iv ((e:Int)+2)),(7,u64v (gK (topW W off e) (v.getD (e+1) 0) k)),(8,u64v (rK (topW W off e) (v.getD (e+1) 0) k))],sto:=σ,out:=out,base:=b}
theorem digit_guess {m:Am.Mode} {W v:List Nat} {σ:List (Nat × Entry)} {out:List (List (Nat × AV))} {b j off e:Nat} {K:Exit→St→Prop} (h:DigOk W v off e) (hj:lk σ j=some (.arr 1 (drows W)))
  (h1:0<v.getD (e+1) 0) (hw:topW W off e≤v.getD (e+1) 0*B+(B-1)) (g:Nat) (hg:g=qhat (topW W off e) (W.getD (off+e) 0) (v.getD (e+1) 0) (v.getD e 0))
  (hK:∀ r q y,(q=69∨q=81)→awp Try.prog c_n_digit_k5 {env:=[(0,.sl j 1 off (e+3)),(1,nl m v),(5,iv ((e:Int)+2)),(7,u64v g),(8,r),(q,y)],sto:=σ,out:=out,base:=b} K) :
  awp Try.prog (.loop c_n_digit_l0) (stD0 m W v σ out b j off e 0) (blockC 0 (seqC Try.prog c_n_digit_k5 K)):=by
 have hvl:=h.hv
 have hWl:=h.hW
 have hsm:=h.small
 have hv0:e<v.length:=by omega
 have hv1:e+1<v.length:=by omega
 have hW0:off+e<W.length:=by omega
 have q1:v.getD (e+1) 0=v[e+1]:=by simp[hv1]
 have q2:v.getD e 0=v[e]:=by simp[hv0]
 have q3:W.getD (off+e) 0=W[off+e]:=by simp[hW0]
 have hu2:W.getD (off+e) 0<B:=ok_getD h.okW _
 have hv2B:v.getD e 0<B:=ok_getD h.okv _
 have hv1B:v.getD (e+1) 0<B:=ok_getD h.okv _
 have hwB:topW W off e<B*B:=by
  have a1:=ok_getD h.okW (off+(e+2))
  have a2:=ok_getD h.okW (off+(e+1))
  have:(W.getD (off+(e+2)) 0+1)*B≤B*B:=Nat.mul_le_mul_right _ a1
  unfold topW
  rw[Nat.add_mul] at this
  omega
 generalize hwe:topW W off e=w at *
 generalize hv1e:v.getD (e+1) 0=v1 at *
 generalize hu2e:W.getD (off+e) 0=u2 at *
 generalize hv2e:v.getD e 0=v2 at *
 have hle:=qhat_le (w:=w) (v2:=v2) h1 hu2
 rw[← hg] at hle
 rw[show B*B=18446744073709551616 by decide] at hwB
 have hst:∀ k,stD0 m W v σ out b j off e k={env:=[(0,.sl j 1 off (e+3)),(1,nl m v),(5,iv ((e:Int)+2)),(7,u64v (gK w v1 k)),(8,u64v (rK w v1 k))],sto:=σ,out:=out,base:=b}:=fun k=>by
  rw[stD0,hwe,hv1e]
 have i1:IntKind.i64.wrap ((e:Int))=e:=wrap64 (by omega) (by omega)
 have i2:IntKind.i64.wrap ((e:Int)+1)=(e:Int)+1:=wrap64 (by omega) (by omega)
 have i5:IntKind.i64.wrap ((e:Int)+2-1)=(e:Int)+1:=by rw[wrap64]<;>omega
 have i6:IntKind.i64.wrap ((e:Int)+2-2)=(e:Int):=by rw[wrap64]<;>omega
 have i3:((e:Int)+1).toNat=e+1:=by omega
 have i4:(0:Int)≤(e:Int)+1:=by omega
 have c1:IntKind.u64.wrap (v1:Int)=v1:=w64 (by rw[B_eq] at hv1B; omega)
 have c2:IntKind.u64.wrap (v2:Int)=v2:=w64 (by rw[B_eq] at hv2B; omega)
 have c3:IntKind.u64.wrap (u2:Int)=u2:=w64 (by rw[B_eq] at hu2; omega)
 have p1:v[e+1]=v1:=by rw[← q1]
 have p2:v[e]=v2:=by rw[← q2]
 have p3:W[off+e]=u2:=by rw[← q3]
 have x1:(e:Int)<v.length:=by omega
 have x2:(e:Int)+1<v.length:=by omega
 have x3:(e:Int)<(e:Int)+3:=by omega
 refine awp_forW (stD0 m W v σ out b j off e) (fun k=>rK w v1 k<B) (w/v1-g) (by rw[hst]; simp) ?_ (fun k hk hr=>?_) (fun hr=>?_)
 ·show rK w v1 0<B
  unfold rK
  rw[Nat.zero_mul,Nat.add_zero]
  exact Nat.lt_trans (Nat.mod_lt w h1) hv1B
 ·have hkw:k≤w/v1:=Nat.le_trans (Nat.le_of_lt hk) (Nat.sub_le _ _)
  have hkw2:k+1≤w/v1:=Nat.le_trans hk (Nat.sub_le _ _)
  have heq:=gr_eq (w:=w) (v1:=v1) (k:=k) hkw
  have hbig:=(tooBig_iff (u2:=u2) (v2:=v2) h1 heq).2 (by rw[← hg]; unfold gK; omega)
  have hgk:gK w v1 (k+1)+1=gK w v1 k:=by unfold gK; omega
  have hrk:rK w v1 (k+1)=rK w v1 k+v1:=by unfold rK; rw[Nat.add_mul]; omega
  have heq2:=gr_eq (w:=w) (v1:=v1) (k:=k+1) (by omega)
  have hbrk:=fun hB=>break_ok (u2:=u2) (v2:=v2) h1 heq2 hw hv2B hB
  have hgle:gK w v1 k≤w:=by
   have:w/v1≤w:=Nat.div_le_self _ _
   unfold gK; omega
  have hend:B≤rK w v1 (k+1)→gK w v1 (k+1)=g:=fun hB=>by
   have:=hbrk hB
   rw[tooBig_iff h1 heq2,← hg] at this
   unfold gK at *
   omega
  rw[hst]
  have hgsub:IntKind.u64.wrap ((gK w v1 k:Int)-1)=(gK w v1 (k+1):Int):=by rw[w64']<;>omega
  have hradd:IntKind.u64.wrap ((rK w v1 k:Int)+(v1:Int))=(rK w v1 (k+1):Int):=by
   rw[B_eq] at hr hv1B
   rw[w64']<;>omega
  have rest:∀ K2,(∀ q y,(q=69∨q=81)→(¬ B≤rK w v1 (k+1)→K2 Exit.normal {env:=[(0,.sl j 1 off (e+3)),(1,nl m v),(5,iv ((e:Int)+2)),(7,u64v (gK w v1 (k+1))),(8,u64v (rK w v1 (k+1))),(q,y)],sto:=σ,out:=out,base:=b}) ∧
    (B≤rK w v1 (k+1)→K2 (Exit.exit 0) {env:=[(0,.sl j 1 off (e+3)),(1,nl m v),(5,iv ((e:Int)+2)),(7,u64v (gK w v1 (k+1))),(8,u64v (rK w v1 (k+1))),(q,y)],sto:=σ,out:=out,base:=b})) →
    awp Try.prog c_n_digit_l0 {env:=[(0,.sl j 1 off (e+3)),(1,nl m v),(5,iv ((e:Int)+2)),(7,u64v (gK w v1 k)),(8,u64v (rK w v1 k))],sto:=σ,out:=out,base:=b} K2:=by
   intro K2 hK2
   by_cases hB:B≤gK w v1 k
   ·have hB':(4294967296:Int)≤gK w v1 k:=by rw[B_eq] at hB; omega
    by_cases hBr:B≤rK w v1 (k+1)
    ·have hBr':(4294967296:Int)≤rK w v1 (k+1):=by rw[B_eq] at hBr; omega
     simp[c_n_digit_l0,hB',hBr',hgsub,i5,i3,i4,x2,hv1,p1,c1,hradd]
     exact (hK2 _ _ (by simp)).2 hBr
    ·have hBr':¬ (4294967296:Int)≤rK w v1 (k+1):=by rw[B_eq] at hBr; omega
     simp[c_n_digit_l0,hB',hBr',hgsub,i5,i3,i4,x2,hv1,p1,c1,hradd]
     exact (hK2 _ _ (by simp)).1 hBr
   ·have hB':¬ (4294967296:Int)≤gK w v1 k:=by rw[B_eq] at hB; omega
    have hlt:rK w v1 k*B+u2<gK w v1 k*v2:=hbig.resolve_left hB
    have hor:=or_hi hr hu2
    have hsh:=shl32 hr
    have hpl:gK w v1 k*v2<18446744073709551616:=by
     have:gK w v1 k*v2≤(B-1)*(B-1):=Nat.mul_le_mul (by omega) (by omega)
     have:(B-1)*(B-1)<18446744073709551616:=by decide
     omega
    obtain ⟨p,hp⟩:∃ p,gK w v1 k*v2=p:=⟨_,rfl⟩
    obtain ⟨rb,hrb⟩:∃ rb,rK w v1 k*B=rb:=⟨_,rfl⟩
    rw[hp] at hlt hpl
    rw[hrb] at hlt hor hsh
    have hmul:IntKind.u64.wrap ((gK w v1 k:Int)*(v2:Int))=(p:Int):=by
     rw[show (gK w v1 k:Int)*(v2:Int)=((gK w v1 k*v2:Nat):Int) by simp,hp]; exact w64 hpl
    have hlt':(rb:Int)+(u2:Int)<(p:Int):=by omega
    simp only[Int.natCast_add] at hor
    by_cases hBr:B≤rK w v1 (k+1)
    ·have hBr':(4294967296:Int)≤rK w v1 (k+1):=by rw[B_eq] at hBr; omega
     simp[c_n_digit_l0,hB',hBr',hgsub,i1,i5,i3,i4,x1,x2,x3,hv0,hv1,hW0,p1,p2,p3,c1,c2,c3,hj,hmul,eBin_shl,hsh,hor,hlt',hradd]
     exact (hK2 _ _ (by simp)).2 hBr
    ·have hBr':¬ (4294967296:Int)≤rK w v1 (k+1):=by rw[B_eq] at hBr; omega
     simp[c_n_digit_l0,hB',hBr',hgsub,i1,i5,i3,i4,x1,x2,x3,hv0,hv1,hW0,p1,p2,p3,c1,c2,c3,hj,hmul,eBin_shl,hsh,hor,hlt',hradd]
     exact (hK2 _ _ (by simp)).1 hBr
  refine rest _ fun q y hq=>⟨fun hB=>?_,fun hB=>?_⟩
  ·rw[stepW_normal,hst]
   refine ⟨by rcases hq with rfl | rfl<;>simp,by omega⟩
  ·have:=hend hB
   rw[this]
   exact hK _ _ _ hq
 ·have hgk:gK w v1 (w/v1-g)=g:=by unfold gK; omega
  have heq:=gr_eq (w:=w) (v1:=v1) (k:=w/v1-g) (by omega)
  have hnb:=fun hb=>(tooBig_iff (u2:=u2) (v2:=v2) h1 heq).1 hb
  rw[hgk,← hg] at hnb
  have hB:¬ B≤g:=fun hb=>Nat.lt_irrefl _ (hnb (.inl hb))
  have hlt:¬ rK w v1 (w/v1-g)*B+u2<g*v2:=fun hb=>Nat.lt_irrefl _ (hnb (.inr hb))
  have hB':¬ (4294967296:Int)≤g:=by rw[B_eq] at hB; omega
  have hor:=or_hi hr hu2
  have hsh:=shl32 hr
  have hst2:stD0 m W v σ out b j off e (w/v1-g)={env:=[(0,.sl j 1 off (e+3)),(1,nl m v),(5,iv ((e:Int)+2)),(7,u64v g),(8,u64v (rK w v1 (w/v1-g)))],sto:=σ,out:=out,base:=b}:=by
   rw[hst,hgk]
  rw[hst2]
  clear hst2 heq
  generalize rK w v1 (w/v1-g)=r at *
  obtain ⟨p,hp⟩:∃ p,g*v2=p:=⟨_,rfl⟩
  obtain ⟨rb,hrb⟩:∃ rb,r*B=rb:=⟨_,rfl⟩
  have hpl:g*v2<18446744073709551616:=by
   have:g*v2≤(B-1)*(B-1):=Nat.mul_le_mul (by omega) (by omega)
   have:(B-1)*(B-1)<18446744073709551616:=by decide
   omega
  rw[hp] at hlt hpl
  rw[hrb] at hlt hor hsh
  have hmul:IntKind.u64.wrap ((g:Int)*(v2:Int))=(p:Int):=by
   rw[show (g:Int)*(v2:Int)=((g*v2:Nat):Int) by simp,hp]; exact w64 hpl
  have hlt':¬ (rb:Int)+(u2:Int)<(p:Int):=by omega
  simp only[Int.natCast_add] at hor
  simp[c_n_digit_l0,hB',i1,x1,x3,hv0,hW0,p2,p3,c2,c3,hj,hmul,eBin_shl,hsh,hor,hlt']
  exact hK _ _ _ (by simp)
end Go.Proofs.Ytbmhibiljjnfiaa

namespace Go.Proofs.Ytbmhibiljjnfiaa
open Go Go.Am Go.Dig
theorem and_low {p:Nat} (hp:p<18446744073709551616):bitI .and .u64 (p:Int) 4294967295=((p%B:Nat):Int):=by
 have hbits:IntKind.u64.bits=64:=rfl
 simp only[bitI]
 rw[BitVec.toNat_and]
 have e1:(BitVec.ofInt IntKind.u64.bits (p:Int)).toNat=p:=by rw[hbits,BitVec.toNat_ofInt]; omega
 have e2:(BitVec.ofInt IntKind.u64.bits 4294967295).toNat=4294967295:=rfl
 rw[e1,e2]
 have h:=Nat.and_two_pow_sub_one_eq_mod p 32
 have:(2:Nat)^32-1=4294967295:=by decide
 rw[this] at h
 rw[h,show (2:Nat)^32=B from rfl]
 exact w64 (Nat.lt_trans (Nat.mod_lt _ B_pos) (by decide))
def cK (g:Nat) (v:List Nat) (k:Nat):Nat:=g*val (v.take k)/B^k
def stD1 (m:Am.Mode) (W v u:List Nat) (σ:List (Nat × Entry)) (out:List (List (Nat × AV))) (b j off e g x T k:Nat):St :=
 {env:=[(0,.sl j 1 off (e+3)),(1,nl m v),(5,iv ((e:Int)+2)),(7,u64v g),(9,u64v (cK g v k)),(10,u64v (bor x T k)),(82,iv ((e:Int)+2)),(83,iv k)],sto:=pt σ j (.arr 1 (drows (seg W off (mixD (x-T) u k)))),out:=out,base:=b}
section
variable {m:Am.Mode} {W v:List Nat} {σ:List (Nat × Entry)} {out:List (List (Nat × AV))} {b j off e g x:Nat} {K:Exit→St→Prop} (h:DigOk W v off e) (hj:lk σ j=some (.arr 1 (drows W)))
  (hg:g<B) (hx:∀ k,k<e+3→x/B^k%B=W.getD (off+k) 0) (hT:g*val v≤x)
include h hj hg hx hT
omit hj in
theorem digit_sub {s:St} (hs:impE s (stD1 m W v ((W.drop off).take (e+3)) σ out b j off e g x (g*val v) 0))
  (hK:awp Try.prog c_n_digit_k4 {env:=[(0,.sl j 1 off (e+3)),(1,nl m v),(5,iv ((e:Int)+2)),(7,u64v g),(9,u64v (cK g v (e+2))),(10,u64v (bor x (g*val v) (e+2))),(82,iv ((e:Int)+2)),(83,iv ((e:Int)+2)),(84,bv false)],sto:=pt σ j (.arr 1 (drows (seg W off (mixD (x-g*val v) ((W.drop off).take (e+3)) (e+2))))),out:=out,base:=b} K) :
  awp Try.prog (.loop c_n_digit_l1) s (blockC 2 (seqC Try.prog c_n_digit_k4 K)):=by
 have hvl:=h.hv
 have hWl:=h.hW
 have hsm:=h.small
 generalize hue:(W.drop off).take (e+3)=u at *
 have hul:u.length=e+3:=by rw[← hue]; simp; omega
 refine awp_forW (stD1 m W v u σ out b j off e g x (g*val v)) (fun _=>True) (e+2) hs trivial (fun k hk _=>?_) (fun _=>?_)
 ·have hkv:k<v.length:=by omega
  have hku:k<u.length:=by omega
  have hvB:=ok_get h.okv hkv
  have hWk:off+k<W.length:=by omega
  have huk:u[k]=W[off+k]:=by subst hue; simp
  have hq:W.getD (off+k) 0=W[off+k]:=by simp[hWk]
  have hukB:u[k]<B:=by rw[huk]; exact ok_get h.okW hWk
  have hcB:cK g v k<B:=mul_carry_lt h.okv hg k
  obtain ⟨m1,m2⟩:=mul_col (g:=g) hkv
  have hsd:=sub_digit (k:=k) hT
  have hbs:=bor_succ (x:=x) (y:=g*val v) (k:=k)
  have hb1:=bor_le (x:=x) (y:=g*val v) (k:=k)
  rw[hx k (by omega),hq,← huk,m1] at hsd hbs
  have hck:cK g v (k+1)=(g*v[k]+cK g v k)/B:=m2
  change (((x-g*val v)/B^k%B:Nat):Int)=((u[k]:Nat)-((g*v[k]+cK g v k)%B:Nat)-(bor x (g*val v) k:Nat):Int)%4294967296 at hsd
  change bor x (g*val v) (k+1)=if u[k]<(g*v[k]+cK g v k)%B+bor x (g*val v) k then 1 else 0 at hbs
  have hpB:g*v[k]+cK g v k<18446744073709551616:=by
   have:=mul_bound hg hvB hcB B_pos
   have hBB:B*B=18446744073709551616:=by decide
   omega
  have hmx:=mixD_set (Z:=x-g*val v) hku
  have hml:=mixD_len (Z:=x-g*val v) (u:=u) (k:=k) (by omega)
  have hmg:=mixD_get (Z:=x-g*val v) hku
  have hsl:=seg_len (W:=W) (X:=mixD (x-g*val v) u k) (off:=off) (by rw[hml]; omega)
  have hsg:=seg_get (W:=W) (X:=mixD (x-g*val v) u k) (off:=off) (i:=k) (by rw[hml]; omega) (by omega)
  have hss:=seg_set (W:=W) (X:=mixD (x-g*val v) u k) (off:=off) (i:=k) (d:=(x-g*val v)/B^k%B) (by rw[hml]; omega) (by omega)
  rw[hmx] at hss
  rw[hmg] at hsg
  obtain ⟨d,hd⟩:∃ d,(x-g*val v)/B^k%B=d:=⟨_,rfl⟩
  rw[hd] at hss hsd
  obtain ⟨p,hp⟩:∃ p,g*v[k]+cK g v k=p:=⟨_,rfl⟩
  obtain ⟨gv,hgv⟩:∃ gv,g*v[k]=gv:=⟨_,rfl⟩
  rw[hp] at hsd hbs hck hpB
  rw[hgv] at hp
  obtain ⟨pl,hpl⟩:∃ pl,p%B=pl:=⟨_,rfl⟩
  rw[hpl] at hsd hbs
  have hplB:pl<B:=by rw[← hpl]; exact Nat.mod_lt _ B_pos
  obtain ⟨c2,hc2⟩:∃ c2,p/B=c2:=⟨_,rfl⟩
  rw[hc2] at hck
  rw[stD1]
  generalize bor x (g*val v) k=b0 at *
  generalize hb2:bor x (g*val v) (k+1)=b2 at *
  have hA:off+k<(seg W off (mixD (x-g*val v) u k)).length:=by omega
  have hset:(drows (seg W off (mixD (x-g*val v) u k))).set (off+k) [uv d]=drows (seg W off (mixD (x-g*val v) u (k+1))):=by rw[drows_set,hss]
  have hst1:stD1 m W v u σ out b j off e g x (g*val v) (k+1)={env:=[(0,.sl j 1 off (e+3)),(1,nl m v),(5,iv ((e:Int)+2)),(7,u64v g),(9,u64v c2),(10,u64v b2),(82,iv ((e:Int)+2)),(83,iv ((k:Int)+1))],sto:=pt σ j (.arr 1 (drows (seg W off (mixD (x-g*val v) u (k+1))))),out:=out,base:=b}:=by
   rw[stD1,hck,hb2]; rfl
  clear hd
  generalize huk2:u[k]=uk at *
  have ek:(k:Int)<(e:Int)+2:=by omega
  have ekv:(k:Int)<v.length:=by omega
  have ek3:(k:Int)<(e:Int)+3:=by omega
  have u1:IntKind.u64.wrap ((v[k]:Nat):Int)=(v[k]:Nat):=w64 (Nat.lt_trans hvB (by decide))
  have u2:IntKind.u64.wrap ((g:Int)*(v[k]:Int))=(gv:Int):=by
   rw[show (g:Int)*(v[k]:Int)=((g*v[k]:Nat):Int) by simp,hgv]; exact w64 (by omega)
  have u3:IntKind.u64.wrap ((gv:Int)+(cK g v k:Int))=(p:Int):=by rw[w64']<;>omega
  have u4:(p:Int).fdiv (2^min 32 IntKind.u64.bits)=(c2:Int):=by rw[shr32,hc2]
  have u5:=and_low hpB
  rw[hpl] at u5
  rw[B_eq] at hukB hplB
  have u6:IntKind.u64.wrap (uk:Int)=uk:=w64 (by omega)
  have u7:=wsub ((uk:Int)-(pl:Int)) (b0:Int)
  have u8:=w3264 ((uk:Int)-(pl:Int)-(b0:Int))
  rw[← hsd] at u8
  have u9:=shr63 (u:=(uk:Int)-(pl:Int)-(b0:Int)) (by omega) (by omega)
  have u10:(if (uk:Int)-(pl:Int)-(b0:Int)<0 then (1:Int) else 0)=(b2:Int):=by
   rw[hbs]; split<;>split<;>omega
  rw[u10] at u9
  have w1:IntKind.i64.wrap ((k:Int)+1)=(k:Int)+1:=wrap64 (by omega) (by omega)
  simp[c_n_digit_l1,ek,ekv,ek3,hkv,u1,u2,u3,u4,u5,u6,u7,u8,u9,hA,hsg,splice,hset,w1,eBin_shr,hst1]
 ·simp[c_n_digit_l1,stD1]
  exact hK
end
end Go.Proofs.Ytbmhibiljjnfiaa

namespace Go.Proofs.Ytbmhibiljjnfiaa
open Go Go.Am Go.Dig
def stD2 (m:Am.Mode) (W v z:List Nat) (σ:List (Nat × Entry)) (out:List (List (Nat × AV))) (b j off e g k:Nat):St :=
 {env:=[(0,.sl j 1 off (e+3)),(1,nl m v),(5,iv ((e:Int)+2)),(7,u64v g),(9,u64v (car z v k)),(134,iv ((e:Int)+2)),(135,iv k)],sto:=pt σ j (.arr 1 (drows (seg W off (mixD (val z+val v) z k)))),out:=out,base:=b}
section
variable {m:Am.Mode} {W v z:List Nat} {σ:List (Nat × Entry)} {out:List (List (Nat × AV))} {b j off e g:Nat} {K:Exit→St→Prop} (h:DigOk W v off e) (hz:ok z) (hzl:z.length=e+3)
include h hz hzl
theorem digit_back {s:St} (hs:impE s (stD2 m W v z σ out b j off e g 0))
  (hK:awp Try.prog c_n_digit_k3 {env:=[(0,.sl j 1 off (e+3)),(1,nl m v),(5,iv ((e:Int)+2)),(7,u64v g),(9,u64v (car z v (e+2))),(134,iv ((e:Int)+2)),(135,iv ((e:Int)+2)),(136,bv false)],sto:=pt σ j (.arr 1 (drows (seg W off (mixD (val z+val v) z (e+2))))),out:=out,base:=b} K) :
  awp Try.prog (.loop c_n_digit_l2) s (blockC 4 (seqC Try.prog c_n_digit_k3 K)):=by
 have hvl:=h.hv
 have hWl:=h.hW
 have hsm:=h.small
 refine awp_forW (stD2 m W v z σ out b j off e g) (fun _=>True) (e+2) hs trivial (fun k hk _=>?_) (fun _=>?_)
 ·have hkv:k<v.length:=by omega
  have hkz:k<z.length:=by omega
  have hvB:=ok_get h.okv hkv
  have hzB:=ok_get hz hkz
  have hc:=car_le hz h.okv k
  obtain ⟨t,ht,g1,g2⟩:=add_col (a:=z) (b:=v) hkz (by omega)
  rw[List.getElem?_eq_getElem hkv,Option.getD_some] at ht
  have hmx:=mixD_set (Z:=val z+val v) hkz
  have hml:=mixD_len (Z:=val z+val v) (u:=z) (k:=k) (by omega)
  have hmg:=mixD_get (Z:=val z+val v) hkz
  have hsl:=seg_len (W:=W) (X:=mixD (val z+val v) z k) (off:=off) (by rw[hml]; omega)
  have hsg:=seg_get (W:=W) (X:=mixD (val z+val v) z k) (off:=off) (i:=k) (by rw[hml]; omega) (by omega)
  have hss:=seg_set (W:=W) (X:=mixD (val z+val v) z k) (off:=off) (i:=k) (d:=(val z+val v)/B^k%B) (by rw[hml]; omega) (by omega)
  rw[hmx,g1] at hss
  rw[hmg] at hsg
  obtain ⟨d,hd⟩:∃ d,t%B=d:=⟨_,rfl⟩
  obtain ⟨q,hq⟩:∃ q,t/B=q:=⟨_,rfl⟩
  rw[hd] at hss
  rw[hq] at g2
  have hA:off+k<(seg W off (mixD (val z+val v) z k)).length:=by omega
  have hset:(drows (seg W off (mixD (val z+val v) z k))).set (off+k) [uv d]=drows (seg W off (mixD (val z+val v) z (k+1))):=by rw[drows_set,hss]
  have hst1:stD2 m W v z σ out b j off e g (k+1)={env:=[(0,.sl j 1 off (e+3)),(1,nl m v),(5,iv ((e:Int)+2)),(7,u64v g),(9,u64v q),(134,iv ((e:Int)+2)),(135,iv ((k:Int)+1))],sto:=pt σ j (.arr 1 (drows (seg W off (mixD (val z+val v) z (k+1))))),out:=out,base:=b}:=by
   rw[stD2,g2]; rfl
  rw[stD2]
  generalize car z v k=c at *
  generalize hzk:z[k]=zk at *
  generalize hvk:v[k]=vk at *
  rw[B_eq] at hvB hzB
  have ek:(k:Int)<(e:Int)+2:=by omega
  have ekv:(k:Int)<v.length:=by omega
  have ek3:(k:Int)<(e:Int)+3:=by omega
  have f1:IntKind.u32.wrap (t:Int)=(d:Int):=by rw[w32,hd]
  have f2:(t:Int).fdiv (2^min 32 IntKind.u64.bits)=(q:Int):=by rw[shr32,hq]
  have u1:IntKind.u64.wrap (vk:Int)=vk:=w64 (by omega)
  have u2:IntKind.u64.wrap (zk:Int)=zk:=w64 (by omega)
  have u3:IntKind.u64.wrap ((zk:Int)+(vk:Int))=(zk:Int)+vk:=by rw[w64']<;>omega
  have u4:IntKind.u64.wrap ((zk:Int)+(vk:Int)+(c:Int))=(t:Int):=by rw[w64']<;>omega
  have w1:IntKind.i64.wrap ((k:Int)+1)=(k:Int)+1:=wrap64 (by omega) (by omega)
  simp[c_n_digit_l2,ek,ekv,ek3,hkv,hvk,u1,u2,u3,u4,f1,f2,hA,hsg,splice,hset,w1,eBin_shr,hst1]
 ·simp[c_n_digit_l2,stD2]
  exact hK
theorem back_end (hg:0<g) (hgB:g<B):awp Try.prog c_n_digit_k3 {env:=[(0,.sl j 1 off (e+3)),(1,nl m v),(5,iv ((e:Int)+2)),(7,u64v g),(9,u64v (car z v (e+2))),(134,iv ((e:Int)+2)),(135,iv ((e:Int)+2)),(136,bv false)],sto:=pt σ j (.arr 1 (drows (seg W off (mixD (val z+val v) z (e+2))))),out:=out,base:=b}
  (fun ex s=>ex=.ret∧s={env:=[(4,uv (g-1))],sto:=pt σ j (.arr 1 (drows (seg W off (digsN (e+3) (val z+val v))))),out:=out,base:=b}):=by
 have hvl:=h.hv
 have hWl:=h.hW
 have hsm:=h.small
 have hkz:e+2<z.length:=by omega
 have hzB:=ok_get hz hkz
 have hc:=car_le hz h.okv (e+2)
 obtain ⟨t,ht,g1,g2⟩:=add_col (a:=z) (b:=v) hkz (by omega)
 rw[List.getElem?_eq_none (by omega),Option.getD_none] at ht
 have hmx:=mixD_set (Z:=val z+val v) hkz
 have hml:=mixD_len (Z:=val z+val v) (u:=z) (k:=e+2) (by omega)
 have hmg:=mixD_get (Z:=val z+val v) hkz
 have hsl:=seg_len (W:=W) (X:=mixD (val z+val v) z (e+2)) (off:=off) (by rw[hml]; omega)
 have hsg:=seg_get (W:=W) (X:=mixD (val z+val v) z (e+2)) (off:=off) (i:=e+2) (by rw[hml]; omega) (by omega)
 have hss:=seg_set (W:=W) (X:=mixD (val z+val v) z (e+2)) (off:=off) (i:=e+2) (d:=(val z+val v)/B^(e+2)%B) (by rw[hml]; omega) (by omega)
 rw[hmx,g1,show e+2+1=e+3 from rfl,mixD_all hzl] at hss
 rw[hmg] at hsg
 obtain ⟨d,hd⟩:∃ d,t%B=d:=⟨_,rfl⟩
 rw[hd] at hss
 have hA:off+(e+2)<(seg W off (mixD (val z+val v) z (e+2))).length:=by omega
 have hset:(drows (seg W off (mixD (val z+val v) z (e+2)))).set (off+(e+2)) [uv d]=drows (seg W off (digsN (e+3) (val z+val v))):=by rw[drows_set,hss]
 generalize car z v (e+2)=c at *
 generalize hzk:z[e+2]=zk at *
 have e1:((e:Int)+2).toNat=e+2:=by omega
 have e2:(0:Int)≤(e:Int)+2:=by omega
 have e3:(e:Int)+2<(e:Int)+3:=by omega
 have u1:IntKind.u32.wrap (c:Int)=c:=IntWalk.u32_in _ (by omega)
 have u2:IntKind.u32.wrap ((zk:Int)+(c:Int))=(d:Int):=by
  have:(zk:Int)+(c:Int)=(t:Int):=by omega
  rw[this,w32,hd]
 rw[B_eq] at hgB
 have u3:IntKind.u64.wrap ((g:Int)-1)=((g-1:Nat):Int):=by rw[w64']<;>omega
 have u4:IntKind.u32.wrap ((g-1:Nat):Int)=((g-1:Nat):Int):=IntWalk.u32_in _ (by omega)
 simp[c_n_digit_k3,e1,e2,e3,hA,hsg,u1,u2,u3,u4,splice,hset]
end
end Go.Proofs.Ytbmhibiljjnfiaa

namespace Go.Proofs.Ytbmhibiljjnfiaa
open Go Go.Am Go.Dig
theorem lk_pt_self {α:Type} {l:List (Nat × α)} {n:Nat} {x:α} (h:lk l n=some x):lk (pt l n x)=lk l:=by
 funext i
 rw[lk_pt]
 split
 ·subst i; exact h.symm
 ·rfl
section
variable {m:Am.Mode} {W v:List Nat} {σ:List (Nat × Entry)} {out:List (List (Nat × AV))} {b j off e g x:Nat} {K:Exit→St→Prop} (h:DigOk W v off e)
  (hg:g<B) (hx:∀ k,k<e+3→x/B^k%B=W.getD (off+k) 0) (hT:g*val v≤x) (hZ:x-g*val v<B^(e+3))
include h hg hx hT hZ
theorem digit_last (hK0:bor x (g*val v) (e+3)=0→K .ret {env:=[(4,uv g)],sto:=pt σ j (.arr 1 (drows (seg W off (digsN (e+3) (x-g*val v))))),out:=out,base:=b})
  (hK1:bor x (g*val v) (e+3)=1→0<g∧K .ret {env:=[(4,uv (g-1))],sto:=pt σ j (.arr 1 (drows (seg W off (digsN (e+3) (x-g*val v+val v))))),out:=out,base:=b}) :
  awp Try.prog c_n_digit_k4 {env:=[(0,.sl j 1 off (e+3)),(1,nl m v),(5,iv ((e:Int)+2)),(7,u64v g),(9,u64v (cK g v (e+2))),(10,u64v (bor x (g*val v) (e+2))),(82,iv ((e:Int)+2)),(83,iv ((e:Int)+2)),(84,bv false)],sto:=pt σ j (.arr 1 (drows (seg W off (mixD (x-g*val v) ((W.drop off).take (e+3)) (e+2))))),out:=out,base:=b} K:=by
 have hvl:=h.hv
 have hWl:=h.hW
 have hsm:=h.small
 generalize hue:(W.drop off).take (e+3)=u at *
 have hul:u.length=e+3:=by rw[← hue]; simp; omega
 have hku:e+2<u.length:=by omega
 have hWk:off+(e+2)<W.length:=by omega
 have huk:u[e+2]=W[off+(e+2)]:=by subst hue; simp
 have hq:W.getD (off+(e+2)) 0=W[off+(e+2)]:=by simp[hWk]
 have hukB:u[e+2]<B:=by rw[huk]; exact ok_get h.okW hWk
 have hcB:cK g v (e+2)<B:=mul_carry_lt h.okv hg (e+2)
 have hcT:g*val v/B^(e+2)%B=cK g v (e+2):=by
  have:cK g v (e+2)=g*val v/B^(e+2):=by unfold cK; rw[List.take_of_length_le (by omega)]
  rw[← this,Nat.mod_eq_of_lt hcB]
 have hsd:=sub_digit (k:=e+2) hT
 have hbs:=bor_succ (x:=x) (y:=g*val v) (k:=e+2)
 have hb1:=bor_le (x:=x) (y:=g*val v) (k:=e+2)
 rw[hx (e+2) (by omega),hq,← huk,hcT] at hsd hbs
 have hmx:=mixD_set (Z:=x-g*val v) hku
 rw[show e+2+1=e+3 from rfl,mixD_all hul] at hmx
 have hml:=mixD_len (Z:=x-g*val v) (u:=u) (k:=e+2) (by omega)
 have hmg:=mixD_get (Z:=x-g*val v) hku
 have hsl:=seg_len (W:=W) (X:=mixD (x-g*val v) u (e+2)) (off:=off) (by rw[hml]; omega)
 have hsg:=seg_get (W:=W) (X:=mixD (x-g*val v) u (e+2)) (off:=off) (i:=e+2) (by rw[hml]; omega) (by omega)
 have hss:=seg_set (W:=W) (X:=mixD (x-g*val v) u (e+2)) (off:=off) (i:=e+2) (d:=(x-g*val v)/B^(e+2)%B) (by rw[hml]; omega) (by omega)
 rw[hmx] at hss
 rw[hmg] at hsg
 obtain ⟨d,hd⟩:∃ d,(x-g*val v)/B^(e+2)%B=d:=⟨_,rfl⟩
 rw[hd] at hss hsd
 rw[show e+2+1=e+3 from rfl] at hbs
 have hA:off+(e+2)<(seg W off (mixD (x-g*val v) u (e+2))).length:=by omega
 have hset:(drows (seg W off (mixD (x-g*val v) u (e+2)))).set (off+(e+2)) [uv d]=drows (seg W off (digsN (e+3) (x-g*val v))):=by rw[drows_set,hss]
 have hg0:bor x (g*val v) (e+3)=1→0<g:=fun h1=>by
  rcases Nat.eq_zero_or_pos g with h0 | h0
  ·exfalso
   rw[h0,Nat.zero_mul] at h1
   simp[bor] at h1
  ·exact h0
 generalize cK g v (e+2)=c at *
 generalize bor x (g*val v) (e+2)=b0 at *
 generalize hb2:bor x (g*val v) (e+3)=b2 at *
 generalize huk2:u[e+2]=uk at *
 clear hd
 have e1:((e:Int)+2).toNat=e+2:=by omega
 have e2:(0:Int)≤(e:Int)+2:=by omega
 have e3:(e:Int)+2<(e:Int)+3:=by omega
 rw[B_eq] at hukB hcB
 have u6:IntKind.u64.wrap (uk:Int)=uk:=w64 (by omega)
 have u7:=wsub ((uk:Int)-(c:Int)) (b0:Int)
 have u8:=w3264 ((uk:Int)-(c:Int)-(b0:Int))
 have hsd':((d:Nat):Int)=((uk:Int)-(c:Int)-(b0:Int))%4294967296:=hsd
 rw[← hsd'] at u8
 have u9:=shr63 (u:=(uk:Int)-(c:Int)-(b0:Int)) (by omega) (by omega)
 have u10:(if (uk:Int)-(c:Int)-(b0:Int)<0 then (1:Int) else 0)=(b2:Int):=by
  rw[hbs]; split<;>split<;>omega
 rw[u10] at u9
 have hgB:=hg
 rw[B_eq] at hgB
 have u11:IntKind.u32.wrap (g:Int)=(g:Int):=IntWalk.u32_in _ (by omega)
 have hb2v:b2=0∨b2=1:=by rw[hbs]; split<;>simp
 rcases hb2v with h0 | h0
 ·subst h0
  simp[c_n_digit_k4,e1,e2,e3,hA,hsg,u6,u7,u8,u9,u11,eBin_shr,splice,hset]
  exact hK0 rfl
 ·subst h0
  obtain ⟨hgp,hfin⟩:=hK1 rfl
  simp[c_n_digit_k4,e1,e2,e3,hA,hsg,u6,u7,u8,u9,eBin_shr,splice,hset]
  refine digit_back (m:=m) (σ:=σ) (out:=out) (b:=b) (j:=j) (g:=g) h (ok_digsN (n:=e+3) (x:=x-g*val v)) digsN_len ?_ ?_
  ·simp[stD2,mixD_zero,car_zero]
  ·refine awp_mono (fun ex s hs=>?_) (back_end h (ok_digsN (n:=e+3) (x:=x-g*val v)) digsN_len hgp hg)
   rw[val_digsN_lt hZ] at hs
   obtain ⟨rfl,rfl⟩:=hs
   exact hfin
theorem digit_mid (hj:lk σ j=some (.arr 1 (drows W))) {r y:AV} {q:Nat} (hq:q=69∨q=81) (hK0:bor x (g*val v) (e+3)=0→K .ret {env:=[(4,uv g)],sto:=pt σ j (.arr 1 (drows (seg W off (digsN (e+3) (x-g*val v))))),out:=out,base:=b})
  (hK1:bor x (g*val v) (e+3)=1→0<g∧K .ret {env:=[(4,uv (g-1))],sto:=pt σ j (.arr 1 (drows (seg W off (digsN (e+3) (x-g*val v+val v))))),out:=out,base:=b}) :
  awp Try.prog c_n_digit_k5 {env:=[(0,.sl j 1 off (e+3)),(1,nl m v),(5,iv ((e:Int)+2)),(7,u64v g),(8,r),(q,y)],sto:=σ,out:=out,base:=b} K:=by
 have hl:=digit_last (m:=m) (σ:=σ) (out:=out) (b:=b) (j:=j) h hg hx hT hZ hK0 hK1
 have hc0:cK g v 0=0:=by simp[cK,val]
 have hs:=seg_self (W:=W) (off:=off) (n:=e+3) (by have:=h.hW; omega)
 rcases hq with rfl | rfl
 ·simp[c_n_digit_k5]
  refine digit_sub h hg hx hT ?_ hl
  simp[stD1,mixD_zero,hs,hc0,bor_zero]
  exact .inr (.inl (lk_pt_self hj))
 ·simp[c_n_digit_k5]
  refine digit_sub h hg hx hT ?_ hl
  simp[stD1,mixD_zero,hs,hc0,bor_zero]
  exact .inr (.inl (lk_pt_self hj))
end
theorem val_drop2 {v:List Nat} {e:Nat} (h:v.length=e+2):val v=(v.getD (e+1) 0*B+v.getD e 0)*B^e+val (v.take e):=by
 have h1:=val_split v e
 have h2:v.drop e=[v[e],v[e+1]]:=by
  rw[List.drop_eq_getElem_cons (by omega),List.drop_eq_getElem_cons (by omega),List.drop_of_length_le (by omega)]
 rw[Nat.min_eq_left (by omega),h2] at h1
 have q1:v.getD (e+1) 0=v[e+1]:=by simp[h]
 have q2:v.getD e 0=v[e]:=by simp[h]
 rw[h1,q1,q2]
 simp only[val,Nat.mul_zero,Nat.add_zero]
 grind
theorem val_drop3 {u:List Nat} {e:Nat} (h:u.length=e+3):val u=((u.getD (e+2) 0*B+u.getD (e+1) 0)*B+u.getD e 0)*B^e+val (u.take e):=by
 have h1:=val_split u e
 have h2:u.drop e=[u[e],u[e+1],u[e+2]]:=by
  rw[List.drop_eq_getElem_cons (by omega),List.drop_eq_getElem_cons (by omega),List.drop_eq_getElem_cons (by omega),List.drop_of_length_le (by omega)]
 rw[Nat.min_eq_left (by omega),h2] at h1
 have q0:u.getD (e+2) 0=u[e+2]:=by simp[h]
 have q1:u.getD (e+1) 0=u[e+1]:=by simp[h]
 have q2:u.getD e 0=u[e]:=by simp[h]
 rw[h1,q0,q1,q2]
 simp only[val,Nat.mul_zero,Nat.add_zero]
 grind
theorem top_le {t v1 v2 u2 P Q R U V:Nat} (_hP:0<P) (hU:U=(t*B+u2)*P+R) (hV:V=(v1*B+v2)*P+Q) (hQ:Q<P) (hv2:v2<B) (hlt:U<V*B):t≤v1*B+(B-1):=by
 have a1:t*B*P≤U:=by
  rw[hU]
  have:t*B*P≤(t*B+u2)*P:=Nat.mul_le_mul_right _ (Nat.le_add_right _ _)
  exact Nat.le_trans this (Nat.le_add_right _ _)
 have a2:V≤(v1*B+B)*P:=by
  rw[hV]
  have h1:(v1*B+v2+1)*P≤(v1*B+B)*P:=Nat.mul_le_mul_right _ (by omega)
  rw[Nat.add_mul,Nat.one_mul] at h1
  exact Nat.le_trans (Nat.add_le_add_left (Nat.le_of_lt hQ) _) h1
 have a3:V*B≤(v1*B+B)*P*B:=Nat.mul_le_mul_right _ a2
 have a4:t*(P*B)<(v1*B+B)*(P*B):=by
  rw[← Nat.mul_assoc,← Nat.mul_assoc]
  rw[Nat.mul_assoc t,Nat.mul_comm B P,← Nat.mul_assoc] at a1
  exact Nat.lt_of_le_of_lt a1 (Nat.lt_of_lt_of_le hlt a3)
 have a5:=Nat.lt_of_mul_lt_mul_right a4
 have:=B_pos
 generalize v1*B=q at *
 omega
theorem gK_zero {w v1:Nat}:gK w v1 0=w/v1:=Nat.sub_zero _
theorem rK_zero {w v1:Nat}:rK w v1 0=w%v1:=by unfold rK; rw[Nat.zero_mul,Nat.add_zero]
theorem two_dig_lt {a c:Nat} (ha:a<B) (hc:c<B):a*B+c<18446744073709551616:=by
 have:(a+1)*B≤B*B:=Nat.mul_le_mul_right _ ha
 have hBB:B*B=18446744073709551616:=by decide
 rw[Nat.add_mul,hBB,Nat.one_mul] at this
 exact Nat.lt_of_lt_of_le (Nat.add_lt_add_left hc _) this
theorem digN_val {z n:Nat}:digsN n (z+B^n)=digsN n z:=digsN_mod
theorem dig_fin {m:Am.Mode} {W v:List Nat} {σ:List (Nat × Entry)} {out:List (List (Nat × AV))} {b j off e g U Q R:Nat} {K:Exit→St→Prop} (h:DigOk W v off e) (hg:g<B) (hj:lk σ j=some (.arr 1 (drows W)))
  {r y:AV} {q:Nat} (hq:q=69∨q=81) (hx:∀ k,k<e+3→U/B^k%B=W.getD (off+k) 0) (hUN:U<B^(e+3)) (hTN:g*val v<B^(e+3)) (hmod:val v*Q+R=U) (hR:R<val v) (hc:Q≤g∧g≤Q+1)
  (hK:∀ ex s,ex=.ret→s={env:=[(4,uv Q)],sto:=pt σ j (.arr 1 (drows (seg W off (digsN (e+3) R)))),out:=out,base:=b}→K ex s) :
  awp Try.prog c_n_digit_k5 {env:=[(0,.sl j 1 off (e+3)),(1,nl m v),(5,iv ((e:Int)+2)),(7,u64v g),(8,r),(q,y)],sto:=σ,out:=out,base:=b} K:=by
 rcases Nat.lt_or_ge U (g*val v) with hlt | hle
 ·have hgQ:g=Q+1:=by
   rcases Nat.lt_or_ge Q g with h1 | h1
   ·omega
   ·exfalso
    have:g*val v≤Q*val v:=Nat.mul_le_mul_right _ h1
    rw[Nat.mul_comm] at hmod
    omega
  subst hgQ
  have hz:U+B^(e+3)-(Q+1)*val v+val v=R+B^(e+3):=by
   rw[Nat.add_mul,Nat.one_mul] at *
   rw[Nat.mul_comm] at hmod
   omega
  refine digit_mid (x:=U+B^(e+3)) h hg (fun k hk=>?_) (by omega) (by omega) hj hq (fun h0=>?_) (fun _=>⟨by omega,?_⟩)
  ·rw[digit_add hk]; exact hx k hk
  ·exfalso
   simp only[bor,Nat.add_mod_right,Nat.mod_eq_of_lt hUN,Nat.mod_eq_of_lt hTN,if_pos hlt] at h0
   exact absurd h0 (by decide)
  ·refine hK _ _ rfl ?_
   rw[hz,digN_val,Nat.add_sub_cancel]
 ·have hgQ:g=Q:=by
   rcases Nat.lt_or_ge Q g with h1 | h1
   ·exfalso
    have:(Q+1)*val v≤g*val v:=Nat.mul_le_mul_right _ h1
    rw[Nat.add_mul,Nat.one_mul] at this
    rw[Nat.mul_comm] at hmod
    omega
   ·omega
  subst hgQ
  have hz:U-g*val v=R:=by
   rw[Nat.mul_comm] at hmod
   omega
  refine digit_mid (x:=U) h hg hx hle (by omega) hj hq (fun _=>?_) (fun h1=>?_)
  ·exact hK _ _ rfl (by rw[hz])
  ·exfalso
   simp only[bor,Nat.mod_eq_of_lt hUN,Nat.mod_eq_of_lt hTN,if_neg (Nat.not_lt.mpr hle)] at h1
   exact absurd h1 (by decide)
theorem digitI {m:Am.Mode} {W v:List Nat} {s:St} {K:AV→St→Prop} (b:Nat) {j off e U:Nat} (h:DigOk W v off e) (hj:lk s.sto j=some (.arr 1 (drows W)))
  (h1:0<v.getD (e+1) 0) (hU:U=val ((W.drop off).take (e+3))) (hlt:U<val v*B)
  (hK:K (uv (U/val v)) ⟨s.env,pt s.sto j (.arr 1 (drows (seg W off (digsN (e+3) (U%val v))))),s.out,s.base⟩):CallI Try.prog F_n_digit [.sl j 1 off (e+3),nl m v] s K:=by
 obtain ⟨env,σ,out,base⟩:=s
 simp only at hj hK
 have hvl:=h.hv
 have hWl:=h.hW
 have hsm:=h.small
 have hul:((W.drop off).take (e+3)).length=e+3:=by simp; omega
 have hug:∀ k,k<e+3→((W.drop off).take (e+3)).getD k 0=W.getD (off+k) 0:=fun k hk=>by
  simp[List.getD,hk]
 have hvV:=val_drop2 hvl
 have huU:=val_drop3 hul
 rw[← hU,hug _ (by omega),hug _ (by omega),hug _ (by omega)] at huU
 have okv2:ok ((W.drop off).take (e+3)):=ok_take (ok_drop h.okW off) _
 have hv2:v.getD e 0<B:=ok_getD h.okv _
 have hu2:W.getD (off+e) 0<B:=ok_getD h.okW _
 have hQ:val (v.take e)<B^e:=val_lt_of (ok_take h.okv e) (by simp; omega)
 have hR:val (((W.drop off).take (e+3)).take e)<B^e:=val_lt_of (ok_take okv2 e) (by simp; omega)
 have hclose:=qhat_close (w:=topW W off e) h1 hu2 hv2 huU hR hvV hQ hlt
 have hw:topW W off e≤v.getD (e+1) 0*B+(B-1):=by
  exact top_le (Nat.pow_pos B_pos) huU hvV hQ hv2 hlt
 have hv1:e+1<v.length:=by omega
 have hWa:off+(e+2)<W.length:=by omega
 have hWb:off+(e+1)<W.length:=by omega
 refine soundI' b t_n_digit (by simp) ?_
 have p1:v.getD (e+1) 0=v[e+1]:=by simp[hv1]
 have p2:W.getD (off+(e+2)) 0=W[off+(e+2)]:=by simp[hWa]
 have p3:W.getD (off+(e+1)) 0=W[off+(e+1)]:=by simp[hWb]
 have b1:v[e+1]<B:=ok_get h.okv hv1
 have b2:W[off+(e+2)]<B:=ok_get h.okW hWa
 have b3:W[off+(e+1)]<B:=ok_get h.okW hWb
 have hsh:=shl32 b2
 have hwe:topW W off e=W[off+(e+2)]*B+W[off+(e+1)]:=by rw[topW,p2,p3]
 have hor:bitI .or .u64 ((W[off+(e+2)]*B:Nat):Int) (W[off+(e+1)]:Int)=((topW W off e:Nat):Int):=by rw[hwe]; exact or_hi b2 b3
 have hwB:topW W off e<18446744073709551616:=by rw[hwe]; exact two_dig_lt b2 b3
 have fin:∀ K2:Exit→St→Prop,(∀ ex s,ex=.ret→s={env:=[(4,uv (U/val v))],sto:=pt σ j (.arr 1 (drows (seg W off (digsN (e+3) (U%val v))))),out:=env::out,base:=b}→K2 ex s) →
   awp Try.prog (.loop c_n_digit_l0) (stD0 m W v σ (env::out) b j off e 0) (blockC 0 (seqC Try.prog c_n_digit_k5 K2)):=by
  intro K2 hK2
  have hw3:∀ k,k<e+3→U/B^k%B=W.getD (off+k) 0:=fun k hk=>by
   have hd:=digsN_val okv2
   rw[hul,← hU] at hd
   have h2:k<(digsN (e+3) U).length:=by rw[digsN_len]; exact hk
   rw[← digsN_get h2,← hug k hk,← hd]
   simp[List.getD,h2]
  have hUN:U<B^(e+3):=by rw[hU]; exact val_lt_of okv2 (Nat.le_of_eq hul)
  have hVpos:0<val v:=by
   have hpp:=Nat.pow_pos (n:=e) B_pos
   rw[hvV]
   exact Nat.lt_of_lt_of_le (Nat.mul_pos (Nat.lt_of_lt_of_le (Nat.mul_pos h1 B_pos) (Nat.le_add_right _ _)) hpp) (Nat.le_add_right _ _)
  have hgB:qhat (topW W off e) (W.getD (off+e) 0) (v.getD (e+1) 0) (v.getD e 0)<B:=Nat.lt_of_le_of_lt (Nat.min_le_left _ _) (by decide)
  refine digit_guess h hj h1 hw _ rfl fun r q y hq=>?_
  generalize qhat (topW W off e) (W.getD (off+e) 0) (v.getD (e+1) 0) (v.getD e 0)=g at *
  have hmod:val v*(U/val v)+U%val v=U:=Nat.div_add_mod U (val v)
  have hml:=Nat.mod_lt U hVpos
  have hVN:val v<B^(e+2):=val_lt_of h.okv (Nat.le_of_eq hvl)
  have hTN:g*val v<B^(e+3):=by
   rw[show e+3=(e+2)+1 from rfl,Nat.pow_succ,Nat.mul_comm]
   exact Nat.mul_lt_mul_of_lt_of_lt hVN hgB
  exact dig_fin h hgB hj hq hw3 hUN hTN hmod hml hclose hK2
 have st0:stD0 m W v σ (env::out) b j off e 0={env:=[(0,.sl j 1 off (e+3)),(1,nl m v),(5,iv ((e:Int)+2)),(7,u64v (topW W off e/v.getD (e+1) 0)),(8,u64v (topW W off e%v.getD (e+1) 0))],sto:=σ,out:=env::out,base:=b}:=by
  rw[stD0,gK_zero,rK_zero]
 rw[st0] at fin
 clear hwe
 clear st0 hclose hw huU hvV
 obtain ⟨rb,hrb⟩:∃ rb,W[off+(e+2)]*B=rb:=⟨_,rfl⟩
 rw[hrb] at hor hsh
 generalize topW W off e=w at *
 rw[p1] at fin h1
 generalize g1:v[e+1]=v1 at *
 generalize g2:W[off+(e+2)]=w3 at *
 generalize g3:W[off+(e+1)]=w2 at *
 have t1:IntKind.u64.wrap ((w:Int).tdiv v1)=((w/v1:Nat):Int):=by
  rw[← Int.ofNat_tdiv]
  exact w64 (Nat.lt_of_le_of_lt (Nat.div_le_self _ _) hwB)
 have t2:((w:Int).tmod v1)=((w%v1:Nat):Int):=by rw[← Int.ofNat_tmod]
 have t3:IntKind.u64.wrap ((w:Int)/v1)=((w/v1:Nat):Int):=by
  rw[← Int.natCast_ediv]
  exact w64 (Nat.lt_of_le_of_lt (Nat.div_le_self _ _) hwB)
 generalize w/v1=q at *
 generalize w%v1=r at *
 have hv10:¬ v1=0:=by omega
 have c0:(e:Int)+2<(e:Int)+3:=by omega
 have c1:((e:Int)+2).toNat=e+2:=by omega
 have c2:((e:Int)+1).toNat=e+1:=by omega
 have c3:(0:Int)≤(e:Int)+2:=by omega
 have c4:(0:Int)≤(e:Int)+1:=by omega
 have c5:(e:Int)+1<(e:Int)+3:=by omega
 have i5:IntKind.i64.wrap ((e:Int)+2-1)=(e:Int)+1:=by rw[wrap64]<;>omega
 have hlen:(v.length:Int)=(e:Int)+2:=by omega
 rw[B_eq] at b1 b2 b3
 have u1:IntKind.u64.wrap (v1:Int)=v1:=w64 (by omega)
 have u2:IntKind.u64.wrap (w3:Int)=w3:=w64 (by omega)
 have u3:IntKind.u64.wrap (w2:Int)=w2:=w64 (by omega)
 simp[c_n_digit,hj,g1,g2,g3,c0,c1,c2,c3,c4,c5,i5,hlen,u1,u2,u3,hWa,hWb,hv1,hv10,eBin_shl,hsh,hor,eBin_quo,eBin_rem,t2,t3]
 refine fin _ fun ex s he hs=>?_
 subst he hs
 simp[r_n_digit]
 exact hK
end Go.Proofs.Ytbmhibiljjnfiaa

namespace Go.Dig
def lz (t:Nat):Nat:=31-Nat.log2 t
theorem lz_lt {t:Nat}:lz t<32:=by unfold lz; omega
theorem log_lt {t:Nat} (ht:t<B):Nat.log2 t<32:=by
 rcases Nat.eq_zero_or_pos t with h | h
 ·subst h; decide
 ·exact (Nat.log2_lt (by omega)).2 ht
theorem lz_small {t k:Nat} (_ht:t<B) (hk:k<lz t):t*2^k<2147483648:=by
 have h1:t<2^(Nat.log2 t+1):=Nat.lt_log2_self
 have h2:t*2^k<2^(Nat.log2 t+1)*2^k:=Nat.mul_lt_mul_of_pos_right h1 (Nat.pow_pos (by omega))
 rw[← Nat.pow_add] at h2
 have h3:2^(Nat.log2 t+1+k)≤2^31:=Nat.pow_le_pow_right (by omega) (by unfold lz at hk; omega)
 have h4:(2:Nat)^31=2147483648:=by decide
 omega
theorem lz_top {t:Nat} (h0:0<t) (ht:t<B):2147483648≤t*2^lz t∧t*2^lz t<B:=by
 have hl:=log_lt ht
 constructor
 ·have h1:2^Nat.log2 t≤t:=Nat.log2_self_le (by omega)
  have h2:2^Nat.log2 t*2^lz t≤t*2^lz t:=Nat.mul_le_mul_right _ h1
  rw[← Nat.pow_add,show Nat.log2 t+lz t=31 by unfold lz; omega] at h2
  have h4:(2:Nat)^31=2147483648:=by decide
  omega
 ·have h1:t<2^(Nat.log2 t+1):=Nat.lt_log2_self
  have h2:t*2^lz t<2^(Nat.log2 t+1)*2^lz t:=Nat.mul_lt_mul_of_pos_right h1 (Nat.pow_pos (by omega))
  rw[← Nat.pow_add,show Nat.log2 t+1+lz t=32 by unfold lz; omega] at h2
  exact h2
theorem digs_len_eq {x n:Nat} (h1:B^n≤x) (h2:x<B^(n+1)):(digs x).length=n+1:=by
 have a:=digs_len_le.2 h2
 have b:=digs_len_lt.2 h1
 omega
theorem top_digit {D n:Nat} (h:(digs D).length=n+1):B^n≤D∧D<B^(n+1)∧0<D/B^n∧D/B^n<B:=by
 have a:B^n≤D:=digs_len_lt.1 (by omega)
 have b:D<B^(n+1):=digs_len_le.1 (by omega)
 refine ⟨a,b,Nat.div_pos a (pw_pos n),Nat.div_lt_of_lt_mul ?_⟩
 rw[← Nat.pow_succ]; exact b
theorem shift_len {D n N:Nat} (h:(digs D).length=n+1) (hN:N=lz (D/B^n)):B^n≤D*2^N∧D*2^N<B^(n+1)∧(digs (D*2^N)).length=n+1:=by
 obtain ⟨a,b,c,d⟩:=top_digit h
 have hl:=(lz_top c d).2
 rw[← hN] at hl
 have hN32:N<32:=by rw[hN]; exact lz_lt
 have hB:B=2^(32-N)*2^N:=by
  rw[← Nat.pow_add,Nat.sub_add_cancel (by omega)]; rfl
 have h1:D/B^n+1≤2^(32-N):=by
  have h0:=hl
  generalize D/B^n=t at *
  rw[hB] at h0
  exact Nat.lt_of_mul_lt_mul_right h0
 have h2:D<(D/B^n+1)*B^n:=by
  have:=Nat.lt_mul_div_succ D (pw_pos n)
  rw[Nat.mul_comm] at this
  exact this
 have h3:D<2^(32-N)*B^n:=Nat.lt_of_lt_of_le h2 (Nat.mul_le_mul_right _ h1)
 have h4:D*2^N<2^(32-N)*B^n*2^N:=Nat.mul_lt_mul_of_pos_right h3 (Nat.pow_pos (by omega))
 have h5:2^(32-N)*B^n*2^N=B^(n+1):=by
  rw[Nat.mul_right_comm,← hB,Nat.pow_succ,Nat.mul_comm]
 have h6:B^n≤D*2^N:=Nat.le_trans a (Nat.le_mul_of_pos_right _ (Nat.pow_pos (by omega)))
 rw[h5] at h4
 exact ⟨h6,h4,digs_len_eq h6 h4⟩
def rst (A V j:Nat):Nat:=A/B^j%V*B^j+A%B^j
theorem rst_lt {A V j n:Nat} (hV:V<B^n) (h0:0<V):rst A V j<B^(j+n):=by
 have h1:A/B^j%V+1≤B^n:=Nat.le_trans (Nat.mod_lt _ h0) (Nat.le_of_lt hV)
 have h2:(A/B^j%V+1)*B^j≤B^n*B^j:=Nat.mul_le_mul_right _ h1
 have h3:A%B^j<B^j:=Nat.mod_lt _ (pw_pos j)
 have h4:B^(j+n)=B^n*B^j:=by rw[Nat.pow_add,Nat.mul_comm]
 unfold rst
 rw[h4]
 rw[Nat.add_mul,Nat.one_mul] at h2
 omega
theorem rst_zero {A V:Nat}:rst A V 0=A%V:=by simp[rst,Nat.mod_one]
theorem rst_top {A V j:Nat} (h:A/B^j<V):rst A V j=A:=by
 unfold rst
 rw[Nat.mod_eq_of_lt h,Nat.mul_comm]
 exact Nat.div_add_mod A (B^j)
theorem rst_low {A V j:Nat}:rst A V j%B^j=A%B^j:=by
 unfold rst
 rw[Nat.add_comm,Nat.add_mul_mod_self_right,Nat.mod_mod]
theorem rst_seg {A V j:Nat}:rst A V (j+1)/B^j=A/B^j/B%V*B+A/B^j%B:=by
 unfold rst
 rw[show A/B^(j+1)=A/B^j/B by rw[Nat.pow_succ,Nat.div_div_eq_div_mul]]
 have h1:A%B^(j+1)=A%B^j+B^j*(A/B^j%B):=by rw[Nat.pow_succ,Nat.mod_mul]
 rw[h1,Nat.pow_succ]
 have h2:A/B^j/B%V*(B^j*B)+(A%B^j+B^j*(A/B^j%B))=A%B^j+(A/B^j/B%V*B+A/B^j%B)*B^j:=by grind
 rw[h2,Nat.add_mul_div_right _ _ (pw_pos j),Nat.div_eq_of_lt (Nat.mod_lt _ (pw_pos j)),Nat.zero_add]
theorem rst_step {A V j L n:Nat} (hV:V<B^n) (h0:0<V) (hL:j+n+1≤L):seg (digsN L (rst A V (j+1))) j (digsN (n+1) (A/B^j%V))=digsN L (rst A V j):=by
 have hlen:j+(digsN (n+1) (A/B^j%V)).length≤(digsN L (rst A V (j+1))).length:=by rw[digsN_len,digsN_len]; omega
 have hlt1:=rst_lt (A:=A) (j:=j+1) hV h0
 have hlt0:=rst_lt (A:=A) (j:=j) hV h0
 have hle:B^(j+1+n)≤B^L:=Nat.pow_le_pow_right B_pos (by omega)
 have hle0:B^(j+n)≤B^L:=Nat.pow_le_pow_right B_pos (by omega)
 have hL1:rst A V (j+1)<B^L:=Nat.lt_of_lt_of_le hlt1 hle
 have o1:ok (digsN L (rst A V (j+1))):=ok_digsN
 refine val_inj ?_ ok_digsN (by rw[seg_len hlen,digsN_len,digsN_len]) ?_
 ·unfold seg
  exact ok_append.2 ⟨ok_append.2 ⟨ok_take o1 _,ok_digsN⟩,ok_drop o1 _⟩
 ·unfold seg
  rw[val_append,val_append,val_take o1 (by rw[digsN_len]; omega),val_drop o1 (by rw[digsN_len,digsN_len]; omega),val_digsN_lt hL1,val_digsN_lt (Nat.lt_of_lt_of_le hlt0 hle0)]
  have hz:rst A V (j+1)/B^(j+(digsN (n+1) (A/B^j%V)).length)=0:=by
   rw[digsN_len]
   exact Nat.div_eq_of_lt (by rw[show j+(n+1)=j+1+n by omega]; exact hlt1)
  have hl:(List.take j (digsN L (rst A V (j+1)))).length=j:=by simp[digsN_len]; omega
  have hx:A/B^j%V<B^(n+1):=Nat.lt_trans (Nat.lt_trans (Nat.mod_lt _ h0) hV) (Nat.pow_lt_pow_right (by decide) (by omega))
  rw[hz,hl,val_digsN_lt hx,Nat.mul_zero,Nat.add_zero]
  have h1:rst A V (j+1)%B^j=A%B^j:=by
   have h2:rst A V (j+1)%B^(j+1)%B^j=A%B^(j+1)%B^j:=by rw[rst_low]
   rw[Nat.mod_mod_of_dvd _ (Nat.pow_dvd_pow B (by omega)),Nat.mod_mod_of_dvd _ (Nat.pow_dvd_pow B (by omega))] at h2
   exact h2
  rw[h1]
  unfold rst
  rw[Nat.mul_comm,Nat.add_comm]
theorem rst_digit {A V j:Nat} (h0:0<V):(rst A V (j+1)/B^j)/V=A/V/B^j%B∧(rst A V (j+1)/B^j)%V=A/B^j%V∧rst A V (j+1)/B^j<V*B:=by
 obtain ⟨s1,s2,s3⟩:=small_step (A:=A/B^j) h0
 rw[rst_seg]
 refine ⟨?_,s2,s3⟩
 rw[s1,Nat.div_div_eq_div_mul,Nat.div_div_eq_div_mul,Nat.mul_comm]
end Go.Dig
namespace Go.Dig
theorem shr_digit {X N i:Nat} (hN:N<32):(X/2^N)/B^i%B=(X/B^i%B)/2^N+(X/B^(i+1)%B)*2^(32-N)%B ∧
  (X/B^i%B)/2^N ||| (X/B^(i+1)%B)*2^(32-N)%B=(X/B^i%B)/2^N+(X/B^(i+1)%B)*2^(32-N)%B:=by
 have hB:B=2^(32-N)*2^N:=by
  rw[← Nat.pow_add,Nat.sub_add_cancel (by omega)]; rfl
 have hP:0<2^N:=Nat.pow_pos (by omega)
 have hM:0<2^(32-N):=Nat.pow_pos (by omega)
 rw[show X/2^N/B^i=X/B^i/2^N by rw[Nat.div_div_eq_div_mul,Nat.div_div_eq_div_mul,Nat.mul_comm],show X/B^(i+1)=X/B^i/B by rw[Nat.pow_succ,Nat.div_div_eq_div_mul]]
 generalize X/B^i=Y
 have hx:Y%B/2^N<2^(32-N):=by
  apply Nat.div_lt_of_lt_mul
  rw[Nat.mul_comm,← hB]; exact Nat.mod_lt _ B_pos
 have hc:∀ q,q*2^(32-N)%B=(q%2^N)*2^(32-N):=fun q=>by
  have h:=Nat.mul_mod_mul_right (2^(32-N)) q (2^N)
  rw[Nat.mul_comm (2^N) (2^(32-N)),← hB] at h
  exact h
 have hY:Y/2^N=Y/B*2^(32-N)+Y%B/2^N:=by
  have h1:Y=Y%B+2^N*(Y/B*2^(32-N)):=by
   have h2:=Nat.mod_add_div Y B
   have h3:2^N*(Y/B*2^(32-N))=B*(Y/B):=by
    have:2^N*(Y/B*2^(32-N))=2^(32-N)*2^N*(Y/B):=by
     generalize Y/B=z
     generalize (2:Nat)^N=p
     generalize (2:Nat)^(32-N)=m
     grind
    rw[this,← hB]
   rw[h3]; exact h2.symm
  have h4:Y/2^N=(Y%B+2^N*(Y/B*2^(32-N)))/2^N:=by rw[← h1]
  rw[h4,Nat.add_mul_div_left _ _ hP,Nat.add_comm]
 have hd:2^N ∣ B:=⟨2^(32-N),by rw[hB,Nat.mul_comm]⟩
 rw[hY,hc (Y/B%B),Nat.mod_mod_of_dvd _ hd]
 generalize hq:Y/B%2^N=a
 have ha:a<2^N:=by rw[← hq]; exact Nat.mod_lt _ hP
 generalize Y%B/2^N=c at *
 have hlt:a*2^(32-N)+c<B:=by
  have h1:(a+1)*2^(32-N)≤2^N*2^(32-N):=Nat.mul_le_mul_right _ ha
  rw[Nat.mul_comm (2^N),← hB,Nat.add_mul,Nat.one_mul] at h1
  omega
 constructor
 ·have h2:=hc (Y/B)
  rw[hq] at h2
  rw[Nat.add_mod,h2,Nat.mod_eq_of_lt (a:=c) (by omega),Nat.mod_eq_of_lt hlt,Nat.add_comm]
 ·have h:=Nat.two_pow_add_eq_or_of_lt hx a
  rw[Nat.or_comm,Nat.mul_comm a,← h,Nat.add_comm]
end Go.Dig
namespace Go.Dig
structure DivOk (A D n m N X V:Nat):Prop where
 N32:N<32
 X_eq:X=A*2^N
 V_eq:V=D*2^N
 Xlt:X<B^(n+2+m+1)
 Vlen:(digs V).length=n+2
 Vpos:0<V
 Vlt:V<B^(n+2)
 top:X/B^(m+1)<V
 q:X/V=A/D
 r:X%V=(A%D)*2^N
 vtop:0<(digs V).getD (n+1) 0
theorem divOk {A D n m:Nat} (hA:(digs A).length=n+2+m) (hD:(digs D).length=n+2):DivOk A D n m (lz (D/B^(n+1))) (A*2^lz (D/B^(n+1))) (D*2^lz (D/B^(n+1))):=by
 have hN32:lz (D/B^(n+1))<32:=lz_lt
 obtain ⟨h1,h2,h3⟩:=shift_len (n:=n+1) hD rfl
 obtain ⟨h4,h5,h6,h7⟩:=top_digit (n:=n+1) hD
 have hP:0<2^lz (D/B^(n+1)):=Nat.pow_pos (by omega)
 have hAlt:A<B^(n+2+m):=digs_len_le.1 (Nat.le_of_eq hA)
 generalize lz (D/B^(n+1))=N at *
 obtain ⟨k1,k2,k3,k4⟩:=top_digit (n:=n+1) h3
 refine ⟨hN32,rfl,rfl,?_,h3,Nat.lt_of_lt_of_le (pw_pos _) h1,h2,?_,Nat.mul_div_mul_right _ _ hP,Nat.mul_mod_mul_right _ _ _,?_⟩
 ·have:2^N≤B:=Nat.le_of_lt (pow_bits hN32)
  rw[Nat.pow_succ]
  exact Nat.lt_of_lt_of_le (Nat.mul_lt_mul_of_pos_right hAlt hP) (Nat.mul_le_mul_left _ this)
 ·apply Nat.div_lt_of_lt_mul
  have a1:A*2^N<B^(n+2+m)*2^N:=Nat.mul_lt_mul_of_pos_right hAlt hP
  have a2:B^(n+1)*2^N≤D*2^N:=Nat.mul_le_mul_right _ h4
  have a3:B^(m+1)*(B^(n+1)*2^N)≤B^(m+1)*(D*2^N):=Nat.mul_le_mul_left _ a2
  have a4:B^(n+2+m)=B^(m+1)*B^(n+1):=by rw[← Nat.pow_add]; congr 1; omega
  rw[a4,Nat.mul_assoc] at a1
  exact Nat.lt_of_lt_of_le a1 a3
 ·have hl:n+1<(digs (D*2^N)).length:=by rw[h3]; omega
  have:(digs (D*2^N)).getD (n+1) 0=D*2^N/B^(n+1):=by
   rw[List.getD_eq_getElem?_getD,List.getElem?_eq_getElem hl,Option.getD_some,get_digs,Nat.mod_eq_of_lt k4]
  rw[this]
  exact k3
theorem rst_val {A V j n L:Nat} (hV:V<B^n) (h0:0<V) (hL:j+n+1≤L):rst A V (j+1)/B^j=val (((digsN L (rst A V (j+1))).drop j).take (n+1)):=by
 have o1:ok (digsN L (rst A V (j+1))):=ok_digsN
 have hlt1:=rst_lt (A:=A) (j:=j+1) hV h0
 have hL1:rst A V (j+1)<B^L:=Nat.lt_of_lt_of_le hlt1 (Nat.pow_le_pow_right B_pos (by omega))
 have hlen:n+1≤((digsN L (rst A V (j+1))).drop j).length:=by rw[List.length_drop,digsN_len]; omega
 rw[val_take (ok_drop o1 _) hlen,val_drop o1 (by rw[digsN_len]; omega),val_digsN_lt hL1,Nat.mod_eq_of_lt]
 apply Nat.div_lt_of_lt_mul
 rw[← Nat.pow_add,show j+(n+1)=j+1+n by omega]
 exact hlt1
end Go.Dig

namespace Go.Proofs.Ytbmhibiljjnfiaa
open Go Go.Am Go.Dig
def stDv0 (A D k:Nat):St:={env:=[(0,nD A),(1,nD D),(9,u64v k)],sto:=[]}
abbrev divR (A D:Nat):AV:=AV.tuple [nD (A/D),nD (A%D),iv 0]
theorem imp_tup3 {x1 x2 x3 y1 y2 y3:AV} (h1:AV.imp x1 y1) (h2:AV.imp x2 y2) (h3:AV.imp x3 y3):AV.imp (.tuple [x1,x2,x3]) (.tuple [y1,y2,y3]):=fun I w v hv=>by
 cases hv with
 | tuple cells vs hs hc =>
  refine .tuple _ _ (by simpa using hs) fun i c hi=>?_
  match i,hi with
  | 0,hi=>simp at hi; subst hi; exact h1 _ _ _ (hc 0 x1 rfl)
  | 1,hi=>simp at hi; subst hi; exact h2 _ _ _ (hc 1 x2 rfl)
  | 2,hi=>simp at hi; subst hi; exact h3 _ _ _ (hc 2 x3 rfl)
  | i+3,hi=>simp at hi
theorem imp_arg2 {f:FuncId} {x y y' r:AV} (h:SoundCall Try.prog f [x,y'] r) (hy:AV.imp y y'):SoundCall Try.prog f [x,y] r:=fun I vs w h1 h2 h3 =>
 h I vs w h1 h2 fun i a hi=>by
  match i,hi with
  | 0,hi=>exact h3 0 a hi
  | 1,hi=>simp at hi; subst hi; exact hy _ _ _ (h3 1 y rfl)
  | i+2,hi=>simp at hi
theorem small_zero {sz:Nat}:AV.imp (.list sz .full []) (nD 0):=by
 rw[nD,digs_zero]
 exact AV.imp_nil rfl
theorem div_start {m1 m2:Am.Mode} {a c:List Nat} (ha:ok a) (hc:ok c) (hna:a.length<549755813888) (hnc:c.length<549755813888) (f1:stm m1=m1) (f2:stm m2=m2) (hD:val c≠0)
  (hmain:∀ n m,(digs (val c)).length=n+2→(digs (val a)).length=n+2+m→val c≤val a →
   awp Try.prog (.loop c_n_DivMod_l0) (stDv0 (val a) (val c) 0) (blockC 0 (seqC Try.prog c_n_DivMod_k5 (retW r_n_DivMod (divR (val a) (val c)))))) :
  SoundCall Try.prog F_n_DivMod [nl m1 a,nl m2 c] (divR (val a) (val c)):=by
 have k1:=trim_sound (m:=m1) ha (by omega)
 have k2:=trim_sound (m:=m2) hc (by omega)
 have hla:=digs_digs_norm ha
 have hlc:=digs_digs_norm hc
 generalize val a=A at *
 generalize val c=D at *
 have kc:=cmp_sound (m1:=.plain) (m2:=.plain) (ok_digs A) (ok_digs D) (by omega) (by omega)
 rw[val_digs,val_digs] at kc
 have hl0:¬ (digs D).length=0:=by rw[List.length_eq_zero_iff,digs_eq_nil]; exact hD
 have hl0':¬ digs D=[]:=by rw[digs_eq_nil]; exact hD
 refine soundW' t_n_DivMod (by simp) ?_
 simp[c_n_DivMod]
 refine eCall_i k1 (by simp[f1]) (by simp) ?_
 simp
 refine eCall_i k2 (by simp[f2]) (by simp) ?_
 simp[hl0]
 refine eCall_i kc (by simp) (by simp) ?_
 by_cases hlt:A<D
 ·have hc1:cmpN A D=-1:=by simp[cmpN,hlt]
  simp[hc1]
  have ka:=add_sound (m1:=.plain) (m2:=.plain) (a:=digs A) (b:=[]) (ok_digs A) ok_nil (by omega) (by simp)
  rw[val_digs] at ka
  refine eCall_i (imp_arg2 ka (AV.imp_nil (sz:=0) rfl)) (by simp) (by simp) ?_
  simp[r_n_DivMod,val]
  rw[divR,Nat.div_eq_of_lt hlt,Nat.mod_eq_of_lt hlt]
  exact imp_tup3 small_zero AV.imp.refl AV.imp.refl
 ·have hc1:¬ cmpN A D<0:=by simp only[cmpN,if_neg hlt]; split<;>omega
  by_cases h1:(digs D).length=1
  ·have h1z:((digs D).length:Int)=1:=by omega
   have h10:0<(digs D).length:=by omega
   have hDB:D<B:=by
    have:=digs_len_le.1 (Nat.le_of_eq h1)
    simpa using this
   have hg:(digs D)[0]=D:=by rw[get_digs]; simp[Nat.mod_eq_of_lt hDB]
   have ks:=small_sound (m:=.plain) (a:=digs A) (d:=D) (ok_digs A) (by omega) (by omega) hDB rfl
   rw[val_digs] at ks
   have hm:A%D<D:=Nat.mod_lt _ (by omega)
   generalize hq:A%D=r at *
   rw[B_eq] at hDB
   have kf:=fromUint_sound (x:=r) (by omega)
   have u1:IntKind.u64.wrap (r:Int)=r:=w64 (by omega)
   simp[hc1,h1z,h10,hg]
   refine eCall_i ks (by simp) (by simp) ?_
   simp[u1]
   refine eCall_i kf (by simp) (by simp) ?_
   simp[r_n_DivMod]
   rw[divR,hq]
   exact AV.imp.refl
  ·have h1z:¬ ((digs D).length:Int)=1:=by omega
   simp[hc1,h1z]
   obtain ⟨n,hn⟩:∃ n,(digs D).length=n+2:=⟨(digs D).length-2,by omega⟩
   have hle:(digs D).length≤(digs A).length:=by
    rcases Nat.lt_or_ge (digs A).length (digs D).length with h2 | h2
    ·exact absurd (lt_of_len h2) hlt
    ·exact h2
   obtain ⟨m,hm⟩:∃ m,(digs A).length=n+2+m:=⟨(digs A).length-(n+2),by omega⟩
   exact hmain n m hn hm (by omega)
end Go.Proofs.Ytbmhibiljjnfiaa

namespace Go.Proofs.Ytbmhibiljjnfiaa
open Go Go.Am Go.Dig
theorem shifted_sound {m:Am.Mode} {a:List Nat} {bits:Nat} (ha:ok a) (hn:a.length<1099511627775) (hb:bits<32):SoundCall Try.prog F_n_shifted [nl m a,u64v bits] (nl .plain (digsN (a.length+1) (val a*2^bits))):=by
 refine soundW' t_n_shifted (by simp) ?_
 have w:IntKind.i64.wrap ((a.length:Int)+1)=(a.length:Int)+1:=wrap64 (by omega) (by omega)
 have e1:((a.length:Int)+1).toNat=a.length+1:=by omega
 simp[c_n_shifted,w,eMk,e1]
 refine ⟨by omega,by omega,by omega,?_⟩
 refine awp_forW (stSh a m [] [] 0 bits) (fun _=>True) a.length (by simp[stSh,shL_zero,digsN_zero]) trivial (fun i hi _=>?_) (fun _=>?_)
 ·have e:(i:Int)<a.length:=by omega
  have hpow:=pow_bits hb
  have hak:=ok_get ha hi
  have hL:=shL_lt (bits:=bits) (i:=i) ha
  have hLB:shL a bits i<B^(i+1):=by
   have:B^i*2^bits≤B^i*B:=Nat.mul_le_mul_left _ (by omega)
   rw[Nat.pow_succ]; omega
  have hc:shL a bits i/B^i<2^bits:=Nat.div_lt_of_lt_mul hL
  obtain ⟨o1,o2,o3,o4⟩:=low_or (c:=shL a bits i/B^i) (a:=a[i]) hb hc hak
  have hsucc:=shL_succ (bits:=bits) hi
  have hL2:=shL_lt (bits:=bits) (i:=i+1) ha
  have hLN:shL a bits (i+1)<B^(a.length+1):=by
   have h1:B^(i+1)*2^bits≤B^(i+1)*B:=Nat.mul_le_mul_left _ (by omega)
   have h3:B^(i+1+1)=B^(i+1)*B:=Nat.pow_succ _ _
   have h2:B^(i+1+1)≤B^(a.length+1):=Nat.pow_le_pow_right B_pos (by omega)
   omega
  have htB:(shL a bits i/B^i+a[i]*2^bits)/B<B:=by
   rw[← o3]
   apply Nat.div_lt_of_lt_mul
   exact Nat.mul_lt_mul_of_lt_of_lt hak hpow
  have hstep:=shift_step (N:=a.length+1) (i:=i) (t:=a[i]*2^bits) hLB (by omega) (by rw[← hsucc]; exact hLN) htB
  rw[← hsucc,← o2,← o3] at hstep
  have hlen:=digsN_len (n:=a.length+1) (x:=shL a bits i)
  have hi1:i<(digsN (a.length+1) (shL a bits i)).length:=by omega
  have hget:(digsN (a.length+1) (shL a bits i))[i]=shL a bits i/B^i:=by
   rw[digsN_get,Nat.mod_eq_of_lt (Nat.lt_trans hc hpow)]
  obtain ⟨c,hcE⟩:∃ c,shL a bits i/B^i=c:=⟨_,rfl⟩
  obtain ⟨t,htE⟩:∃ t,a[i]*2^bits=t:=⟨_,rfl⟩
  have htlt:t<B*B:=by rw[← htE]; exact Nat.mul_lt_mul_of_lt_of_lt hak hpow
  rw[hcE,htE] at o1 o4 hstep
  rw[hcE] at hget hc
  obtain ⟨x,hxE⟩:∃ x,t%B=x:=⟨_,rfl⟩
  obtain ⟨q,hqE⟩:∃ q,t/B=q:=⟨_,rfl⟩
  rw[hxE] at o1 o4 hstep
  rw[hqE] at hstep
  have hxB:x<B:=by rw[← hxE]; exact Nat.mod_lt _ B_pos
  have hqB:q<B:=by rw[← hqE]; exact Nat.div_lt_of_lt_mul htlt
  have hor:=or32 (c:=c) (x:=x) (by omega) hxB (by rw[o1]; exact o4)
  rw[o1] at hor
  obtain ⟨y,hyE⟩:∃ y,c+x=y:=⟨_,rfl⟩
  rw[hyE] at hor hstep
  have hBB:B*B=18446744073709551616:=by decide
  rw[hBB] at htlt
  have f1:IntKind.u32.wrap (t:Int)=(x:Int):=by rw[w32,hxE]
  have f2:(t:Int).fdiv (2^min 32 IntKind.u64.bits)=(q:Int):=by rw[shr32,hqE]
  have f3:IntKind.u32.wrap (q:Int)=q:=IntWalk.u32_in _ (by rw[B_eq] at hqB; omega)
  have u1:IntKind.u64.wrap ((a[i]:Nat):Int)=(a[i]:Nat):=w64 (by rw[B_eq] at hak; omega)
  have hmin:min bits IntKind.u64.bits=bits:=by
   have:IntKind.u64.bits=64:=rfl
   omega
  have u2:IntKind.u64.wrap (((a[i]:Nat):Int)*2^bits)=(t:Int):=by
   rw[show ((a[i]:Nat):Int)*2^bits=((a[i]*2^bits:Nat):Int) by simp,htE]; exact w64 htlt
  have hset:((drows (digsN (a.length+1) (shL a bits i))).set i [uv y]).set (i+1) [uv q]=drows (digsN (a.length+1) (shL a bits (i+1))):=by
   rw[drows_set,drows_set,hstep]
  have wi:IntKind.i64.wrap ((i:Int)+1)=(i:Int)+1:=wrap64 (by omega) (by omega)
  have ei1:(i:Int)<a.length+1:=by omega
  have e2:((i:Int)+1).toNat=i+1:=by omega
  have e3:(0:Int)≤(i:Int)+1:=by omega
  have hi2:i+1<(digsN (a.length+1) (shL a bits i)).length:=by omega
  have hnb:¬ ((bits:Int)<0):=by omega
  simp[c_n_shifted_l0,stSh,e,hi,hi1,hi2,ei1,e2,e3,hget,hor,u1,eBin_shl,eBin_shr,hmin,u2,f1,f2,f3,wi,splice,hset]
 ·have:digsN (a.length+1) (shL a bits a.length)=digsN (a.length+1) (val a*2^bits):=by rw[shL_all]
  have hlt:(digsN (a.length+1) (val a*2^bits)).length=a.length+1:=digsN_len
  have ht:List.take (a.length+1) (drows (digsN (a.length+1) (val a*2^bits)))=drows (digsN (a.length+1) (val a*2^bits)):=List.take_of_length_le (by rw[List.length_map,hlt]; exact Nat.le_refl _)
  simp[c_n_shifted_l0,stSh,c_n_shifted_k1,r_n_shifted,this,hlt,ht]
  exact AV.imp.refl
end Go.Proofs.Ytbmhibiljjnfiaa

namespace Go.Proofs.Ytbmhibiljjnfiaa
open Go Go.Am Go.Dig
theorem lz_top2 {t:Nat} (h0:0<t) (ht:t<B):∃ p,t*2^lz t=p∧2147483648≤p∧p<4294967296:=⟨_,rfl,(lz_top h0 ht).1,(lz_top h0 ht).2⟩
theorem div_bits {A D n _m:Nat} {K:Exit→St→Prop} (hD:(digs D).length=n+2) (hn:n<549755813888)
  (hK:∀ q y,(q=53)→awp Try.prog c_n_DivMod_k5 {env:=[(0,nD A),(1,nD D),(9,u64v (lz (D/B^(n+1)))),(q,y)],sto:=[]} K) :
  awp Try.prog (.loop c_n_DivMod_l0) (stDv0 A D 0) (blockC 0 (seqC Try.prog c_n_DivMod_k5 K)):=by
 obtain ⟨_,_,ht0,htB⟩:True∧True∧0<D/B^(n+1)∧D/B^(n+1)<B:=⟨trivial,trivial,(top_digit (n:=n+1) hD).2.2⟩
 have hg:(digs D)[n+1]'(by omega)=D/B^(n+1):=by rw[get_digs,Nat.mod_eq_of_lt htB]
 have hlen:((digs D).length:Int)=(n:Int)+2:=by omega
 have w0:IntKind.i64.wrap ((n:Int)+2-1)=(n:Int)+1:=by rw[wrap64]<;>omega
 have e1:((n:Int)+1).toNat=n+1:=by omega
 have e2:(0:Int)≤(n:Int)+1:=by omega
 have e3:n+1<(digs D).length:=by omega
 generalize D/B^(n+1)=t at *
 refine awp_forW (stDv0 A D) (fun _=>True) (lz t) (by simp[stDv0]) trivial (fun k hk _=>?_) (fun _=>?_)
 ·have hs:=lz_small htB hk
  have h32:=lz_lt (t:=t)
  obtain ⟨p,hp⟩:∃ p,t*2^k=p:=⟨_,rfl⟩
  rw[hp] at hs
  have hmin:min k IntKind.u32.bits=k:=by
   have:IntKind.u32.bits=32:=rfl
   omega
  have u1:IntKind.u32.wrap ((t:Int)*2^k)=(p:Int):=by
   rw[show (t:Int)*2^k=((t*2^k:Nat):Int) by simp,hp]; exact IntWalk.u32_in _ (by omega)
  have u2:IntKind.u64.wrap ((k:Int)+1)=(k:Int)+1:=w64' (by omega) (by omega)
  have c1:(p:Int)<2147483648:=by omega
  have c2:¬ ((k:Int)<0):=by omega
  simp[c_n_DivMod_l0,stDv0,hlen,w0,e1,e2,e3,hg,eBin_shl,hmin,u1,u2,c1,c2]
 ·have h32:=lz_lt (t:=t)
  obtain ⟨p,hp,h1,h2⟩:=lz_top2 ht0 htB
  have hk0:=hK _ (bv false) rfl
  clear hK
  generalize lz t=k at *
  have hmin:min k IntKind.u32.bits=k:=by
   have:IntKind.u32.bits=32:=rfl
   omega
  have u1:IntKind.u32.wrap ((t:Int)*2^k)=(p:Int):=by
   rw[show (t:Int)*2^k=((t*2^k:Nat):Int) by simp,hp]; exact IntWalk.u32_in _ (by omega)
  have c1:¬ (p:Int)<2147483648:=by omega
  have c3:¬ p<2147483648:=by omega
  have c2:¬ ((k:Int)<0):=by omega
  simp[c_n_DivMod_l0,stDv0,hlen,w0,e1,e2,e3,hg]
  rw[eBin_shl c2,Int.toNat_natCast,hmin,u1]
  generalize (p:Int)=z at *
  simp[c1]
  exact hk0
def stDv1 (A D n m N X V k:Nat):St :=
 {env:=[(4,.sl 72 1 0 (m+1)),(9,u64v N),(10,.sl 1011 1 0 (n+2+m+1)),(11,nD V),(12,iv ((n:Int)+2)),(13,iv m),(74,iv ((m:Int)+1)),(75,iv k)],
  sto:=[(72,.arr 1 (drows (smallQ (m+1) (A/D) k))),(1011,.arr 1 (drows (digsN (n+2+m+1) (rst X V (m+1-k)))))]}
theorem div_mid {A D n m N X V:Nat} {K:Exit→St→Prop} (hA:(digs A).length=n+2+m) (hD:(digs D).length=n+2) (hn:n+m<274877906944) {y:AV} (h:DivOk A D n m N X V)
  (hK:∀ s,impE s (stDv1 A D n m N X V 0)→awp Try.prog (.loop c_n_DivMod_l1) s (blockC 2 (seqC Try.prog c_n_DivMod_k4 K))) :
  awp Try.prog c_n_DivMod_k5 {env:=[(0,nD A),(1,nD D),(9,u64v N),(53,y)],sto:=[]} K:=by
 have hN32:=h.N32
 have kt:=trim_sound (m:=.plain) (a:=digsN (n+2+1) V) ok_digsN (by rw[digsN_len]; omega)
 have hVlt:V<B^(n+2+1):=Nat.lt_trans h.Vlt (Nat.pow_lt_pow_right (by decide) (by omega))
 rw[val_digsN_lt hVlt] at kt
 have hVl:=h.Vlen
 have w1:IntKind.i64.wrap ((n:Int)+2+m-(n+2))=(m:Int):=by rw[wrap64]<;>omega
 have w2:IntKind.i64.wrap ((m:Int)+1)=(m:Int)+1:=by rw[wrap64]<;>omega
 have e1:((m:Int)+1).toNat=m+1:=by omega
 have e2:(digsN (n+2+1) V).length=n+2+1:=digsN_len
 have e3:(drows (digsN (n+2+1) V)).length=n+2+1:=by rw[List.length_map,e2]
 simp[c_n_DivMod_k5]
 refine ⟨rfl,?_⟩
 refine shiftedI 1000 (ok_digs A) (by omega) hN32 (by simp) ?_
 simp
 have ks:=shifted_sound (m:=.plain) (bits:=N) (ok_digs D) (by omega) hN32
 rw[val_digs,← h.V_eq,hD] at ks
 refine eCall_i ks (by simp) (by simp) ?_
 simp
 refine eCall_i kt (by simp) (by simp) ?_
 simp[hVl,hA,hD,w1,w2,eMk,e1]
 refine ⟨by omega,by omega,by omega,?_⟩
 rw[val_digs,← h.X_eq]
 have hz:rst X V (m+1)=X:=rst_top h.top
 refine hK _ ?_
 simp[stDv1,hz,smallQ_zero,subE]
theorem div_loop {A D n m N X V:Nat} {K:Exit→St→Prop} (hn:n+m<274877906944) (h:DivOk A D n m N X V)
  (hK:∀ q y,q=76→awp Try.prog c_n_DivMod_k4 {(stDv1 A D n m N X V (m+1)) with env:=(stDv1 A D n m N X V (m+1)).env++[(q,y)]} K) :
  ∀ s,impE s (stDv1 A D n m N X V 0)→awp Try.prog (.loop c_n_DivMod_l1) s (blockC 2 (seqC Try.prog c_n_DivMod_k4 K)):=by
 intro s hs
 refine awp_forW (stDv1 A D n m N X V) (fun _=>True) (m+1) hs trivial (fun k hk _=>?_) (fun _=>?_)
 ·obtain ⟨j,hj⟩:∃ j,m-k=j:=⟨_,rfl⟩
  have hj1:m+1-k=j+1:=by omega
  have hj2:m+1-(k+1)=j:=by omega
  have hj3:m+1-1-k=j:=by omega
  have hlt:=rst_lt (A:=X) (j:=j+1) h.Vlt h.Vpos
  obtain ⟨d1,d2,d3⟩:=rst_digit (A:=X) (j:=j) h.Vpos
  have hstep:=rst_step (A:=X) (V:=V) (j:=j) (L:=n+2+m+1) h.Vlt h.Vpos (by omega)
  have hval:=rst_val (A:=X) (V:=V) (j:=j) (n:=n+2) (L:=n+2+m+1) h.Vlt h.Vpos (by omega)
  have hset:=smallQ_set (n:=m+1) (D:=A/D) (i:=k) hk
  rw[hj3] at hset
  rw[h.q] at d1
  have hql:=smallQ_len (D:=A/D) (show k≤m+1 by omega)
  have hVl:=h.Vlen
  have e:(k:Int)<(m:Int)+1:=by omega
  have w1:IntKind.i64.wrap ((m:Int)-k)=(j:Int):=by rw[wrap64]<;>omega
  have w2:IntKind.i64.wrap ((j:Int)+(n+2))=(j:Int)+(n+2):=by rw[wrap64]<;>omega
  have w3:IntKind.i64.wrap ((j:Int)+(n+2)+1)=(j:Int)+(n+2)+1:=by rw[wrap64]<;>omega
  have w4:IntKind.i64.wrap ((k:Int)+1)=(k:Int)+1:=by rw[wrap64]<;>omega
  have w5:((j:Int)+(n+2)+1).toNat-j=n+3:=by omega
  have ok:DigOk (digsN (n+2+m+1) (rst X V (j+1))) (digs V) j n:=⟨ok_digsN,ok_digs _,hVl,by rw[digsN_len]; omega,by rw[digsN_len]; omega⟩
  simp[c_n_DivMod_l1,stDv1,e,w1,w2,w3,hj1,w5]
  refine ⟨by omega,by omega,rfl,?_⟩
  refine digitI 3000 ok (by simp) h.vtop hval (by rw[val_digs]; exact d3) ?_
  have w6:j<(smallQ (m+1) (A/D) k).length:=by omega
  have w7:(j:Int)<(m:Int)+1:=by omega
  simp only[val_digs,d1,d2,hstep]
  generalize hd:A/D/B^j%B=d at *
  have hset':(drows (smallQ (m+1) (A/D) k)).set j [uv d]=drows (smallQ (m+1) (A/D) (k+1)):=by rw[drows_set,hset]
  simp[w6,w7,splice,hset',w4,hj2,stDv1]
 ·simp[c_n_DivMod_l1,stDv1]
  have:=hK _ (bv false) rfl
  simp[stDv1] at this
  exact this
end Go.Proofs.Ytbmhibiljjnfiaa

namespace Go.Proofs.Ytbmhibiljjnfiaa
open Go Go.Am Go.Dig
def stDv2 (Q R n m N Y k:Nat):St :=
 {env:=[(4,.sl 72 1 0 (m+1)),(5,.sl 99 1 0 (n+2)),(9,u64v N),(10,.sl 1011 1 0 (n+2+m+1)),(100,iv ((n:Int)+2)),(101,iv k)],
  sto:=[(72,.arr 1 (drows (digsN (m+1) Q))),(1011,.arr 1 (drows (digsN (n+2+m+1) Y))),(99,.arr 1 (drows (fillN (n+2) k R)))]}
theorem div_digit {R N i:Nat} (hN:N<32):∃ a c d,R*2^N/B^i%B/2^N=a∧(R*2^N/B^(i+1)%B)*2^(32-N)%B=c∧R/B^i%B=d∧a ||| c=d∧a<B∧c<B∧d<B∧(N=0→a=d):=by
 obtain ⟨h1,h2⟩:=shr_digit (X:=R*2^N) (i:=i) hN
 have hP:0<2^N:=Nat.pow_pos (by omega)
 rw[Nat.mul_div_cancel _ hP] at h1
 refine ⟨_,_,_,rfl,rfl,rfl,by rw[h2,← h1],Nat.lt_of_le_of_lt (Nat.div_le_self _ _) (Nat.mod_lt _ B_pos),Nat.mod_lt _ B_pos,Nat.mod_lt _ B_pos,fun h0=>?_⟩
 subst h0
 rw[Nat.pow_zero,Nat.mul_one,Nat.div_one]
theorem or32' {a c d:Nat} (ha:a<B) (hc:c<B) (h:a ||| c=d) (hd:d<B):bitI .or .u32 (a:Int) (c:Int)=(d:Int):=by
 have:=or32 (c:=a) (x:=c) ha hc (by rw[h]; exact hd)
 rw[h] at this
 exact this
theorem div_end {A D n m N X V:Nat} (hn:n+m<274877906944) (hD:(digs D).length=n+2) (h:DivOk A D n m N X V) :
  ∀ q y,q=76→awp Try.prog c_n_DivMod_k4 {(stDv1 A D n m N X V (m+1)) with env:=(stDv1 A D n m N X V (m+1)).env++[(q,y)]} (retW r_n_DivMod (divR A D)):=by
 intro q y hq
 subst hq
 have hN:=h.N32
 have hY:rst X V 0=A%D*2^N:=by rw[rst_zero,h.r]
 have hDlt:D<B^(n+2):=digs_len_le.1 (Nat.le_of_eq hD)
 have hD0:0<D:=by
  rcases Nat.eq_zero_or_pos D with h0 | h0
  ·subst h0; simp[digs_zero] at hD
  ·exact h0
 have hRlt:A%D<B^(n+2):=Nat.lt_trans (Nat.mod_lt _ hD0) hDlt
 have hQlt:A/D<B^(m+1):=by
  rw[← h.q]
  apply Nat.div_lt_of_lt_mul
  have h1:=Nat.lt_mul_div_succ X (pw_pos (m+1))
  have h2:B^(m+1)*(X/B^(m+1)+1)≤B^(m+1)*V:=Nat.mul_le_mul_left _ h.top
  rw[Nat.mul_comm V]
  exact Nat.lt_of_lt_of_le h1 h2
 have w1:((n:Int)+2).toNat=n+2:=by omega
 have kq:=trim_sound (m:=.plain) (a:=digsN (m+1) (A/D)) ok_digsN (by rw[digsN_len]; omega)
 have kr:=trim_sound (m:=.plain) (a:=digsN (n+2) (A%D)) ok_digsN (by rw[digsN_len]; omega)
 rw[val_digsN_lt hQlt] at kq
 rw[val_digsN_lt hRlt] at kr
 have lp:∀ s,impE s (stDv2 (A/D) (A%D) n m N (A%D*2^N) 0)→awp Try.prog (.loop c_n_DivMod_l2) s (blockC 4 (seqC Try.prog c_n_DivMod_k3 (retW r_n_DivMod (divR A D)))):=by
  intro s hs
  refine awp_forW (stDv2 (A/D) (A%D) n m N (A%D*2^N)) (fun _=>True) (n+2) hs trivial (fun i hi _=>?_) (fun _=>?_)
  ·obtain ⟨a,c,d,h1,h2,h3,h4,h5,h6,h7,h8⟩:=div_digit (R:=A%D) (i:=i) hN
   have hL:=digsN_len (n:=n+2+m+1) (x:=A%D*2^N)
   have i1:i<(digsN (n+2+m+1) (A%D*2^N)).length:=by omega
   have i2:i+1<(digsN (n+2+m+1) (A%D*2^N)).length:=by omega
   have g1:=digsN_get i1
   have g2:=digsN_get i2
   have hset:=fillN_set (S:=A%D) hi
   rw[h3] at hset
   have hfl:=fillN_len (n:=n+2) (k:=i) (S:=A%D) (by omega)
   have i3:i<(fillN (n+2) i (A%D)).length:=by omega
   have hor:=or32' h5 h6 h4 h7
   have hmin:min N IntKind.u32.bits=N:=by
    have:IntKind.u32.bits=32:=rfl
    omega
   have hmin2:min (32-N) IntKind.u32.bits=32-N:=by
    have:IntKind.u32.bits=32:=rfl
    omega
   have i4:i+1<n+2+m+1:=by omega
   have s1:∀ y0 a:Nat,y0/2^N=a→(y0:Int).fdiv (2^N)=(a:Int):=fun y0 a h=>by
    rw[show (2:Int)^N=((2^N:Nat):Int) by simp,← Int.ofNat_fdiv,h]
   have s2:∀ y1 c:Nat,y1*2^(32-N)%B=c→IntKind.u32.wrap ((y1:Int)*2^(32-N))=(c:Int):=fun y1 c h=>by
    rw[show (y1:Int)*2^(32-N)=((y1*2^(32-N):Nat):Int) by simp,w32,h]
   have s1':=s1 _ _ h1
   have s2':=s2 _ _ h2
   clear s1 s2 h1 h2
   rw[← g1] at s1'
   rw[← g2] at s2'
   clear g1 g2
   generalize A%D*2^N=Y at *
   generalize A%D=R at *
   generalize hy0:(digsN (n+2+m+1) Y)[i]=y0 at *
   generalize hy1:(digsN (n+2+m+1) Y)[i+1]=y1 at *
   have hset':(drows (fillN (n+2) i R)).set i [uv d]=drows (fillN (n+2) (i+1) R):=by rw[drows_set,hset]
   have e:(i:Int)<(n:Int)+2:=by omega
   have e2:(i:Int)<(n:Int)+2+m+1:=by omega
   have e3:(i:Int)+1<(n:Int)+2+m+1:=by omega
   have e4:((i:Int)+1).toNat=i+1:=by omega
   have e5:(0:Int)≤(i:Int)+1:=by omega
   have w2:IntKind.i64.wrap ((i:Int)+1)=(i:Int)+1:=by rw[wrap64]<;>omega
   have w3:IntKind.u64.wrap ((32:Int)-N)=32-N:=w64' (by omega) (by omega)
   have w4:((32:Int)-N).toNat=32-N:=by omega
   have w5:¬ ((32:Int)-N<0):=by omega
   rcases Nat.eq_zero_or_pos N with hN0 | hN0
   ·have ha:=h8 hN0
    have hN1:¬ 0<N:=by omega
    subst ha
    simp[c_n_DivMod_l2,stDv2,e,e2,hy0,i1,i3,eBin_shr,hmin,s1',hN1,splice,hset',w2]
   ·simp[c_n_DivMod_l2,stDv2,e,e2,e3,e4,e5,hy0,hy1,i1,i2,i3,eBin_shr,eBin_shl,hmin,hmin2,s1',s2',hN0,splice,hset',w2,w3,w4,w5,hor]
  ·have l1:∀ k z,k≤(digsN k z).length:=fun k z=>Nat.le_of_eq digsN_len.symm
   have l2:∀ k z,List.take k (drows (digsN k z))=drows (digsN k z):=fun k z=>List.take_of_length_le (by rw[List.length_map,digsN_len]; exact Nat.le_refl _)
   simp[c_n_DivMod_l2,stDv2,fillN_all,c_n_DivMod_k3,eFreeze,frzE,l1,l2]
   refine eCall_i kq (by simp) (by simp) ?_
   simp
   refine eCall_i kr (by simp) (by simp) ?_
   simp[r_n_DivMod]
   exact AV.imp.refl
 simp[c_n_DivMod_k4,stDv1,smallQ_all,hY,eMk,w1]
 refine ⟨by omega,by omega,by omega,?_⟩
 refine lp _ ?_
 simp[stDv2,fillN_zero,subE]
theorem divMod_sound {m1 m2:Am.Mode} {a c:List Nat} (ha:ok a) (hc:ok c) (hna:a.length<137438953472) (hnc:c.length<137438953472) (f1:stm m1=m1) (f2:stm m2=m2) (hD:val c≠0) :
  SoundCall Try.prog F_n_DivMod [nl m1 a,nl m2 c] (divR (val a) (val c)):=by
 refine div_start ha hc (by omega) (by omega) f1 f2 hD fun n m h1 h2 hle=>?_
 have hla:=digs_digs_norm ha
 have hn:n+m<274877906944:=by omega
 have h:=divOk h2 h1
 exact div_bits (_m:=m) h1 (by omega) fun q y hq=>by
  subst hq
  exact div_mid h2 h1 hn h (div_loop hn h (div_end hn h1 h))
end Go.Proofs.Ytbmhibiljjnfiaa

namespace Go.Proofs.Ytbmhibiljjnfiaa
open Go Go.Am Go.Dig
def eu:Nat→Nat→Nat→Nat × Nat
 | a,b,0=>(a,b)
 | a,b,k+1=>eu b (a%b) k
theorem eu_succ:∀ (k a b:Nat),eu a b (k+1)=((eu a b k).2,(eu a b k).1%(eu a b k).2)
 | 0,_,_=>rfl
 | k+1,a,b=>by rw[eu,eu_succ k b (a%b)]; rfl
theorem eu_end:∀ (b a:Nat),∃ N,(∀ k,k<N→(eu a b k).2≠0)∧eu a b N=(Nat.gcd a b,0):=by
 intro b
 induction b using Nat.strongRecOn with
 | ind b ih =>
  intro a
  rcases Nat.eq_zero_or_pos b with h | h
  ·subst h
   exact ⟨0,fun k hk=>absurd hk (Nat.not_lt_zero _),by rw[eu,Nat.gcd_zero_right]⟩
  ·obtain ⟨N,h1,h2⟩:=ih (a%b) (Nat.mod_lt _ h) b
   refine ⟨N+1,fun k hk=>?_,?_⟩
   ·match k with
    | 0=>exact Nat.ne_of_gt h
    | k+1=>exact h1 k (by omega)
   ·rw[eu,h2,Nat.gcd_comm b,← Nat.gcd_rec,Nat.gcd_comm]
theorem eu_lt {M:Nat}:∀ (k a b:Nat),a<M→b<M→(eu a b k).1<M∧(eu a b k).2<M
 | 0,_,_,h1,h2=>⟨h1,h2⟩
 | k+1,a,b,h1,h2=>eu_lt k b (a%b) h2 (Nat.lt_of_le_of_lt (Nat.mod_le _ _) h1)
def stG (p:Nat × Nat):St:={env:=[(0,nD p.1),(1,nD p.2)],sto:=[]}
theorem gcd_sound {m1 m2:Am.Mode} {a c:List Nat} (ha:ok a) (hc:ok c) (hna:a.length<137438953472) (hnc:c.length<137438953472) (f1:stm m1=m1) (f2:stm m2=m2) :
  SoundCall Try.prog F_n_GCD [nl m1 a,nl m2 c] (nD (Nat.gcd (val a) (val c))):=by
 have k1:=add_sound (m1:=m1) (m2:=.plain) (b:=[]) ha ok_nil (by omega) (by simp)
 have k2:=add_sound (m1:=m2) (m2:=.plain) (b:=[]) hc ok_nil (by omega) (by simp)
 obtain ⟨N,h1,h2⟩:=eu_end (val c) (val a)
 obtain ⟨L,hL⟩:∃ L,L=137438953471:=⟨_,rfl⟩
 have hL1:val a<B^L:=val_lt_of ha (by omega)
 have hL2:val c<B^L:=val_lt_of hc (by omega)
 have hb:=fun k=>eu_lt k (val a) (val c) hL1 hL2
 generalize hM:B^L=M at *
 have hlen:∀ x,x<M→(digs x).length<137438953472:=fun x hx=>by
  rw[← hM] at hx
  exact Nat.lt_of_le_of_lt (digs_len_le.2 hx) (by omega)
 clear hM
 have v0:val []=0:=rfl
 rw[v0,Nat.add_zero] at k1 k2
 generalize val a=A at *
 generalize val c=D at *
 refine sound' t_n_GCD (by simp) ?_
 simp[c_n_GCD]
 refine eCall_i (imp_arg2 k1 (AV.imp_nil (sz:=0) rfl)) (by simp[f1]) (by simp) ?_
 simp
 refine eCall_i (imp_arg2 k2 (AV.imp_nil (sz:=0) rfl)) (by simp[f2]) (by simp) ?_
 simp
 refine awp_forW (fun k=>stG (eu A D k)) (fun _=>True) N (by simp[stG,eu]) trivial (fun k hk _=>?_) (fun _=>?_)
 ·have hne:=h1 k hk
  obtain ⟨b1,b2⟩:=hb k
  have b1':=hlen _ b1
  have b2':=hlen _ b2
  have hs:=eu_succ k A D
  obtain ⟨x,hx⟩:∃ x,(eu A D k).1=x:=⟨_,rfl⟩
  obtain ⟨y,hy⟩:∃ y,(eu A D k).2=y:=⟨_,rfl⟩
  rw[hx,hy] at hs
  rw[hx] at b1'
  rw[hy] at b2' hne
  have kd:=divMod_sound (m1:=.plain) (m2:=.plain) (ok_digs x) (ok_digs y) b1' b2' rfl rfl (by rw[val_digs]; exact hne)
  rw[val_digs,val_digs] at kd
  have hl0:0<(digs y).length:=by
   rcases Nat.eq_zero_or_pos (digs y).length with h | h
   ·rw[List.length_eq_zero_iff,digs_eq_nil] at h; exact absurd h hne
   ·exact h
  simp[c_n_GCD_l0,stG,hl0,hx,hy]
  refine eCall_i kd (by simp) (by simp) ?_
  simp[hs]
 ·simp only[h2]
  simp[c_n_GCD_l0,c_n_GCD_k1,r_n_GCD,stG,digs_zero]
end Go.Proofs.Ytbmhibiljjnfiaa

namespace Go.Proofs.Ytbmhibiljjnfiaa
open Go Go.Am Go.Dig
def fracO (neg:Bool) (N D:Nat):AV:=.agg [bv (neg&&decide (N≠0)),nD (N/Nat.gcd N D),nD (D/Nat.gcd N D)]
theorem gcd_fact {N D:Nat} (hD:D≠0):Nat.gcd N D≠0∧(N/Nat.gcd N D=0↔N=0)∧Nat.gcd N D≤D:=by
 have hg:0<Nat.gcd N D:=Nat.gcd_pos_of_pos_right _ (by omega)
 refine ⟨by omega,?_,Nat.gcd_le_right _ (by omega)⟩
 constructor
 ·intro h
  have:=Nat.div_mul_cancel (Nat.gcd_dvd_left N D)
  rw[h,Nat.zero_mul] at this
  exact this.symm
 ·intro h
  rw[h,Nat.zero_div]
theorem make_sound {neg:Bool} {N D:Nat} (hN:(digs N).length<68719476736) (hD:(digs D).length<68719476736) (h0:D≠0) :
  SoundCall Try.prog F_f_Make [bv neg,nD N,nD D] (.tuple [fracO neg N D,iv 0]):=by
 obtain ⟨g0,g1,g2⟩:=gcd_fact (N:=N) h0
 have kg:=gcd_sound (m1:=.plain) (m2:=.plain) (ok_digs N) (ok_digs D) (by omega) (by omega) rfl rfl
 rw[val_digs,val_digs] at kg
 have hgl:(digs (Nat.gcd N D)).length<68719476736:=by
  have h1:D<B^(digs D).length:=digs_len_le.1 (Nat.le_refl _)
  exact Nat.lt_of_le_of_lt (digs_len_le.2 (Nat.lt_of_le_of_lt g2 h1)) hD
 have hl0:¬ (digs D).length=0:=by rw[List.length_eq_zero_iff,digs_eq_nil]; exact h0
 have hl1:¬ digs D=[]:=by rw[digs_eq_nil]; exact h0
 unfold fracO
 have hz:(digs (N/Nat.gcd N D)).length=0↔N=0:=by rw[List.length_eq_zero_iff,digs_eq_nil]; exact g1
 generalize Nat.gcd N D=g at *
 have kn:=divMod_sound (m1:=.plain) (m2:=.plain) (ok_digs N) (ok_digs g) (by omega) (by omega) rfl rfl (by rw[val_digs]; exact g0)
 have kd:=divMod_sound (m1:=.plain) (m2:=.plain) (ok_digs D) (ok_digs g) (by omega) (by omega) rfl rfl (by rw[val_digs]; exact g0)
 simp only[val_digs] at kn kd
 refine sound' t_f_Make (by simp) ?_
 simp[c_f_Make,hl0]
 refine eCall_i kg (by simp) (by simp) ?_
 simp
 refine eCall_i kn (by simp) (by simp) ?_
 simp
 refine eCall_i kd (by simp) (by simp) ?_
 cases neg
 ·simp[r_f_Make]
 ·by_cases hN0:N=0
  ·have:=hz.2 hN0
   simp[r_f_Make,hN0,digs_zero]
  ·have:0<(digs (N/g)).length:=by omega
   simp[r_f_Make,this,hN0]
theorem made_sound {neg:Bool} {N D:Nat} (hN:(digs N).length<68719476736) (hD:(digs D).length<68719476736) (h0:D≠0) :
  SoundCall Try.prog F_f_made [bv neg,nD N,nD D] (fracO neg N D):=by
 have k:=make_sound (neg:=neg) hN hD h0
 unfold fracO at *
 generalize N/Nat.gcd N D=n at *
 generalize D/Nat.gcd N D=d at *
 refine sound' t_f_made (by simp) ?_
 simp[c_f_made]
 refine eCall_i k (by simp) (by simp) ?_
 simp[r_f_made]
end Go.Proofs.Ytbmhibiljjnfiaa

namespace Go.Proofs.Ytbmhibiljjnfiaa
open Go Go.Am Go.Dig
theorem neg_pure {P:Program} {k:IntKind} {a:Int}:semPure P (Op.unary .neg (Value.int k a))=some (Value.int k (k.wrap (-a))):=by
 simp[semPure,Op.unary,Op.intArith,pure]
theorem ofV_int {k:IntKind} {a:Int}:ofV (Value.int k a)=.val (.int k a):=rfl
theorem digs_small {x:Nat} (h:x<18446744073709551616):(digs x).length≤2:=digs_len_le.2 (by
 have:B^2=18446744073709551616:=by decide
 omega)
theorem size_fraction {n:Int} (h1:-9223372036854775808≤n) (h2:n<9223372036854775808):SoundCall Try.prog F_f_size [iv n] (nD n.natAbs):=by
 obtain ⟨x,hx⟩:∃ x,n.natAbs=x:=⟨_,rfl⟩
 have hxl:x<18446744073709551616:=by omega
 have k:=fromUint_sound (x:=x) hxl
 rw[hx]
 refine sound' t_f_size (by simp) ?_
 by_cases h:n<0
 ·have w1:IntKind.i64.wrap (n+1)=n+1:=by rw[wrap64]<;>omega
  have w2:IntKind.i64.wrap (-(n+1))=(x:Int)-1:=by rw[wrap64]<;>omega
  have w2':IntKind.i64.wrap (-1+-n)=(x:Int)-1:=by rw[wrap64]<;>omega
  have w3:IntKind.u64.wrap ((x:Int)-1)=(x:Int)-1:=by rw[w64']<;>omega
  have w4:IntKind.u64.wrap (x:Int)=x:=w64 hxl
  simp[c_f_size,h,w1,neg_pure,w2,w3,w4]
  refine eCall_i k (by simp) (by simp) ?_
  simp[r_f_size]
 ·have w4:IntKind.u64.wrap n=(x:Int):=by rw[w64']<;>omega
  simp[c_f_size,h,w4]
  refine eCall_i k (by simp) (by simp) ?_
  simp[r_f_size]
end Go.Proofs.Ytbmhibiljjnfiaa

namespace Go.Proofs.Ytbmhibiljjnfiaa
open Go Go.Am Go.Dig
theorem fromInt_sound {n:Int} (h1:-9223372036854775808≤n) (h2:n<9223372036854775808):SoundCall Try.prog F_f_FromInt [iv n] (fracO (decide (n<0)) n.natAbs 1):=by
 have k1:=size_fraction h1 h2
 have k2:=fromUint_sound (x:=1) (by omega)
 have l1:=digs_small (x:=n.natAbs) (by omega)
 have l2:=digs_small (x:=1) (by omega)
 have k3:=made_sound (neg:=decide (n<0)) (N:=n.natAbs) (D:=1) (by omega) (by omega) (by omega)
 unfold fracO at *
 generalize n.natAbs/Nat.gcd n.natAbs 1=p at *
 generalize 1/Nat.gcd n.natAbs 1=q at *
 refine sound' t_f_FromInt (by simp) ?_
 simp[c_f_FromInt]
 refine eCall_i k1 (by simp) (by simp) ?_
 simp
 refine eCall_i k2 (by simp) (by simp) ?_
 simp
 refine eCall_i k3 (by simp) (by simp) ?_
 simp[r_f_FromInt]
end Go.Proofs.Ytbmhibiljjnfiaa

namespace Go.Proofs.Ytbmhibiljjnfiaa
open Go Go.Am Go.Dig
abbrev frA (s:Bool) (N D:Nat):AV:=.agg [bv s,nD N,nD D]
abbrev frac (q:Rat):AV:=frA (decide (q.num<0)) q.num.natAbs q.den
def sg (s:Bool) (N:Nat):Int:=if s then -(N:Int) else N
theorem fracO_rat {s:Bool} {N D:Nat} (h:D≠0):fracO s N D=frac (mkRat (sg s N) D):=by
 have hab:(sg s N).natAbs=N:=by unfold sg; split<;>omega
 have hm:mkRat (sg s N) D=Rat.normalize (sg s N) D h:=by simp[mkRat,h]
 rw[hm,Rat.normalize_eq]
 unfold fracO frac
 simp only[hab]
 have hg:0<Nat.gcd N D:=Nat.gcd_pos_of_pos_right _ (by omega)
 obtain ⟨c,hc⟩:=Nat.gcd_dvd_left N D
 generalize Nat.gcd N D=g at *
 subst hc
 have e1:(sg s (g*c))/(g:Int)=sg s c:=by
  unfold sg
  split
  ·rw[show -((g*c:Nat):Int)=(g:Int)*(-(c:Int)) by rw[Int.natCast_mul,Int.mul_neg]]
   exact Int.mul_ediv_cancel_left _ (by omega)
  ·rw[Int.natCast_mul]
   exact Int.mul_ediv_cancel_left _ (by omega)
 have e2:g*c/g=c:=Nat.mul_div_cancel_left _ hg
 rw[e1,e2]
 have e3:(sg s c).natAbs=c:=by unfold sg; split<;>omega
 have e4:(s&&decide (g*c≠0))=decide (sg s c<0):=by
  have hg0:¬ g=0:=by omega
  unfold sg
  rcases Nat.eq_zero_or_pos c with h0 | h0
  ·subst h0; cases s<;>simp
  ·have hc0:¬ c=0:=by omega
   have hcl:0<c:=h0
   have hng:¬ (c:Int)<0:=by omega
   have hneg:-(c:Int)<0:=by omega
   have hgc:¬ g*c=0:=Nat.mul_ne_zero hg0 hc0
   cases s<;>simp[hng,hgc,hcl]
 rw[e3,e4]
theorem sg_num (n:Int):sg (decide (n<0)) n.natAbs=n:=by
 unfold sg
 by_cases h:n<0
 ·simp[h]; omega
 ·simp[h]; omega
theorem int_rat (n:Int):fracO (decide (n<0)) n.natAbs 1=frac (n:Rat):=by
 rw[fracO_rat (by decide),sg_num]
 congr 1
 rw[← Rat.mkRat_self (n:Rat)]; rfl
theorem fromInt_frac {n:Int} (h1:-9223372036854775808≤n) (h2:n<9223372036854775808):SoundCall Try.prog F_f_FromInt [iv n] (frac n):=by
 rw[← int_rat]; exact fromInt_sound h1 h2
theorem ex_eq (x:AV):∃ y:AV,y=x:=⟨_,rfl⟩
noncomputable def f0 (q:Rat):AV:=Classical.choose (ex_eq (bv (decide (q.num<0))))
noncomputable def f1 (q:Rat):AV:=Classical.choose (ex_eq (nD q.num.natAbs))
noncomputable def f2 (q:Rat):AV:=Classical.choose (ex_eq (nD q.den))
theorem f0_eq (q:Rat):f0 q=bv (decide (q.num<0)):=Classical.choose_spec (ex_eq _)
theorem f1_eq (q:Rat):f1 q=nD q.num.natAbs:=Classical.choose_spec (ex_eq _)
theorem f2_eq (q:Rat):f2 q=nD q.den:=Classical.choose_spec (ex_eq _)
noncomputable def fr (q:Rat):List AV:=[f0 q,f1 q,f2 q]
@[simp] theorem fr_fold (q:Rat):[f0 q,f1 q,f2 q]=fr q:=rfl
theorem fr_eq (q:Rat):fr q=[bv (decide (q.num<0)),nD q.num.natAbs,nD q.den]:=by unfold fr; rw[f0_eq,f1_eq,f2_eq]
noncomputable abbrev fq (q:Rat):AV:=.agg (fr q)
theorem frac_fq (q:Rat):frac q=fq q:=by unfold fq; rw[fr_eq]
@[simp] theorem f0_rf (q:Rat):rf (f0 q)=true:=by rw[f0_eq]; rfl
@[simp] theorem f0_strip (q:Rat):strip (f0 q)=f0 q:=by rw[f0_eq]; rfl
@[simp] theorem f0_dg (q:Rat) (l:Nat):dg l (f0 q)=f0 q:=by rw[f0_eq]; simp
@[simp] theorem f0_frz (q:Rat) (l:Nat) (e:Entry):frz l e (f0 q)=f0 q:=by rw[f0_eq]; rfl
@[simp] theorem f0_low (q:Rat) (M:Nat):Am.low M (f0 q)=true:=by rw[f0_eq]; rfl
@[simp] theorem f0_refs (q:Rat) (k:Nat):refsTo k (f0 q)=false:=by rw[f0_eq]; rfl
@[simp] theorem f0_tok (q:Rat) (k:Nat):tokB k (f0 q)=false:=by rw[f0_eq]; rfl
@[simp] theorem f1_rf (q:Rat):rf (f1 q)=true:=by rw[f1_eq]; rfl
@[simp] theorem f1_strip (q:Rat):strip (f1 q)=f1 q:=by rw[f1_eq]; rfl
@[simp] theorem f1_dg (q:Rat) (l:Nat):dg l (f1 q)=f1 q:=by rw[f1_eq]; simp
@[simp] theorem f1_frz (q:Rat) (l:Nat) (e:Entry):frz l e (f1 q)=f1 q:=by rw[f1_eq]; rfl
@[simp] theorem f1_low (q:Rat) (M:Nat):Am.low M (f1 q)=true:=by rw[f1_eq]; rfl
@[simp] theorem f1_refs (q:Rat) (k:Nat):refsTo k (f1 q)=false:=by rw[f1_eq]; rfl
@[simp] theorem f1_tok (q:Rat) (k:Nat):tokB k (f1 q)=false:=by rw[f1_eq]; rfl
@[simp] theorem f2_rf (q:Rat):rf (f2 q)=true:=by rw[f2_eq]; rfl
@[simp] theorem f2_strip (q:Rat):strip (f2 q)=f2 q:=by rw[f2_eq]; rfl
@[simp] theorem f2_dg (q:Rat) (l:Nat):dg l (f2 q)=f2 q:=by rw[f2_eq]; simp
@[simp] theorem f2_frz (q:Rat) (l:Nat) (e:Entry):frz l e (f2 q)=f2 q:=by rw[f2_eq]; rfl
@[simp] theorem f2_low (q:Rat) (M:Nat):Am.low M (f2 q)=true:=by rw[f2_eq]; rfl
@[simp] theorem f2_refs (q:Rat) (k:Nat):refsTo k (f2 q)=false:=by rw[f2_eq]; rfl
@[simp] theorem f2_tok (q:Rat) (k:Nat):tokB k (f2 q)=false:=by rw[f2_eq]; rfl
@[simp] theorem fr_len {q:Rat}:(fr q).length=3:=by simp[fr_eq]
@[simp] theorem fr_rf {q:Rat}:(fr q).all rf=true:=by rw[fr_eq]; simp
@[simp] theorem fr_strip {q:Rat}:(fr q).map strip=fr q:=by rw[fr_eq]; simp
@[simp] theorem fr_dg {q:Rat} {l:Nat}:(fr q).map (dg l)=fr q:=by rw[fr_eq]; simp
@[simp] theorem fr_frz {q:Rat} {l:Nat} {e:Entry}:(fr q).map (frz l e)=fr q:=by rw[fr_eq]; rfl
@[simp] theorem fr_low {q:Rat} {M:Nat}:(fr q).all (Am.low M)=true:=by rw[fr_eq]; rfl
@[simp] theorem fr_ref {q:Rat} {k:Nat}:anyRef k (fr q)=false:=by rw[fr_eq]; simp
@[simp] theorem fr_tok {q:Rat} {k:Nat}:(fr q).any (tokB k)=false:=by rw[fr_eq]; rfl
@[simp] theorem goLoad_fr {q:Rat}:goLoad (fr q) 0 (some 3)=some (fq q):=by
 rw[goLoad_all fr_len fr_rf,fr_strip]
@[simp] theorem splice_fr {q:Rat} {a b c:AV}:splice [a,b,c] 0 (fr q)=fr q:=by rw[fr_eq]; simp[splice]
@[simp] theorem splice_frr {p q:Rat}:splice (fr p) 0 (fr q)=fr q:=by simp[splice]
@[simp] theorem splice_tab {q:Rat} {a b c d e x y z g h:AV}:splice [a,b,c,d,e,x,y,z,g,h] 5 (fr q)=[a,b,c,d,e,f0 q,f1 q,f2 q,g,h]:=by unfold fr; simp[splice,-fr_fold]
@[simp] theorem fr_drop {q:Rat}:(fr q).drop 3=[]:=by rw[fr_eq]; rfl
theorem fromInt_q {n:Int} (h1:-9223372036854775808≤n) (h2:n<9223372036854775808):SoundCall Try.prog F_f_FromInt [iv n] (fq n):=by rw[← frac_fq]; exact fromInt_frac h1 h2
end Go.Proofs.Ytbmhibiljjnfiaa
