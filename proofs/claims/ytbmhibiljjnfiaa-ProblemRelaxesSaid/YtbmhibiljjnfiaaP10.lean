/- What the proof rests on, part 10: LA LB QT LD LE LF. -/
import Derived.Test.YtbmhibiljjnfiaaP9
set_option maxRecDepth 100000
set_option maxHeartbeats 4000000
namespace Go.Proofs.Ytbmhibiljjnfiaa
open Go Go.Am Go.Pb
def saleA:AV:=.agg [.list 5 .full [[.val (.string ⟨#[97]⟩),iv 2,iv 3,iv 1,iv 0]],.list 4 .full [[.val (.string ⟨#[120]⟩),iv 0,iv 0,iv 0]],nilL,nilL]
theorem sale_s:SoundCall Try.prog F_law20_sale [] saleA:=.of_run tab_ok 1000 100 (by kernel_rfl)
theorem build_s:SoundCall Try.prog F_problem_Build [saleA,.list 8 .full [[iv 0,iv 1,iv 0,iv 0,iv 0,iv 0,iv 0,iv 5],[iv 0,iv 2,iv 0,iv 0,iv 0,iv 0,iv 0,iv 6]]] (.tuple [.agg [iv 2,iv 0,iv 0,iv 0,iv 0,iv 0,iv 2,iv 0,iv 0,iv 0,iv 0,iv 0,iv 0,iv 0,iv 0,iv 0,iv 0,iv 0,.list 1 .plain [[iv 0]],.list 8 .plain [[iv 0,iv 1,iv 0,iv 0,iv 0,iv 0,iv 0,iv 2]]],.list 1 .plain [[iv 0]],iv 0]):=.of_run tab_ok 1000 100 (by kernel_rfl)
def w0:List Int→Nat→Int:=fun l k=>l.getD k 0
def P3:Pb:=⟨w0 [1,1],w0 [1,1],w0 [],[0,0,0],[⟨0,w0 [1,1],10⟩,⟨1,w0 [1],6⟩,⟨2,w0 [0,1],6⟩]⟩
theorem three_0:SoundCall Try.prog F_law20_three [] (.agg [iv 1,iv 1,iv 0,iv 0,iv 0,iv 0,iv 1,iv 1,iv 0,iv 0,iv 0,iv 0,iv 0,iv 0,iv 0,iv 0,iv 0,iv 0,.list 1 .full [[iv 0],[iv 0],[iv 0]],.list 8 .full [[iv 0,iv 1,iv 1,iv 0,iv 0,iv 0,iv 0,iv 10],[iv 1,iv 1,iv 0,iv 0,iv 0,iv 0,iv 0,iv 6],[iv 2,iv 0,iv 1,iv 0,iv 0,iv 0,iv 0,iv 6]]]):=.of_run tab_ok 1000 100 (by kernel_rfl)
theorem three_s:SoundCall Try.prog F_law20_three [] (.agg (pbC P3)):=by
 refine sound_imp three_0 ?_
 have e:ofR P3.of=[[iv 0,iv 1,iv 1,iv 0,iv 0,iv 0,iv 0,iv 10],[iv 1,iv 1,iv 0,iv 0,iv 0,iv 0,iv 0,iv 6],[iv 2,iv 0,iv 1,iv 0,iv 0,iv 0,iv 0,iv 6]]:=by
  unfold ofR P3
  simp only[List.map_cons,List.map_nil,oC_eq]
  rfl
 simp only[pbX_eq]
 refine imp_agg ?_
 have h2:AV.imp (.list 8 .full [[iv 0,iv 1,iv 1,iv 0,iv 0,iv 0,iv 0,iv 10],[iv 1,iv 1,iv 0,iv 0,iv 0,iv 0,iv 0,iv 6],[iv 2,iv 0,iv 1,iv 0,iv 0,iv 0,iv 0,iv 6]]) (ofA P3.of):=by
  unfold ofA
  rw[e]
  exact imp_full
 have h1:AV.imp (.list 1 .full [[iv 0],[iv 0],[iv 0]]) (clA P3.cl):=imp_full
 repeat' first | exact imps_cons h1 (imps_cons h2 imps_nil) | refine imps_cons AV.imp.refl ?_
theorem P3_chk:P3.chk=0:=by decide +kernel
theorem P3_n:P3.cl.length≤1000:=by decide
theorem P3_k:P3.of.length≤1000000:=by decide
theorem ex_chk:SoundCall Try.prog F_problem_Check [.agg (pbC P3)] (iv 0):=by have h:=check_s P3_n P3_k; rwa [P3_chk] at h
theorem ex_f1:SoundCall Try.prog F_problem_Feasible [.agg (pbC P3),.list 1 .full [[iv 0]]] (iv 0):=by
 have h:=feasible_s (ch:=[0]) P3_n P3_k (by decide)
 rw[show P3.feaE [0]=0 by decide +kernel] at h
 exact imp_q2 h imp_full
theorem ex_f2:SoundCall Try.prog F_problem_Feasible [.agg (pbC P3),.list 1 .full [[iv 1],[iv 2]]] (iv 0):=by
 have h:=feasible_s (ch:=[1,2]) P3_n P3_k (by decide)
 rw[show P3.feaE [1,2]=0 by decide +kernel] at h
 exact imp_q2 h imp_full
theorem ex_f3:SoundCall Try.prog F_problem_Feasible [.agg (pbC P3),.list 1 .full [[iv 0],[iv 1]]] (iv 14):=by
 have h:=feasible_s (ch:=[0,1]) P3_n P3_k (by decide)
 rw[show P3.feaE [0,1]=14 by decide +kernel] at h
 exact imp_q2 h imp_full
theorem ex_v:SoundCall Try.prog F_problem_Value [.agg (pbC P3),.list 1 .full [[iv 1],[iv 2]]] (iv 12):=by
 have h:=value_s (ch:=[1,2]) P3_n P3_k (by decide)
 rw[show P3.valE [1,2]=12 by decide +kernel] at h
 exact imp_q2 h imp_full
theorem ex_rows:SoundCall Try.prog F_problem_Rows [.agg (pbC P3)] (iv 15):=by
 have h:=rows2_s P3_n P3_k
 rwa [show rowsE P3=15 by decide +kernel] at h
theorem ex_row:SoundCall Try.prog F_problem_Row [.agg (pbC P3),iv 3] (.tuple [clA [1,1,0],iv 1]):=by
 have h:=row_s (r:=3) P3_n P3_k
 have e:rowR P3 3=.tuple [clA [1,1,0],iv 1]:=by
  have hr:rowsE P3=15:=by decide +kernel
  unfold rowR
  rw[hr,if_pos (by decide),if_pos (by decide),show rowL P3 (Int.toNat 3)=[1,1,0] by decide +kernel,show P3.bnd (Int.toNat 3)=1 by decide +kernel]
 rwa [e] at h
theorem ex_relax:SoundCall Try.prog F_problem_Relax [.agg (pbC P3),.list 1 .full [[iv 0],[iv 1],[iv 0]]] (.tuple [relA P3 [0,1,0],clA [0,2],iv 0]):=by
 have h:=relax_s (fx:=[0,1,0]) P3_n P3_k (by decide)
 rw[if_pos (by decide +kernel),show ints (freeL [0,1,0])=[0,2] by decide +kernel] at h
 exact imp_q2 h imp_full
theorem ex_wo:SoundCall Try.prog F_problem_Without [.agg (pbC P3),iv 2] (.agg (pbC (woE P3 2))):=without_s (by decide) (by decide) P3_n P3_k
theorem ex_wol:(woE P3 2).of.length=2:=by decide +kernel
theorem ex_c1:SoundCall Try.prog F_ref20_Compare [clA [1,1,0],.list 1 .full [[iv 1],[iv 1],[iv 0]]] (iv 0):=imp_q2 (rcmp_s (a:=[1,1,0]) (b:=[1,1,0]) (by decide) (by decide)) imp_full
theorem ex_c2:SoundCall Try.prog F_ref20_Compare [clA [0],.list 1 .full [[iv 0]]] (iv 0):=imp_q2 (rcmp_s (a:=[0]) (b:=[0]) (by decide) (by decide)) imp_full
theorem ex_c3:SoundCall Try.prog F_ref20_Compare [clA [0,2],.list 1 .full [[iv 0],[iv 2]]] (iv 0):=imp_q2 (rcmp_s (a:=[0,2]) (b:=[0,2]) (by decide) (by decide)) imp_full
theorem ex_c4:SoundCall Try.prog F_problem_Compare [.list 1 .full [[iv 0],[iv 3]],.list 1 .full [[iv 1]]] (iv (-1)) :=
 imp_args (pcmp_s (a:=[0,3]) (b:=[1]) (by decide) (by decide)) (imps2 imp_full imp_full)
end Go.Proofs.Ytbmhibiljjnfiaa

namespace Go.Proofs.Ytbmhibiljjnfiaa
open Go Go.Am Go.Pb
theorem awake_s:SoundCall Try.prog F_law20_awake [] (bv true):=by
 refine sound' t_law20_awake (by simp) ?_
 simp[c_law20_awake]
 refine eCall_i (xs:=[]) (args:=[]) three_s rfl (.inl rfl) ?_
 simp[pbX_splice]
 refine eCall_i (xs:=[]) (args:=[]) sale_s rfl (.inl rfl) ?_
 have hb:=build_s
 unfold saleA at hb
 simp[saleA,splice]
 refine eCall_i hb (by simp) (by simp) ?_
 simp
 refine eCall_i ex_row (by simp) (by simp) ?_
 simp
 refine eCall_i ex_relax (by simp) (by simp) ?_
 simp[relA]
 refine eCall_i ex_chk (by simp) (by simp) ?_
 simp
 refine eCall_i ex_f1 (by simp) (by simp) ?_
 simp
 refine eCall_i ex_f2 (by simp) (by simp) ?_
 simp
 refine eCall_i ex_f3 (by simp) (by simp) ?_
 simp
 refine eCall_i ex_v (by simp) (by simp) ?_
 simp
 refine eCall_i ex_rows (by simp) (by simp) ?_
 simp
 refine eCall_i ex_c1 (by simp) (by simp) ?_
 simp
 refine eCall_i (show SoundCall Try.prog F_ref20_Compare [.list 1 .plain [[iv 0]],.list 1 .full [[iv 0]]] (iv 0) from ex_c2) (by simp) (by simp) ?_
 simp
 refine eCall_i ex_c3 (by simp) (by simp) ?_
 have hr:P3.rows=15:=by decide
 simp[hr]
 refine eCall_i ex_c4 (by simp) (by simp) ?_
 simp
 refine eCall_i ex_wo (by simp) (by simp) ?_
 simp[ex_wol,partA,r_law20_awake]
end Go.Proofs.Ytbmhibiljjnfiaa

namespace Go.Proofs.Ytbmhibiljjnfiaa
open Go Go.Am Go.Pb
abbrev tyB:Ty:=.arr 6 (.int .i64)
abbrev tyOf':Ty:=.st [.int .i64,tyB,.int .i64]
abbrev tyPb:Ty:=.st [tyB,tyB,tyB,.slice (.int .i64),.slice tyOf']
theorem bun_of {cs:List AV} (h:TyC tyB cs):∃ w:Nat→Int,cs=bC w:=by
 obtain ⟨rows,rfl,hl,h⟩:=h
 obtain ⟨L,rfl,_⟩:=rows_map (fun n:Int=>[iv n]) (fun _=>True) (fun r hr=>by
  obtain ⟨n,rfl,_⟩:=hr
  exact ⟨n,rfl,trivial⟩) h
 refine ⟨fun k=>L.getD k 0,?_⟩
 match L,hl with
 | [a,b,c,d,e,f],_=>rw[bC_eq]; rfl
theorem offer_of {cs:List AV} (h:TyC tyOf' cs):∃ o:Of,cs=oC o:=by
 obtain ⟨a1,b1,rfl,⟨n,rfl,_⟩,a2,b2,rfl,h2,a3,b3,rfl,⟨v,rfl,_⟩,rfl⟩:=h
 obtain ⟨w,rfl⟩:=bun_of h2
 exact ⟨⟨n,w,v⟩,by rw[oC_eq,bC_eq]; rfl⟩
theorem intl_of {cs:List AV} (h:TyC (.slice (.int .i64)) cs):∃ l:List Int,cs=[clA l]∧l.length≤reachBytes:=by
 obtain ⟨rows,rfl,hl,h⟩:=h
 obtain ⟨L,rfl,h2⟩:=rows_map (fun d:Int=>[iv d]) (fun _=>True) (fun r hr=>by
  obtain ⟨n,rfl,_⟩:=hr
  exact ⟨n,rfl,trivial⟩) h
 exact ⟨L,rfl,by simpa using hl⟩
theorem offl_of {cs:List AV} (h:TyC (.slice tyOf') cs):∃ L:List Of,cs=[ofA L]∧L.length≤reachBytes:=by
 obtain ⟨rows,rfl,hl,h⟩:=h
 obtain ⟨L,rfl,h2⟩:=rows_map oC (fun _=>True) (fun r hr=>by
  obtain ⟨o,rfl⟩:=offer_of hr
  exact ⟨o,rfl,trivial⟩) h
 exact ⟨L,rfl,by simpa using hl⟩
theorem prob_of {x:AV} (h:AVTy tyPb x):∃ P:Pb,x=.agg (pbC P)∧P.cl.length≤reachBytes∧P.of.length≤reachBytes:=by
 obtain ⟨cs,rfl,a1,b1,rfl,h1,a2,b2,rfl,h2,a3,b3,rfl,h3,a4,b4,rfl,h4,a5,b5,rfl,h5,rfl⟩:=h
 obtain ⟨s,rfl⟩:=bun_of h1
 obtain ⟨p,rfl⟩:=bun_of h2
 obtain ⟨c,rfl⟩:=bun_of h3
 obtain ⟨l,rfl,hl⟩:=intl_of h4
 obtain ⟨L,rfl,hL⟩:=offl_of h5
 refine ⟨⟨s,p,c,l,L⟩,?_,hl,hL⟩
 congr 1
 unfold pbC pbX
 simp
theorem int_of {x:AV} {k:IntKind} (h:AVTy (.int k) x):∃ n:Int,x=.val (.int k n)∧(Lit.int k n).wf=true:=by
 obtain ⟨n,h1,h2⟩:=h
 simp only[List.cons.injEq,and_true] at h1
 exact ⟨n,h1,h2⟩
end Go.Proofs.Ytbmhibiljjnfiaa

namespace Go.Proofs.Ytbmhibiljjnfiaa
open Go Go.Am Go.Pb
section
variable {P:Pb}
theorem great_s:SoundCall Try.prog F_law20_great [.agg (pbC P)] (bv (decide (20<P.cl.length∨200<P.of.length))):=by
 refine sound' t_law20_great (by simp) ?_
 by_cases h1:20<P.cl.length
 ·have h1':(20:Int)<P.cl.length:=by omega
  simp[c_law20_great,h1,h1',r_law20_great]
 ·have h1':¬ (20:Int)<P.cl.length:=by omega
  by_cases h2:200<P.of.length
  ·have h2':(200:Int)<P.of.length:=by omega
   simp[c_law20_great,h1,h1',h2,h2',r_law20_great]
  ·have h2':¬ (200:Int)<P.of.length:=by omega
   simp[c_law20_great,h1,h1',h2,h2',r_law20_great]
end
end Go.Proofs.Ytbmhibiljjnfiaa

namespace Go.Proofs.Ytbmhibiljjnfiaa
open Go Go.Am Go.Pb
section
variable {P:Pb}
@[simp] theorem isInts_oC {o:Of}:isInts 8 (oC o)=true:=by
 rw[oC_eq]; rfl
end
end Go.Proofs.Ytbmhibiljjnfiaa

namespace Go.Proofs.Ytbmhibiljjnfiaa
open Go Go.Am Go.Pb
def selB (s:Int) (i:Nat):Bool:=decide (bitI .and .u64 (s.fdiv (2^i)) 1=1)
def selN (s:Int) (k:Nat):List Nat:=(List.range k).filter (selB s)
theorem wu60:∀ b:Nat,b<64→IntKind.u64.wrap (b:Int)=b:=by decide +kernel
section
variable {P:Pb} {s:Int} {k r:Nat} {T:List Nat}
theorem sel_succ:selN s (k+1)=if selB s k=true then selN s k++[k] else selN s k:=by
 unfold selN
 rw[List.range_succ,List.filter_append]
 by_cases h:selB s k=true
 ·rw[if_pos h,List.filter_cons_of_pos h]; rfl
 ·rw[if_neg h,List.filter_cons_of_neg h,List.filter_nil,List.append_nil]
theorem sel_len:(selN s k).length≤k:=by
 unfold selN
 have:=List.length_filter_le (selB s) (List.range k)
 rwa [List.length_range] at this
theorem sel_ok:okP k (ints (selN s k)):=okP_ints (List.pairwise_lt_range.filter _) fun j hj=>by
 have:=(List.mem_filter.1 hj).1
 simpa using this
theorem sel_mem {j:Nat} (h:j∈selN s k):j<k:=by
 have:=(List.mem_filter.1 h).1
 simpa using this
def keptB (P:Pb) (T:List Nat) (r:Nat):Prop:=∀ q,q<r→(T.map fun i:Nat=>P.coef q (P.at (i:Int))).sum≤P.bnd q
instance:Decidable (keptB P T r):=Nat.decidableBallLT r fun q _=>(T.map fun i:Nat=>P.coef q (P.at (i:Int))).sum≤P.bnd q
theorem kept_succ:keptB P T (r+1)↔keptB P T r∧(T.map fun i:Nat=>P.coef r (P.at (i:Int))).sum≤P.bnd r:=by
 constructor
 ·intro h; exact ⟨fun q hq=>h q (by omega),h r (by omega)⟩
 ·rintro ⟨h1,h2⟩ q hq
  by_cases e:q=r
  ·subst e; exact h2
  ·exact h1 q (by omega)
theorem pick_map {f:Of→Int}:(P.pick (ints T)).map f=T.map fun i:Nat=>f (P.at (i:Int)):=by
 unfold Pb.pick ints
 rw[List.map_map,List.map_map]
 rfl
theorem kept_fits:keptB P T P.rows↔P.fits (P.pick (ints T)):=by
 unfold keptB Pb.fits
 constructor
 ·intro h q hq; rw[pick_map]; exact h q hq
 ·intro h q hq; have:=h q hq; rwa [pick_map] at this
noncomputable abbrev xT (T:List Nat):AV:=apc 45 1 (clR (ints T))
noncomputable def stRa (P:Pb) (s:Int) (k:Nat):St:={env:=[(1,.val (.int .u64 s)),(2,.ptr 2 0),(5,xT (selN s k)),(6,iv k)],sto:=[(2,.var (pbC P))]}
noncomputable def stRb (P:Pb) (T:List Nat) (r:Nat):St:={env:=[(2,.ptr 2 0),(5,xT T),(7,bv (decide (keptB P T r))),(8,iv r)],sto:=[(2,.var (pbC P))]}
noncomputable def stRc (P:Pb) (T:List Nat) (r k:Nat):St:={env:=[(2,.ptr 2 0),(5,xT T),(7,bv (decide (keptB P T r))),(8,iv r),(9,clA (rowL P r)),(10,iv (P.bnd r)),(11,iv (preS (fun i:Nat=>P.coef r (P.at (i:Int))) T k)),(12,iv k)],sto:=[(2,.var (pbC P))]}
noncomputable def stRd (P:Pb) (T:List Nat) (k:Nat):St:={env:=[(2,.ptr 2 0),(5,xT T),(7,bv (decide (keptB P T P.rows))),(13,iv (preS (fun i:Nat=>(P.at (i:Int)).v) T k)),(14,iv k)],sto:=[(2,.var (pbC P))]}
theorem relaxes_s:SoundCall Try.prog F_law20_ProblemRelaxes [.agg (pbC P),.val (.int .u64 s)] (bv true):=by
 have hub:Try.prog.underlying T_bool=some .bool:=by kernel_rfl
 refine sound' t_law20_ProblemRelaxes (by simp) ?_
 simp[c_law20_ProblemRelaxes]
 refine eCall_i (great_s (P:=P)) (by simp) (by simp) ?_
 by_cases g:20<P.cl.length∨200<P.of.length
 ·simp only[decide_eq_true g]
  simp
  refine eCall_i (xs:=[]) (args:=[]) awake_s rfl (.inl rfl) ?_
  simp[r_law20_ProblemRelaxes]
 ·have hn:P.cl.length≤1000:=by omega
  have hk:P.of.length≤1000000:=by omega
  simp only[decide_eq_false g]
  by_cases g2:(60:Int)<P.of.length
  ·simp[g2]
   refine eCall_i (xs:=[]) (args:=[]) awake_s rfl (.inl rfl) ?_
   simp[r_law20_ProblemRelaxes]
  ·simp[g2]
   refine eCall_i (check_s hn hk) (by simp) (by simp) ?_
   by_cases c1:P.chk=0
   ·have hG:=chk_good c1
    have h64:IntKind.u64.bits=64:=rfl
    simp[c1]
    refine awp_forW (stRa P s) (fun _=>True) P.of.length (by simp[stRa,selN,xT]) trivial (fun k hk' _=>?_) (fun _=>?_)
    ·have e:(k:Int)<P.of.length:=by omega
     have w1:=wrap_succ (k:=k) (by omega)
     have hb0:¬ (k:Int)<0:=by omega
     have hmin:min k 64=k:=by omega
     have hwu:IntKind.u64.wrap (k:Int)=k:=wu60 k (by omega)
     have hs:=sel_succ (s:=s) (k:=k)
     have hl:=sel_len (s:=s) (k:=k)
     by_cases f:bitI .and .u64 (s.fdiv (2^k)) 1=1
     ·rw[if_pos (show selB s k=true from decide_eq_true f)] at hs
      simp[c_law20_ProblemRelaxes_l0,stRa,e,hk',hwu,eBin_shr hb0,h64,hmin,f]
      refine apc_add (by decide) rfl ?_ ?_ (by simp) ?_
      ·simp only[clR_len,ints_len]; omega
      ·simp only[clR_len,ints_len]; omega
      ·have hro:clR (ints (selN s k))++[[iv k]]=clR (ints (selN s (k+1))):=by rw[hs,ints_app]; rfl
       rw[hro]
       simp[w1,stRa]
     ·rw[if_neg (show ¬ selB s k=true from fun h=>f (of_decide_eq_true h))] at hs
      simp[c_law20_ProblemRelaxes_l0,stRa,e,hk',hwu,eBin_shr hb0,h64,hmin,f,w1,hs]
    ·have hl:=sel_len (s:=s) (k:=P.of.length)
     have hok:=sel_ok (s:=s) (k:=P.of.length)
     have hmem:=fun j=>sel_mem (s:=s) (k:=P.of.length) (j:=j)
     obtain ⟨T,hT⟩:∃ T,selN s P.of.length=T:=⟨_,rfl⟩
     rw[hT] at hl hok hmem
     have key:∀ K:Exit→St→Prop,K (.exit 0) {env:=[(1,.val (.int .u64 s)),(2,.ptr 2 0),(5,xT T),(6,iv P.of.length),(33,bv false)],sto:=[(2,.var (pbC P))]}→awp Try.prog c_law20_ProblemRelaxes_l0 (stRa P s P.of.length) (lastC K):=by
      intro K h
      simp[c_law20_ProblemRelaxes_l0,stRa,hT]
      exact h
     refine key _ ?_
     have hP:∀ j∈T,P.at (j:Int)∈P.of:=fun j hj=>at_mem (hmem j hj)
     have hkept0:keptB P T 0:=fun q hq=>absurd hq (Nat.not_lt_zero q)
     have hR:P.rows≤1012:=by unfold Pb.rows; omega
     have hk160:=hG.k
     have hrows:=rows2_s hn hk
     rw[show rowsE P=P.rows by unfold rowsE; rw[if_pos c1]] at hrows
     simp[-eLen1,c_law20_ProblemRelaxes_k8]
     refine awp_forW (stRb P T) (fun _=>True) P.rows (by simp[stRb,hkept0]) trivial (fun r hr _=>?_) (fun _=>?_)
     ·have e:(r:Int)<P.rows:=by omega
      have w1:=wrap_succ (k:=r) (by omega)
      have hrow:=row_s (P:=P) (r:=(r:Int)) hn hk
      have e0:(0:Int)≤r∧(r:Int)<(rowsE P:Nat):=by unfold rowsE; rw[if_pos c1]; omega
      unfold rowR at hrow
      rw[if_pos e0,if_pos e0,Int.toNat_natCast] at hrow
      have hco:∀ j∈T,0≤P.coef r (P.at (j:Int))∧P.coef r (P.at (j:Int))≤4:=fun j hj=>coef_ok (sim_ok (off_sim (hG.off _ (hP j hj))).1).2.2 hr
      have hks:=kept_succ (P:=P) (T:=T) (r:=r)
      have hsum:preS (fun i:Nat=>P.coef r (P.at (i:Int))) T T.length=(T.map fun i:Nat=>P.coef r (P.at (i:Int))).sum:=preS_all
      simp[-eLen1,c_law20_ProblemRelaxes_l4,stRb]
      refine eCall_i hrows (by simp) (by simp) ?_
      simp[-eLen1,e,hr]
      refine eCall_i hrow (by simp) (by simp) ?_
      simp
      refine awp_forW (stRc P T r) (fun _=>True) T.length (by simp[stRc,preS_zero]) trivial (fun k hk' _=>?_) (fun _=>?_)
      ·have e:(k:Int)<T.length:=by omega
       have w2:=wrap_succ (k:=k) (by omega)
       obtain ⟨j,hj⟩:∃ j,T[k]=j:=⟨_,rfl⟩
       have hjm:j∈T:=hj▸List.getElem_mem hk'
       have hjo:=hmem j hjm
       have hgx:T[k]?=some j:=by rw[List.getElem?_eq_getElem hk',hj]
       have hka:k<(clR (ints T)).length:=by simpa using hk'
       have hs:=preS_succ (f:=fun i:Nat=>P.coef r (P.at (i:Int))) hgx
       obtain ⟨p1,p2⟩:=preS_bound hco k (by omega)
       have p3:=hco j hjm
       have hrl:(rowL P r)[j]'(by simpa using hjo)=P.coef r (P.at (j:Int)):=by simp[rowL,at_nat hjo]
       obtain ⟨y,hy⟩:∃ y,preS (fun i:Nat=>P.coef r (P.at (i:Int))) T k=y:=⟨_,rfl⟩
       rw[hy] at hs p1 p2
       have w3:IntKind.i64.wrap (y+P.coef r (P.at (j:Int)))=y+P.coef r (P.at (j:Int)):=by rw[wrap64]<;>omega
       have hkc:j<(clR (rowL P r)).length:=by simpa using hjo
       have hcl:(clR (rowL P r))[j]=[iv (P.coef r (P.at (j:Int)))]:=by simp[clR,rowL,at_nat hjo]
       simp[-eIaddrS,-eLen1,eLen1_apc,c_law20_ProblemRelaxes_l1,stRc,e,hk',eIaddrS_apc hka,eIaddrS_pl hkc,ints_get,hj,hy,hcl,w2,w3,hs]
      ·have key:∀ K:Exit→St→Prop,K (.exit 4) {env:=[(2,.ptr 2 0),(5,xT T),(7,bv (decide (keptB P T r))),(8,iv r),(9,clA (rowL P r)),(10,iv (P.bnd r)),(11,iv ((T.map fun i:Nat=>P.coef r (P.at (i:Int))).sum)),(12,iv T.length),(67,bv false)],sto:=[(2,.var (pbC P))]}→awp Try.prog c_law20_ProblemRelaxes_l1 (stRc P T r T.length) (lastC K):=by
        intro K h
        simp[-eLen1,eLen1_apc,c_law20_ProblemRelaxes_l1,stRc,hsum]
        exact h
       refine key _ ?_
       by_cases f1:keptB P T r
       ·by_cases f2:(T.map fun i:Nat=>P.coef r (P.at (i:Int))).sum≤P.bnd r
        ·have f3:=hks.2 ⟨f1,f2⟩
         simp[c_law20_ProblemRelaxes_k2,c_law20_ProblemRelaxes_k3,f1,f2,f3,w1,stRb]
        ·have f3:¬ keptB P T (r+1):=fun h=>f2 (hks.1 h).2
         simp[c_law20_ProblemRelaxes_k2,c_law20_ProblemRelaxes_k3,f1,f2,f3,w1,stRb]
       ·have f3:¬ keptB P T (r+1):=fun h=>f1 (hks.1 h).1
        simp[c_law20_ProblemRelaxes_k2,c_law20_ProblemRelaxes_k3,f1,f3,w1,stRb]
     ·have key:∀ K:Exit→St→Prop,K (.exit 2) {env:=[(2,.ptr 2 0),(5,xT T),(7,bv (decide (keptB P T P.rows))),(8,iv P.rows),(49,bv false)],sto:=[(2,.var (pbC P))]}→awp Try.prog c_law20_ProblemRelaxes_l4 (stRb P T P.rows) (lastC K):=by
       intro K h
       simp[-eLen1,c_law20_ProblemRelaxes_l4,stRb]
       refine eCall_i hrows (by simp) (by simp) ?_
       simp[-eLen1]
       exact h
      refine key _ ?_
      have hvv:∀ j∈T,0≤(P.at (j:Int)).v∧(P.at (j:Int)).v≤1000000:=fun j hj=>by have:=(sim_ok (off_sim (hG.off _ (hP j hj))).1).2.1; omega
      have hsum:preS (fun i:Nat=>(P.at (i:Int)).v) T T.length=(T.map fun i:Nat=>(P.at (i:Int)).v).sum:=preS_all
      simp[-eLen1,c_law20_ProblemRelaxes_k7]
      refine awp_forW (stRd P T) (fun _=>True) T.length (by simp[stRd,preS_zero]) trivial (fun k hk' _=>?_) (fun _=>?_)
      ·have e:(k:Int)<T.length:=by omega
       have w2:=wrap_succ (k:=k) (by omega)
       obtain ⟨j,hj⟩:∃ j,T[k]=j:=⟨_,rfl⟩
       have hjm:j∈T:=hj▸List.getElem_mem hk'
       have hjo:=hmem j hjm
       have hgx:T[k]?=some j:=by rw[List.getElem?_eq_getElem hk',hj]
       have hka:k<(clR (ints T)).length:=by simpa using hk'
       have hof:j<(ofR P.of).length:=by simpa using hjo
       have hs:=preS_succ (f:=fun i:Nat=>(P.at (i:Int)).v) hgx
       obtain ⟨p1,p2⟩:=preS_bound hvv k (by omega)
       have p3:=hvv j hjm
       have hat:P.at (j:Int)=P.of[j]:=at_nat hjo
       rw[hat] at hs p3
       obtain ⟨y,hy⟩:∃ y,preS (fun i:Nat=>(P.at (i:Int)).v) T k=y:=⟨_,rfl⟩
       rw[hy] at hs p1 p2
       have w3:IntKind.i64.wrap (y+P.of[j].v)=y+P.of[j].v:=by rw[wrap64]<;>omega
       simp[-eIaddrS,-eLen1,eLen1_apc,c_law20_ProblemRelaxes_l5,stRd,e,hk',eIaddrS_apc hka,eIaddrS_pl hof,ints_get,hj,hy,w2,w3,hs]
      ·have key:∀ K:Exit→St→Prop,K (.exit 6) {env:=[(2,.ptr 2 0),(5,xT T),(7,bv (decide (keptB P T P.rows))),(13,iv ((T.map fun i:Nat=>(P.at (i:Int)).v).sum)),(14,iv T.length),(88,bv false)],sto:=[(2,.var (pbC P))]}→awp Try.prog c_law20_ProblemRelaxes_l5 (stRd P T T.length) (lastC K):=by
        intro K h
        simp[-eLen1,eLen1_apc,c_law20_ProblemRelaxes_l5,stRd,hsum]
        exact h
       refine key _ ?_
       have hlen:(ints T).length<4611686018427387904:=by simp; omega
       have hfea:=imp_q2 (feasible_s (ch:=ints T) hn hk hlen) (plc_imp (sz:=1) (impr_refl (rows:=clR (ints T))))
       have hval:=imp_q2 (value_s (ch:=ints T) hn hk hlen) (plc_imp (sz:=1) (impr_refl (rows:=clR (ints T))))
       have e2:P.valE (ints T)=(T.map fun i:Nat=>(P.at (i:Int)).v).sum:=by
        unfold Pb.valE
        rw[if_pos ⟨hok,c1⟩,pick_map]
       rw[e2] at hval
       have hkf:=kept_fits (P:=P) (T:=T)
       by_cases f1:keptB P T P.rows
       ·have e1:P.feaE (ints T)=0:=by unfold Pb.feaE; rw[if_neg (fun e=>e c1),if_neg (fun e=>e hok),if_pos (hkf.1 f1)]
        rw[e1] at hfea
        simp[c_law20_ProblemRelaxes_k6,f1]
        refine eCall_i hfea (by simp) (by simp) ?_
        simp[eBin_eql_bool hub]
        refine eCall_i hval (by simp) (by simp) ?_
        simp
        refine eCall_i (xs:=[]) (args:=[]) awake_s rfl (.inl rfl) ?_
        simp[r_law20_ProblemRelaxes]
       ·have e1:P.feaE (ints T)=14:=by unfold Pb.feaE; rw[if_neg (fun e=>e c1),if_neg (fun e=>e hok),if_neg (fun h=>f1 (hkf.2 h))]
        rw[e1] at hfea
        simp[c_law20_ProblemRelaxes_k6,f1]
        refine eCall_i hfea (by simp) (by simp) ?_
        simp[eBin_eql_bool hub]
        refine eCall_i hval (by simp) (by simp) ?_
        simp
        refine eCall_i (xs:=[]) (args:=[]) awake_s rfl (.inl rfl) ?_
        simp[r_law20_ProblemRelaxes]
   ·simp[c1]
    refine eCall_i (xs:=[]) (args:=[]) awake_s rfl (.inl rfl) ?_
    simp[r_law20_ProblemRelaxes]
end
theorem problemRelaxes_contract (xs:List AV) (h:TyAll [tyPb,.int .u64] xs):SoundCall Try.prog F_law20_ProblemRelaxes xs (bv true):=by
 obtain ⟨x,y,rfl,h1,h2⟩:=TyAll_two h
 obtain ⟨P,rfl,_⟩:=prob_of h1
 obtain ⟨a,rfl,_⟩:=int_of h2
 exact relaxes_s
end Go.Proofs.Ytbmhibiljjnfiaa
