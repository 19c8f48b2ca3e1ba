/- What the proof rests on, part 11: VR VS VT VU VW VX VY VZ QT LA LB LC LD LE LF BT LG LH LI LJ LK LL LM LN LO. -/
import Derived.Test.YtpnliopaifpimaaGreatP10
set_option maxRecDepth 100000
set_option maxHeartbeats 4000000
set_option maxRecDepth 20000
namespace Go.Proofs.YtpnliopaifpimaaGreat
open Go Go.Am Go.Wr Go.Dig Go.Tr Go.LP Go.Pb
def fxL (P:Pb) (T:List Nz) (i:Nat):List Int:=(List.range P.of.length).map (fx (ntZ T) P.of.length i)
@[simp] theorem akW {P:Pb} {T:List Nz} {i:Nat}:(fxL P T i).length=P.of.length:=by simp[fxL]
theorem LL {P:Pb} {T:List Nz} {i:Nat}:zR (fx (ntZ T) P.of.length i) P.of.length=clR (fxL P T i):=ahR
def YI (P:Pb) (value:Int) (T:List Nz) (k:Nat):Prop:=∀ i (hi:i<T.length),i<k→jm P value (fxL P T i) T[i]=true
noncomputable def ba (P:Pb) (value:Int) (T:List Nz):Int:=@ite _ (YI P value T T.length) (Classical.propDecidable _) 0 13
theorem QJ {P:Pb} {value:Int} {T:List Nz} (h:YI P value T T.length):ba P value T=0:=by unfold ba; exact if_pos h
theorem QI {P:Pb} {value:Int} {T:List Nz} (h:¬ YI P value T T.length):ba P value T=13:=by unfold ba; exact if_neg h
def Pn (P:Pb) (T:List Nz) (value:Int) (i:Nat):St :=
 {env:=[(1,iv value),(2,.list 5 .plain (zI T)),(3,.ptr 3 0),(7,.sl 15 2 0 T.length),(16,.list 5 .plain (zI T)),(17,iv T.length),(18,iv i)],sto:=[(3,.var (pbC P)),(15,.arr 2 (uR (upP (ntZ T) i) (upI (ntZ T) i) T.length))]}
theorem aaZ {P:Pb} {T:List Nz} {value:Int} (hc:P.chk=0) (hk:P.of.length≤10) (hN:∀ N∈T,eK N) (hTr:yx (ntZ T)) (h1:-9223372036854775808≤value) (h2:value<9223372036854775808) :
  ze Tryz.prog pq [.agg (pbC P),iv value,.list 5 .plain (zI T)] (iv (ba P value T)):=by
 have ht:=hTr.most
 rw[gJ] at ht
 refine zn XJ (by simp) ?_
 simp[j6,eMk]
 refine ⟨by omega,by omega,?_⟩
 have e0:uR (fun _=>0) (fun _=>false) T.length=uR (upP (ntZ T) 0) (upI (ntZ T) 0) T.length:=Sv fun k hk=>by
  obtain ⟨a,b⟩:=af8 hTr (k:=k) hk
  exact ⟨a.symm,b.symm⟩
 rw[ahJ,e0]
 refine zw (Pn P T value) (fun i=>YI P value T i) T.length (by simp[Pn]) (fun i hi h=>absurd h (Nat.not_lt_zero i)) (fun i hi hI=>?_) (fun hI=>?_)
 ·have w1:=zm (k:=i) (by omega)
  have hi2:(i:Int)<T.length:=by omega
  have hx:=hN _ (List.getElem_mem hi)
  have hz:okZ T[i]=true:=(RD hi).1 (hTr.ok i hi)
  have hK:=Zr hi
  have hU:=Y3 hi
  have hIn:=TW hi
  have hleaf:¬ (ntZ T).K i=2→uR (upP (ntZ T) i) (upI (ntZ T) i) T.length=uR (upP (ntZ T) (i+1)) (upI (ntZ T) (i+1)) T.length:=fun h=>Sv fun k hk=>by
   obtain ⟨a,b⟩:=af7 hTr hi h hk
   exact ⟨a.symm,b.symm⟩
  have hbranch:∀ u v:Nat,(ntZ T).K i=2→(ntZ T).U i=u→(ntZ T).I i=v→u≠v→uR (upd (upd (upP (ntZ T) i) u i) v i) (upd (upd (upI (ntZ T) i) u false) v true) T.length=uR (upP (ntZ T) (i+1)) (upI (ntZ T) (i+1)) T.length:=fun u v h a b hne=>Sv fun k hk=>by
   obtain ⟨c,d⟩:=A3 hTr hi h a b hne hk
   exact ⟨c.symm,d.symm⟩
  have hkids:(ntZ T).K i=2→∃ u v:Nat,(ntZ T).U i=u∧(ntZ T).I i=v∧i<u∧u<T.length∧i<v∧v<T.length∧u≠v:=fun h=>by
   obtain ⟨u,v,a,b,c,d,e,f,g,_⟩:=UA hTr hi h
   exact ⟨u,v,a,b,c,d,e,f,g⟩
  have hno:jm P value (fxL P T i) T[i]=false→ba P value T=13:=fun h=>QI fun hp=>by
   have:=hp i hi hi
   rw[h] at this
   cases this
  have hyes:jm P value (fxL P T i) T[i]=true→YI P value T (i+1):=fun h j hj hji=>by
   by_cases e:j=i
   ·subst e; exact h
   ·exact hI j hj (by omega)
  have hst2:Pn P T value (i+1)={env:=[(1,iv value),(2,.list 5 .plain (zI T)),(3,.ptr 3 0),(7,.sl 15 2 0 T.length),(16,.list 5 .plain (zI T)),(17,iv T.length),(18,iv ((i:Int)+1))],sto:=[(3,.var (pbC P)),(15,.arr 2 (uR (upP (ntZ T) (i+1)) (upI (ntZ T) (i+1)) T.length))]}:=by rw[Pn]; rfl
  generalize he:T[i]=N at *
  simp[rI,Pn,hi,hi2,he,eMk]
  refine ⟨by omega,by omega,?_⟩
  rw[Ql]
  refine Ys (t:=ZK P T value i (zc N) (upP (ntZ T) i) (upI (ntZ T) i) (fun _=>0) i) (St.imp_of (by simp[ZK])) ?_
  refine CD hTr hi (by omega) (fun f hf=>?_)
  subst hf
  rw[LL]
  simp[la]
  refine za (Kq (N:=N)) (by simp) (by simp) ?_
  simp[-ux,pK]
  refine ab9 (fl:=fxL P T i) hc hk (by simp; omega) hx hz h1 h2 (by simp; exact List.take_of_length_le (by simp)) ?_
  cases hcor:jm P value (fxL P T i) N with
  | false =>
   rw[hno hcor]
   simp[pQ]
  | true =>
   have hnext:=hyes hcor
   by_cases hk:N.K=2
   ·rw[hk] at hK
    obtain ⟨u,v,hu,hv,u1,u2,v1,v2,hne⟩:=hkids hK
    have hb2:=hbranch u v hK hu hv hne
    rw[hU] at hu
    rw[hIn] at hv
    have u2':(u:Int)<T.length:=by omega
    have v2':(v:Int)<T.length:=by omega
    simp[hk,hu,hv,u2,u2',v2,v2',splice,ahK]
    simp[rH,w1,hb2,hst2]
    exact hnext
   ·have hl:=hleaf (by rw[hK]; exact hk)
    simp[hk,rH,w1,hl,hst2]
    exact hnext
 ·rw[QJ hI]
  simp[rI,Pn,lb,pQ]
end Go.Proofs.YtpnliopaifpimaaGreat

set_option maxRecDepth 20000
namespace Go.Proofs.YtpnliopaifpimaaGreat
open Go Go.Am Go.Wr Go.Dig Go.Tr Go.LP Go.Pb
def Zl (P:Pb) (T:List Nz) (k:Nat):Prop:=∀ i (hi:i<T.length),i<k→T[i].K=1→T[i].P.length=P.rows
noncomputable def TP (P:Pb) (value:Int) (T:List Nz):Int:=@ite _ (Zl P T T.length) (Classical.propDecidable _) (ba P value T) 2
noncomputable def gE (P:Pb) (value:Int) (T:List Nz):Int :=
 if P.chk≠0 then P.chk else if T.length=0 then 1 else if 65536<T.length then 3 else if vw T=false then 2 else TP P value T
theorem QR {P:Pb} {value:Int} {T:List Nz} (h:Zl P T T.length):TP P value T=ba P value T:=by unfold TP; exact if_pos h
theorem Fm {P:Pb} {value:Int} {T:List Nz} (h:¬ Zl P T T.length):TP P value T=2:=by unfold TP; exact if_neg h
def PA (P:Pb) (T:List Nz) (value:Int) (k:Nat):St :=
 {env:=[(1,iv value),(2,.list 5 .plain (zI T)),(3,.ptr 3 0),(8,iv P.rows),(30,.list 5 .plain (zI T)),(31,iv T.length),(32,iv k)],sto:=[(3,.var (pbC P))]}
theorem dv {P:Pb} {T:List Nz} {value:Int} (hk:P.of.length≤10) (hN:∀ N∈T,eK N) (hT:T.length<4611686018427387904) (h1:-9223372036854775808≤value) (h2:value<9223372036854775808) :
  ze Tryz.prog yG [.agg (pbC P),iv value,.list 5 .plain (zI T)] (iv (gE P value T)):=by
 refine zn UG (by simp) ?_
 simp[gP]
 refine za (GU (P:=P)) (by simp) (by simp) ?_
 unfold gE
 by_cases hc:P.chk=0
 rotate_left
 ·simp[hc,wk]
 by_cases c1:T.length=0
 ·have c1':T=[]:=List.eq_nil_of_length_eq_zero c1
  simp[hc,c1',wk]
 have c1':¬ (T.length:Int)=0:=by omega
 have c1'':¬ T=[]:=fun e=>c1 (by rw[e]; rfl)
 by_cases c2:65536<T.length
 ·have c2':(65536:Int)<T.length:=by omega
  simp[hc,c1,c2,c2',wk]
 have c2':¬ (65536:Int)<T.length:=by omega
 simp[hc,c1,c2,c2']
 refine za (TM (T:=T) (fun N h x hx=>(hN N h x hx).1) hT) (by simp) (by simp) ?_
 cases hb:vw T with
 | false=>simp[wk]
 | true =>
  have hTr:=vx.1 hb
  have hG:=vR hc
  have kr:=Pd (P:=P) (by have:=hG.n; omega) (by have:=hG.k; omega)
  rw[show xD P=P.rows by unfold xD; simp[hc]] at kr
  simp
  refine za kr (by simp) (by simp) ?_
  simp
  refine zw (PA P T value) (fun k=>Zl P T k) T.length (by simp[PA]) (fun i hi h=>absurd h (Nat.not_lt_zero i)) (fun i hi hI=>?_) (fun hI=>?_)
  ·have w1:=zm (k:=i) (by omega)
   have hi2:(i:Int)<T.length:=by omega
   have hyes:(T[i].K=1→T[i].P.length=P.rows)→Zl P T (i+1):=fun h j hj hji=>by
    by_cases e:j=i
    ·subst e; exact h
    ·exact hI j hj (by omega)
   have hno:¬ (T[i].K=1→T[i].P.length=P.rows)→TP P value T=2:=fun h=>Fm fun hp=>h (hp i hi hi)
   generalize he:T[i]=N at *
   by_cases a1:N.K=1
   ·by_cases a2:N.P.length=P.rows
    ·have a2':(N.P.length:Int)=P.rows:=by omega
     have hy:=hyes fun _=>a2
     simp[vm,PA,hi,hi2,he,a1,a2',w1]
     exact hy
    ·have a2':¬ (N.P.length:Int)=P.rows:=by omega
     have hy:=hno fun h=>a2 (h a1)
     simp[vm,PA,hi,hi2,he,a1,a2',hy,wk]
   ·have hy:=hyes fun h=>absurd h a1
    simp[vm,PA,hi,hi2,he,a1,w1]
    exact hy
  ·rw[QR hI]
   simp[vm,PA,l8]
   refine za (aaZ hc hk hN hTr h1 h2) (by simp) (by simp) ?_
   simp[wk]
end Go.Proofs.YtpnliopaifpimaaGreat

set_option maxRecDepth 20000
namespace Go.Proofs.YtpnliopaifpimaaGreat
open Go Go.Am Go.Wr Go.Dig Go.Tr Go.LP Go.Pb
noncomputable def Ph (fl:List Int) (k:Nat):St:={env:=[(0,clA fl),(3,apc 19 1 (clR (ints (Go.Pb.numK fl 1 k)))),(4,iv k)],sto:=[]}
theorem JD {fl:List Int} (hf:fl.length≤1000000):ze Tryz.prog mq [clA fl] (clA (ints (Go.Pb.numK fl 1 fl.length))):=by
 refine wW Sr (by simp) ?_
 simp[ew]
 refine yl (Ph fl) fl.length (by simp[Ph,Go.Pb.numK,ints,clR,apc]) (fun k hk=>?_) ?_
 ·have w1:=zm (k:=k) (by omega)
  have hg:=nR hk
  have hlen:=Go.Pb.numK_len (fx:=fl) (v:=1) (k:=k)
  by_cases h1:fl[k]=1
  ·have hr:=Km (fl:=fl) (k:=k) (by rw[hg,h1])
   simp[t6,Ph,hk,h1]
   refine p9 (by decide) rfl ?_ ?_ (by simp) ?_
   ·simp only[lm,lC]; omega
   ·simp only[lm,lC]; omega
   ·rw[hr]
    simp[w1,Ph]
  ·have hr:=Np (fl:=fl) (k:=k) (by rw[hg]; exact h1)
   simp[t6,Ph,hk,h1,w1,hr]
 ·simp[t6,jb,Ph,df]
  exact fJ lA
end Go.Proofs.YtpnliopaifpimaaGreat

set_option maxRecDepth 20000

set_option maxRecDepth 20000

set_option maxRecDepth 20000
namespace Go.Proofs.YtpnliopaifpimaaGreat
open Go Go.Am Go.Wr Go.Dig Go.Tr Go.LP Go.Pb
def wL9:List Int→Nat→Int:=fun l k=>l.getD k 0
def P9:Pb:=⟨wL9 [1],wL9 [1],wL9 [],[0,0],[⟨0,wL9 [1],9⟩,⟨1,wL9 [1],7⟩]⟩
def pr9 (x:Rat):Nat→Rat:=upd (fun _=>0) 2 x
abbrev acd:List AV:=[iv 1,iv 0,iv 0,iv 0,iv 0,iv 0,iv 1,iv 0,iv 0,iv 0,iv 0,iv 0,iv 0,iv 0,iv 0,iv 0,iv 0,iv 0,.list 1 .full [[iv 0],[iv 0]],.list 8 .full [[iv 0,iv 1,iv 0,iv 0,iv 0,iv 0,iv 0,iv 9],[iv 1,iv 1,iv 0,iv 0,iv 0,iv 0,iv 0,iv 7]]]
noncomputable def K8 (x:Int) (k:Nat):St:={env:=[(0,iv x),(2,.ptr 2 0),(5,.ptr 5 0),(6,.sl 18 3 0 14),(20,iv 14),(21,iv k)],sto:=[(2,.var [iv 0,iv 0,iv 0,iv 0,iv 0,iv 0,iv 0,iv 0,iv 0,iv 0,iv 0,iv 0,iv 0,iv 0,iv 0,iv 0,iv 0,iv 0,uw,uw]),(5,.var acd),(18,.arr 3 (fZ (fun _=>0) k 14))]}
theorem ag8 {x:Int} (h1:-9223372036854775808≤x) (h2:x<9223372036854775808):ze Tryz.prog lN [iv x] (.tuple [.agg acd,fL (pr9 x) 14]):=by
 refine zn Jj (by simp) ?_
 simp[Yv,eMk,splice]
 have e0:fZ (fun _=>0) 0 14=[zz,zz,zz,zz,zz,zz,zz,zz,zz,zz,zz,zz,zz,zz]:=by rw[← G7]; rfl
 have k0:ze Tryz.prog xi [iv 0] (fq 0):=sL (n:=0) (by decide) (by decide)
 have kx:=sL h1 h2
 refine zw (K8 x) (fun _=>True) 14 (by simp[K8,e0]) trivial (fun k hk _=>?_) (fun _=>?_)
 ·have e:(k:Int)<14:=by omega
  have w:=zm (k:=k) (by omega)
  have hs:=Cy (f:=fun _=>0) hk
  simp[lW,K8,e]
  refine za k0 (by simp) (by simp) ?_
  simp[splice,hk,w,hs,K8]
  exact e
 ·simp[lW,dM,K8,G6]
  refine za kx (by simp) (by simp) ?_
  simp[splice,Lz,Xc,pr9]
theorem ag9 {x:Int} (h1:-9223372036854775808≤x) (h2:x<9223372036854775808):ze Tryz.prog lN [iv x] (.tuple [.agg (pbC P9),fL (pr9 x) 14]):=by
 refine Az (ag8 h1 h2) ?_
 have e:ofR P9.of=[[iv 0,iv 1,iv 0,iv 0,iv 0,iv 0,iv 0,iv 9],[iv 1,iv 1,iv 0,iv 0,iv 0,iv 0,iv 0,iv 7]]:=by
  unfold ofR P9
  simp only[List.map_cons,List.map_nil,pc]
  rfl
 have hpb:AV.imp (.agg acd) (.agg (pbC P9)):=by
  simp only[xw]
  refine X8 ?_
  have h2:AV.imp (.list 8 .full [[iv 0,iv 1,iv 0,iv 0,iv 0,iv 0,iv 0,iv 9],[iv 1,iv 1,iv 0,iv 0,iv 0,iv 0,iv 0,iv 7]]) (ofA P9.of):=by
   unfold ofA
   rw[e]
   exact qn
  have h1:AV.imp (.list 1 .full [[iv 0],[iv 0]]) (clA P9.cl):=qn
  repeat' first | exact z6 h1 (z6 h2 tT) | refine z6 AV.imp.refl ?_
 exact QL (z6 hpb (z6 AV.imp.refl tT))
end Go.Proofs.YtpnliopaifpimaaGreat

set_option maxRecDepth 20000
namespace Go.Proofs.YtpnliopaifpimaaGreat
open Go Go.Am Go.Wr Go.Dig Go.Tr Go.LP Go.Pb
def vF:List Nz:=[⟨2,0,1,2,[]⟩,⟨3,0,0,0,[]⟩,⟨3,0,0,0,[]⟩]
def F9:List Fr:=(List.range 14).map fun r=>(false,if r=2 then [9] else [],[1])
def N9:Nz:=⟨1,0,0,0,F9⟩
theorem F1 {T:List Nz} (h1:1≤T.length) (h2:T.length≤65536) (h3:∀ i (hi:i<T.length),okZ T[i]=true)
  (h4:∀ i (hi:i<T.length),T[i].K=2→(i:Int)<T[i].U∧T[i].U<T.length∧(i:Int)<T[i].I∧T[i].I<T.length∧T[i].U≠T[i].I) (h5:∀ i,1≤i→i<T.length→cnt (ntZ T) T.length i=1):yx (ntZ T) where
 one:=h1
 most:=h2
 ok:=fun i hi=>(RD hi).2 (h3 i hi)
 br:=fun i hi=>by
  have:=h4 i hi
  unfold cS
  rw[Zr hi,Y3 hi,TW hi]
  exact this
 par1:=h5
theorem Jw:∀ i (hi:i<vF.length),okZ vF[i]=true:=by decide +kernel
theorem adh:yx (ntZ vF):=F1 (by decide) (by decide) Jw (by decide) fun i h1 h2=>by
 have h2':i<3:=h2
 have:i=1∨i=2:=by omega
 rcases this with rfl | rfl<;>decide
theorem PT:∀ N∈vF,eK N:=fun N hN x hx=>by
 simp only[vF,List.mem_cons,List.not_mem_nil,or_false] at hN
 rcases hN with rfl | rfl | rfl<;>cases hx
theorem adC:vw vF=true:=vx.2 adh
theorem DA:fH vF=2:=by unfold fH; rw[if_pos adC]; decide
theorem AY:ga vF=2:=by unfold ga; rw[if_pos adC]; decide
theorem abA:vw (vF.drop 1)=false:=te fun h=>by
 have h1:=h.par1 1 (by decide) (by decide)
 exact absurd h1 (by decide)
theorem abB:vw (vF.take 2)=false:=te fun h=>by
 have h1:=(h.br 0 (by decide) (by decide)).2.2.2.1
 exact absurd h1 (by decide)
theorem agx:ga (vF.drop 1)=0:=by unfold ga; rw[abA]; rfl
theorem PS:s4 vF=[3,2,0,1,2,3,3]:=by
 unfold s4 vF
 simp[xl,encZ,bU]
theorem F2:eG [3,2,0,1,2,3,3]=0∧(Qz [3,2,0,1,2,3,3]).map Kp=vF:=by
 have h:=Lf (T:=vF) (fun N hN=>⟨fun x hx=>by
  have:=PT N hN x hx
  exact ⟨this.1,by omega,by omega⟩,by
  obtain ⟨i,hi,rfl⟩:=List.getElem_of_mem hN
  exact Jw i hi⟩) (by decide)
 rw[PS] at h
 exact ⟨h.1,by rw[h.2]; rfl⟩
theorem Fx:eG [0]=0∧Qz [0]=[]:=by
 have h:=Lf (T:=[]) (fun N hN=>by cases hN) (by decide)
 have e:s4 []=[0]:=by unfold s4; simp[bU]
 rw[e] at h
 exact h
theorem Ee:P9.chk=0:=by decide +kernel
theorem agL:∀ N∈[N9],eK N:=fun N hN x hx=>by
 rw[List.mem_singleton] at hN
 subst hN
 obtain ⟨r,_,rfl⟩:=List.mem_map.1 hx
 have h1:ok ([1]:List Nat):=fun d hd=>by rw[List.mem_singleton.1 hd]; decide
 have h9:ok (if r=2 then [9] else []:List Nat):=by
  split
  ·intro d hd; rw[List.mem_singleton.1 hd]; decide
  ·intro d hd; cases hd
 have hl:(if r=2 then [9] else []:List Nat).length≤1:=by split<;>decide
 refine ⟨⟨h9,h1,?_,?_⟩,?_,?_⟩
 ·show (if r=2 then [9] else []:List Nat).length<17179869184; omega
 ·show 1<17179869184; decide
 ·show (if r=2 then [9] else []:List Nat).length≤4; omega
 ·show 1≤4; decide
theorem aiO:okZ N9=true:=by decide +kernel
theorem Fw:yx (ntZ [N9]):=F1 (by decide) (by decide) (fun i hi=>by
 have:i=0:=by simp at hi; omega
 subst this; exact aiO) (fun i hi=>by
 have:i=0:=by simp at hi; omega
 subst this; intro h; exact absurd (show N9.K=2 from h) (by decide)) (fun i h1 h2=>by simp at h2; omega)
theorem aiN:fxL P9 [N9] 0=[0,0]:=rfl
theorem aiM:fpE P9 [0,0] (yZ N9) N9.P.length=0:=by decide +kernel
theorem aiL:bdZ P9 [0,0] N9=9:=by decide +kernel
theorem Bg:Zl P9 [N9] 1:=fun i hi _ _=>by
 have:i=0:=by simp at hi; omega
 subst this; rfl
theorem S8 {P:Pb} {value:Int} {T:List Nz} (h1:P.chk=0) (h2:yx (ntZ T)) (h3:Zl P T T.length):gE P value T=ba P value T:=by
 have a:=h2.one
 have b:=h2.most
 rw[gJ] at a b
 unfold gE
 rw[if_neg (by simp[h1]),if_neg (by omega),if_neg (by omega),vx.2 h2,if_neg (by decide),QR h3]
theorem Bf (value:Int):YI P9 value [N9] 1↔(9:Rat)<(value:Rat)+1:=by
 have key:jm P9 value (fxL P9 [N9] 0) N9=decide ((9:Rat)<(value:Rat)+1):=by
  unfold jm bdB
  rw[if_neg (by decide),if_neg (by decide),aiN,aiM,aiL]
  rfl
 constructor
 ·intro h
  have:=h 0 (by decide) (by decide)
  rw[show ([N9]:List Nz)[0]=N9 from rfl,key] at this
  exact of_decide_eq_true this
 ·intro h i hi _
  have:i=0:=by simp at hi; omega
  subst this
  rw[show ([N9]:List Nz)[0]=N9 from rfl,key]
  exact decide_eq_true h
theorem agq:gE P9 9 [N9]=0:=by
 rw[S8 Ee Fw Bg]
 exact QJ ((Bf 9).2 (by decide +kernel))
theorem agp:gE P9 8 [N9]=13:=by
 rw[S8 Ee Fw Bg]
 exact QI fun h=>absurd ((Bf 8).1 h) (by decide +kernel)
theorem aar:gE P9 9 []=1:=by unfold gE; rw[if_neg (by simp[Ee])]; rfl
theorem aas:gE P9 9 (vF.take 2)=2:=by
 unfold gE
 rw[if_neg (by simp[Ee]),if_neg (by decide),if_neg (by decide),abB]
 rfl
end Go.Proofs.YtpnliopaifpimaaGreat

set_option maxRecDepth 20000
namespace Go.Proofs.YtpnliopaifpimaaGreat
open Go Go.Am Go.Wr Go.Dig Go.Tr Go.LP Go.Pb
theorem aee:v9 F9=fR (pr9 9) 14:=by
 have a0:fr 0=[bv false,nl .plain [],nl .plain [1]]:=by
  rw[← Mu,ni,show (RF.of 0).s=false from by decide +kernel,show (RF.of 0).a=[] from by decide +kernel,show (RF.of 0).c=[1] from by decide +kernel]
 have a9:fr 9=[bv false,nl .plain [9],nl .plain [1]]:=by
  rw[← Mu,ni,show (RF.of 9).s=false from by decide +kernel,show (RF.of 9).a=[9] from by decide +kernel,show (RF.of 9).c=[1] from by decide +kernel]
 apply List.ext_getElem
 ·simp[F9]
 ·intro i h1 h2
  have hi:i<14:=by simpa using h2
  rw[aef]
  by_cases e:i=2
  ·subst e
   simp[F9,pr9,upd,a9]
  ·simp[F9,pr9,upd,e,a0]
noncomputable abbrev rN9:List (List AV):=[[iv 1,iv 0,iv 0,iv 0,fL (pr9 9) 14]]
abbrev rTw:List (List AV):=[[iv 2,iv 0,iv 1,iv 2,uw],[iv 3,iv 0,iv 0,iv 0,uw],[iv 3,iv 0,iv 0,iv 0,uw]]
theorem aeF:zI [N9]=rN9:=by
 show [[iv 1,iv 0,iv 0,iv 0,.list 3 .plain (v9 F9)]]=_
 rw[aee]
theorem CQ:AV.imp (.list 5 .full rN9) (.list 5 .plain (zI [N9])):=by rw[aeF]; exact qn
theorem ju {a b c d:AV}:kF [a,b,c,d,uw] [a,b,c,d,.list 3 .plain []] :=
 z6 AV.imp.refl (z6 AV.imp.refl (z6 AV.imp.refl (z6 AV.imp.refl (z6 (AV.imp_nil rfl) tT))))
theorem X9 {m:Am.Mode} (hm:stm m=m):AV.imp (.list 5 m rTw) (.list 5 .plain (zI vF)):=Zh hm (pF ju (pF ju (pF ju TK)))
theorem abd {m:Am.Mode} (hm:stm m=m):AV.imp (.list 5 m (rTw.take 2)) (.list 5 .plain (zI (vF.take 2))):=Zh hm (pF ju (pF ju TK))
theorem abc {m:Am.Mode} (hm:stm m=m):AV.imp (.list 5 m (rTw.drop 1)) (.list 5 .plain (zI (vF.drop 1))):=Zh hm (pF ju (pF ju TK))
theorem GA:ze Tryz.prog x5 [] (bv true):=by
 have k9:=ag9 (x:=9) (by decide) (by decide)
 refine zn Ma (by simp) ?_
 simp[Z2]
 refine za k9 (by simp) (by simp) ?_
 have hz:∀ N∈vF,okZ N=true:=fun N hN=>by
  obtain ⟨i,hi,rfl⟩:=List.getElem_of_mem hN
  exact Jw i hi
 have hP:∀ N∈vF,∀ x∈N.P,wI x:=fun N hN x hx=>(PT N hN x hx).1
 have kE:=s6 (Ct (T:=vF) hP (by decide) hz (by rw[PS]; decide)) (Mv (X9 (m:=.full) rfl))
 rw[PS] at kE
 have kD:=Lg (l:=[3,2,0,1,2,3,3]) (by decide)
 rw[Fy,F2.2,F2.1] at kD
 have kD0:ze Tryz.prog xV [.val (.string ⟨#[0]⟩)] _:=Lg (l:=[0]) (by decide)
 rw[Fy,Fx.2,Fx.1] at kD0
 have kc1:=s6 (dv (P:=P9) (T:=[N9]) (value:=9) (by decide) agL (by decide) (by decide) (by decide)) (Mw AV.imp.refl AV.imp.refl CQ)
 have kc2:=s6 (dv (P:=P9) (T:=[N9]) (value:=8) (by decide) agL (by decide) (by decide) (by decide)) (Mw AV.imp.refl AV.imp.refl CQ)
 have kc3:=s6 (dv (P:=P9) (T:=[]) (value:=9) (by decide) (fun N hN=>by cases hN) (by decide) (by decide) (by decide)) (Mw AV.imp.refl AV.imp.refl (AV.imp_nil (sz:=0) rfl))
 have kc4:=fun {m:Am.Mode} (hm:stm m=m)=>s6 (dv (P:=P9) (T:=vF.take 2) (value:=9) (by decide) (fun N hN=>PT N (List.mem_of_mem_take hN)) (by decide) (by decide) (by decide)) (Mw AV.imp.refl AV.imp.refl (abd hm))
 rw[agq] at kc1
 rw[agp] at kc2
 rw[aar] at kc3
 rw[aas] at kc4
 have kl:=s6 (L2 (T:=vF) hP (by decide)) (Mv (X9 (m:=.full) rfl))
 rw[DA] at kl
 have kd:=s6 (QB (T:=vF) hP (by decide)) (Mv (X9 (m:=.full) rfl))
 rw[AY] at kd
 have kd1:=fun {m:Am.Mode} (hm:stm m=m)=>s6 (QB (T:=vF.drop 1) (fun N hN=>hP N (List.mem_of_mem_drop hN)) (by decide)) (Mv (abc hm))
 rw[agx] at kd1
 have ks:=s6 (B4 (T:=vF) (by decide) (fun N hN=>⟨by simp only[vF,List.mem_cons,List.not_mem_nil,or_false] at hN; rcases hN with rfl | rfl | rfl<;>decide,hP N hN⟩)) (adq AV.imp.refl (X9 (m:=.full) rfl))
 simp
 refine za kE (by simp) (by simp) ?_
 simp
 refine za kD (by simp) (by simp) ?_
 simp
 refine za kD0 (by simp) (by simp) ?_
 simp
 refine za kc1 (by simp) (by simp) ?_
 simp
 refine za kc2 (by simp) (by simp) ?_
 simp
 refine za kc3 (by simp) (by simp) ?_
 simp
 refine za (kc4 (m:=.plain) rfl) (by simp) (by simp) ?_
 simp
 refine za kl (by simp) (by simp) ?_
 simp
 refine za kd (by simp) (by simp) ?_
 simp
 refine za (kd1 (m:=.plain) rfl) (by simp) (by simp) ?_
 have hstr:str [3,2,0,1,2,3,3]=⟨#[3,2,0,1,2,3,3]⟩:=rfl
 simp[hstr]
 refine za ks (by simp) (by simp) ?_
 simp[Yd]
abbrev tyB:Ty:=.arr 6 (.int .i64)
abbrev DC:Ty:=.st [.int .i64,tyB,.int .i64]
abbrev ahI:Ty:=.st [tyB,tyB,tyB,.slice (.int .i64),.slice DC]
theorem SI {cs:List AV} (h:TyC tyB cs):∃ w:Nat→Int,cs=bC w:=by
 obtain ⟨rows,rfl,hl,h⟩:=h
 obtain ⟨L,rfl,_⟩:=mL (fun n:Int=>[iv n]) (fun _=>True) (fun r hr=>by
  obtain ⟨n,rfl,_⟩:=hr
  exact ⟨n,rfl,trivial⟩) h
 refine ⟨fun k=>L.getD k 0,?_⟩
 match L,hl with
 | [a,b,c,d,e,f],_=>rw[tn]; rfl
theorem abH {cs:List AV} (h:TyC DC cs):∃ o:Of,cs=oC o:=by
 obtain ⟨a1,b1,rfl,⟨n,rfl,_⟩,a2,b2,rfl,h2,a3,b3,rfl,⟨v,rfl,_⟩,rfl⟩:=h
 obtain ⟨w,rfl⟩:=SI h2
 exact ⟨⟨n,w,v⟩,by rw[pc,tn]; rfl⟩
theorem aew {cs:List AV} (h:TyC (.slice (.int .i64)) cs):∃ l:List Int,cs=[clA l]∧l.length≤reachBytes:=by
 obtain ⟨rows,rfl,hl,h⟩:=h
 obtain ⟨L,rfl,h2⟩:=mL (fun d:Int=>[iv d]) (fun _=>True) (fun r hr=>by
  obtain ⟨n,rfl,_⟩:=hr
  exact ⟨n,rfl,trivial⟩) h
 exact ⟨L,rfl,by simpa using hl⟩
theorem aeT {cs:List AV} (h:TyC (.slice DC) cs):∃ L:List Of,cs=[ofA L]∧L.length≤reachBytes:=by
 obtain ⟨rows,rfl,hl,h⟩:=h
 obtain ⟨L,rfl,h2⟩:=mL oC (fun _=>True) (fun r hr=>by
  obtain ⟨o,rfl⟩:=abH hr
  exact ⟨o,rfl,trivial⟩) h
 exact ⟨L,rfl,by simpa using hl⟩
theorem ae6 {x:AV} (h:jc ahI x):∃ P:Pb,x=.agg (pbC P)∧P.cl.length≤reachBytes∧P.of.length≤reachBytes:=by
 obtain ⟨cs,rfl,a1,b1,rfl,h1,a2,b2,rfl,h2,a3,b3,rfl,h3,a4,b4,rfl,h4,a5,b5,rfl,h5,rfl⟩:=h
 obtain ⟨s,rfl⟩:=SI h1
 obtain ⟨p,rfl⟩:=SI h2
 obtain ⟨c,rfl⟩:=SI h3
 obtain ⟨l,rfl,hl⟩:=aew h4
 obtain ⟨L,rfl,hL⟩:=aeT h5
 refine ⟨⟨s,p,c,l,L⟩,?_,hl,hL⟩
 congr 1
 unfold pbC pbX
 simp
theorem ag1 {x:AV} {k:IntKind} (h:jc (.int k) x):∃ n:Int,x=.val (.int k n)∧(Lit.int k n).wf=true:=by
 obtain ⟨n,h1,h2⟩:=h
 simp only[List.cons.injEq,and_true] at h1
 exact ⟨n,h1,h2⟩
end Go.Proofs.YtpnliopaifpimaaGreat

set_option maxRecDepth 20000

set_option maxRecDepth 20000

set_option maxRecDepth 20000

set_option maxRecDepth 20000

set_option maxRecDepth 20000
namespace Go.Proofs.YtpnliopaifpimaaGreat
open Go Go.Am Go.Wr Go.Dig Go.Tr Go.LP Go.Pb
theorem anh {P:Pb} {value:Int} {T:List Nz} (h:gE P value T=0):P.chk=0∧yx (ntZ T)∧Zl P T T.length∧YI P value T T.length:=by
 unfold gE at h
 by_cases h1:P.chk=0
 ·rw[if_neg (by simp[h1])] at h
  split at h
  ·cases h
  ·split at h
   ·cases h
   ·split at h
    ·cases h
    ·rename_i hb
     have hb':vw T=true:=by
      cases e:vw T with
      | true=>rfl
      | false=>exact absurd e hb
     have hl:Zl P T T.length:=by
      apply Classical.byContradiction
      intro hn
      rw[Fm hn] at h
      cases h
     rw[QR hl] at h
     have hc:YI P value T T.length:=by
      apply Classical.byContradiction
      intro hn
      rw[QI hn] at h
      cases h
     exact ⟨h1,vx.1 hb',hl,hc⟩
 ·rw[if_pos h1] at h
  exact absurd h h1
end Go.Proofs.YtpnliopaifpimaaGreat

set_option maxRecDepth 20000
namespace Go.Proofs.YtpnliopaifpimaaGreat
open Go Go.Am Go.Wr Go.Dig Go.Tr Go.LP Go.Pb
theorem aoh {P:Pb} {fx:List Int} {Y:Nat→RF} {m:Nat} (he:fpE P fx Y m=0):P.rows=m∧cb Y m∧okF fx:=by
 have hc0:P.fixE fx=0:=by
  unfold fpE at he
  split at he
  ·rename_i h; exact absurd he h
  ·rename_i h; exact Decidable.not_not.1 h
 obtain ⟨_,_,ho⟩:=YQ hc0
 unfold fpE at he
 rw[if_neg fun h=>h hc0] at he
 split at he
 ·cases he
 ·rename_i h; exact ⟨(Decidable.not_not.1 h).symm,aa7 he,ho⟩
theorem aoj {Y:Nat→RF} {m r:Nat} (hg:cb Y m) (hr:r<m):0≤(Y r).q:=by
 have h:=ajm (hg r hr).1
 rw[(hg r hr).2] at h
 have:¬ (Y r).q<0:=of_decide_eq_false h.symm
 grind
theorem ane {P:Pb} {L:List Nat}:P.pick (ints L)=L.map fun i:Nat=>P.at (i:Int):=by
 unfold Pb.pick ints
 rw[List.map_map]
 rfl
def am8 (P:Pb) (L:List Nat):Int:=((L.map fun i:Nat=>P.at (i:Int)).map fun o=>o.v).sum
theorem an5 {P:Pb} {A L:List Nat} (hG:P.Good) (hA:A.Nodup) (hL:L.Nodup) (ha:∀ j∈A,j<P.of.length) (hl:∀ j∈L,j<P.of.length) (hs:∀ j∈A,j∈L) (h:P.fits (L.map fun i:Nat=>P.at (i:Int))):P.fits (A.map fun i:Nat=>P.at (i:Int)):=fun r hr=>by
 have h1:=h r hr
 rw[List.map_map] at h1 ⊢
 have e1:=QN (g:=fun i=>P.coef r (P.at (i:Int))) hL hl
 have e2:=QN (g:=fun i=>P.coef r (P.at (i:Int))) hA ha
 have h2:zu P.of.length (fun i=>((P.coef r (P.at (i:Int)):Int):Rat)*gH A i)≤zu P.of.length (fun i=>((P.coef r (P.at (i:Int)):Int):Rat)*gH L i):=af fun i hi=>by
  have hc:=(agu hG hi hr).1
  unfold Pb.cof at hc
  unfold gH
  by_cases ea:i∈A
  ·rw[if_pos ea,if_pos (hs i ea)]; exact Rat.le_refl
  ·rw[if_neg ea]
   split
   ·rw[Rat.mul_zero,Rat.mul_one]; exact hc
   ·exact Rat.le_refl
 rw[e1,e2] at h2
 have h3:(A.map (P.coef r∘fun i:Nat=>P.at (i:Int))).sum≤(L.map (P.coef r∘fun i:Nat=>P.at (i:Int))).sum:=by exact_mod_cast h2
 omega
theorem ank {P:Pb} {T:List Nz} {i x:Nat} (h:x<P.of.length):(fxL P T i).getD x 9=fx (ntZ T) P.of.length i x:=by
 unfold fxL
 simp[h]
theorem aon {fl:List Int} {v:Int} {k:Nat}:(Go.Pb.numK fl v k).Pairwise (·<·):=List.Pairwise.sublist List.filter_sublist List.pairwise_lt_range
theorem ano {P:Pb} {value:Int} {T:List Nz} {L:List Nat} (h:gE P value T=0) (hL:L.Pairwise (·<·)) (hlt:∀ j∈L,j<P.of.length) (hfit:P.fits (L.map fun i:Nat=>P.at (i:Int))):am8 P L≤value:=by
 obtain ⟨hc,hTr,_,hcor⟩:=anh h
 have hG:=vR hc
 obtain ⟨k,hk,hk2,w1,w2⟩:=way (n:=P.of.length) hTr (fun x=>x∈L) (fun i hi hK=>by
  have hz:okZ T[i]=true:=(RD hi).1 (hTr.ok i hi)
  have h1:=hcor i hi hi
  rw[Zr hi] at hK
  have hO:=adv hz hK
  unfold jm at h1
  rw[if_pos hK] at h1
  unfold brB at h1
  simp only[Bool.and_eq_true,decide_eq_true_eq,akW] at h1
  rw[abD hi]
  refine ⟨hO.1,h1.1,?_⟩
  rw[← ank (by omega)]
  exact h1.2) (ntZ T).m 0 hTr.one (by omega) (fun x hx=>by rw[akX] at hx; cases hx) (fun x hx=>by rw[akX] at hx; cases hx)
 have hz:okZ T[k]=true:=(RD hk).1 (hTr.ok k hk)
 have h1:=hcor k hk hk
 rw[Zr hk] at hk2
 generalize T[k]=N at *
 have hfl:∀ x,x<P.of.length→(fxL P T k).getD x 9=fx (ntZ T) P.of.length k x:=fun x hx=>ank hx
 have hlen:(fxL P T k).length=P.of.length:=akW
 generalize fxL P T k=fl at *
 unfold jm at h1
 rw[if_neg hk2] at h1
 have hone:∀ i,i<P.of.length→fl.getD i 9=1→i∈L:=fun i hi e=>w1 i (by rw[← hfl i hi]; exact e)
 rcases Ks hz with k1 | k2 | k3
 ·rw[if_neg (by omega)] at h1
  unfold bdB at h1
  simp only[Bool.and_eq_true,decide_eq_true_eq] at h1
  obtain ⟨a1,a2⟩:=h1
  obtain ⟨g1,g2,g3⟩:=aoh a1
  have hcomp:P.Comp fl fl.length L:=⟨hL,fun j hj=>by rw[hlen]; exact hlt j hj,fun i hi e=>hone i (by omega) e,fun i hi e=>w2 i (by rw[← hfl i (hlt i hi)]; exact e) hi,hfit⟩
  have hsol:=akd (fun i hi=>g3 i hi) hcomp
  have hw:=alb hG hlen hsol (y:=fun r=>(yZ N r).q) fun r hr=>aoj g2 (by omega)
  rw[ake hcomp] at hw
  have hlt2:((am8 P L:Int):Rat)<(value:Rat)+1:=by
   have e:P.fpQ fl (fun r=>(yZ N r).q)=bdZ P fl N:=rfl
   rw[e] at hw
   show ((((L.map fun i:Nat=>P.at (i:Int)).map fun o=>o.v).sum:Int):Rat)<_
   grind
  have:am8 P L<value+1:=by exact_mod_cast hlt2
  omega
 ·exact absurd k2 hk2
 ·rw[if_pos k3] at h1
  unfold cfB at h1
  simp only[decide_eq_true_eq] at h1
  refine absurd ?_ h1
  unfold Pb.feaE
  have hA:∀ j∈Go.Pb.numK fl 1 fl.length,j<P.of.length:=fun j hj=>by have:=(Go.Pb.numK_mem hj).1; omega
  rw[if_neg (by simp[hc]),if_neg (fun hn=>hn (akD aon hA)),ane,if_pos]
  exact an5 hG Go.Pb.numK_nodup (hL.imp fun h=>Nat.ne_of_lt h) hA hlt (fun j hj=>by
   have:=Go.Pb.numK_mem hj
   exact hone j (by omega) this.2) hfit
def mb (m:Int) (b:Nat):Bool:=(BitVec.ofInt 64 m).getLsbD b
theorem aoJ (m:Int) (b:Nat) (h1:-9223372036854775808≤m) (h2:m<9223372036854775808) (hb:b<64):sX .and .i64 (m.fdiv (2^b)) 1=if mb m b then 1 else 0:=by
 have hx:(BitVec.ofInt 64 m).toInt=m:=by
  rw[BitVec.toInt_ofInt,Int.bmod_eq_of_le]<;>omega
 have hs:BitVec.ofInt 64 (m.fdiv (2^b))=(BitVec.ofInt 64 m).sshiftRight b:=by
  apply BitVec.eq_of_toInt_eq
  rw[BitVec.toInt_sshiftRight,hx,← hx]
  conv=>rhs; rw[← BitVec.toInt_sshiftRight,← BitVec.ofInt_toInt (x:=(BitVec.ofInt 64 m).sshiftRight b),BitVec.toInt_sshiftRight]
  rw[Int.shiftRight_eq_div_pow,Int.fdiv_eq_ediv_of_nonneg _ (Int.le_of_lt (Int.pow_pos (by decide)))]
  rfl
 have hbits:IntKind.i64.bits=64:=rfl
 simp only[sX]
 rw[hbits,hs]
 have hg:(BitVec.ofInt 64 m).getLsbD b=((BitVec.ofInt 64 m).sshiftRight b).getLsbD 0:=by
  rw[BitVec.getLsbD_sshiftRight]
  simp[hb]
 unfold mb
 rw[hg]
 generalize (BitVec.ofInt 64 m).sshiftRight b=y
 have e1:(y &&& BitVec.ofInt 64 1).toNat=y.toNat%2:=by
  rw[BitVec.toNat_and]
  have:(BitVec.ofInt 64 1).toNat=1:=by decide
  rw[this,Nat.and_one_is_mod]
 rw[e1]
 have e2:y.getLsbD 0=decide (y.toNat%2=1):=by
  rw[BitVec.getLsbD,Nat.testBit_zero]
 rw[e2]
 by_cases h:y.toNat%2=1
 ·rw[h]; simp; rw[wrap64]<;>omega
 ·have:y.toNat%2=0:=by omega
  rw[this]; simp; rw[wrap64]<;>omega
theorem aoI (n i:Nat) (hi:i<64):mb (n:Int) i=n.testBit i:=by
 unfold mb
 rw[BitVec.ofInt_natCast,BitVec.getLsbD_ofNat]
 simp[hi]
end Go.Proofs.YtpnliopaifpimaaGreat

set_option maxRecDepth 20000
namespace Go.Proofs.YtpnliopaifpimaaGreat
open Go Go.Am Go.Wr Go.Dig Go.Tr Go.LP Go.Pb
def u0 (k s:Nat):List Nat:=(List.range k).filter fun i=>s.testBit i
theorem anJ {k s:Nat}:u0 (k+1) s=if s.testBit k=true then u0 k s++[k] else u0 k s:=by
 unfold u0
 rw[List.range_succ,List.filter_append]
 by_cases h:s.testBit k=true
 ·rw[if_pos h]; simp[h]
 ·rw[if_neg h]; simp[h]
theorem anf {k s:Nat}:(u0 k s).length≤k:=by
 have:=List.length_filter_le (fun i=>s.testBit i) (List.range k)
 unfold u0
 simpa using this
theorem aod {k s:Nat}:(u0 k s).Pairwise (·<·):=List.Pairwise.sublist List.filter_sublist List.pairwise_lt_range
theorem an0 {k s:Nat}:∀ j∈u0 k s,j<k:=fun j hj=>by
 have:=(List.mem_filter.1 hj).1
 simpa using this
def bvS (P:Pb):Nat→Int
 | 0=>0
 | s+1=>if bvS P s<P.valE (ints (u0 P.of.length s))∧P.feaE (ints (u0 P.of.length s))=0 then P.valE (ints (u0 P.of.length s)) else bvS P s
theorem aoq:∀ n:Nat,n≤10→IntKind.i64.wrap ((2:Int)^(min n 64))=((2^n:Nat):Int)∧2^n≤1024∧1≤2^n:=by decide +kernel
theorem nn4 {n:Nat}:¬ (n:Int)<0:=by omega
noncomputable def anE (P:Pb) (N s:Nat):St:={env:=[(1,.ptr 1 0),(3,iv (bvS P s)),(11,iv N),(12,iv s)],sto:=[(1,.var (pbC P))]}
noncomputable def anF (P:Pb) (N s k:Nat):St:={env:=[(1,.ptr 1 0),(3,iv (bvS P s)),(11,iv N),(12,iv s),(4,iv s),(5,apc 29 1 (clR (ints (u0 k s)))),(17,iv P.of.length),(18,iv k)],sto:=[(1,.var (pbC P))]}
theorem aor {P:Pb} (hc:P.chk=0) (hk:P.of.length≤10):ze Tryz.prog Yj [.agg (pbC P)] (iv (bvS P (2^P.of.length))):=by
 have hG:=vR hc
 obtain ⟨p1,p2,p3⟩:=aoq _ hk
 have h64:IntKind.i64.bits=64:=rfl
 refine zn ahG (by simp) ?_
 simp[M0,xY nn4,h64,p1]
 generalize hN:2^P.of.length=N at *
 have hN':(2:Int)^P.of.length=(N:Int):=by exact_mod_cast hN
 refine yl (anE P N) N (by simp[anE,bvS,hN']) (fun s hs=>?_) ?_
 ·have w1:=zm (k:=s) (by omega)
  have hs2:(s:Int)<N:=by omega
  have hbit:∀ k,k<10→sX .and .i64 ((s:Int).fdiv (2^k)) 1=if s.testBit k then 1 else 0:=fun k hk=>by
   rw[aoJ (s:Int) k (by omega) (by omega) (by omega),aoI s k (by omega)]
  have hv:=akJ (P:=P) (ch:=ints (u0 P.of.length s)) (by have:=hG.n; omega) (by have:=hG.k; omega) (by rw[lC]; have:=anf (k:=P.of.length) (s:=s); omega)
  have hf:=Gb (P:=P) (ch:=ints (u0 P.of.length s)) (by have:=hG.n; omega) (by have:=hG.k; omega) (by rw[lC]; have:=anf (k:=P.of.length) (s:=s); omega)
  simp[SQ,anE,hs2]
  refine yl (anF P N s) P.of.length (by simp[anF,u0,ints,clR,apc]) (fun k hk2=>?_) ?_
  ·have w2:=zm (k:=k) (by omega)
   have hk3:(k:Int)<P.of.length:=by omega
   have hb:=hbit k (by omega)
   have hmin:min k 64=k:=by omega
   have hl:=anf (k:=k) (s:=s)
   cases hx:s.testBit k with
   | true =>
    have hr:clR (ints (u0 k s))++[[iv k]]=clR (ints (u0 (k+1) s)):=by rw[anJ,if_pos hx]; simp[ints,clR]
    rw[hx] at hb
    simp at hb
    simp[SP,anF,hk3,wG nn4,h64,hmin,hb]
    refine p9 (by decide) rfl ?_ ?_ (by simp) ?_
    ·simp only[lm,lC]; omega
    ·simp only[lm,lC]; omega
    ·rw[hr]
     simp[w2,anF]
   | false =>
    have hr:u0 k s=u0 (k+1) s:=by rw[anJ,if_neg (by rw[hx]; decide)]
    rw[hx] at hb
    simp at hb
    simp[SP,anF,hk3,wG nn4,h64,hmin,hb,w2,hr]
  ·have e1:bvS P (s+1)=if bvS P s<P.valE (ints (u0 P.of.length s))∧P.feaE (ints (u0 P.of.length s))=0 then P.valE (ints (u0 P.of.length s)) else bvS P s:=rfl
   have hst:anE P N (s+1)={env:=[(1,.ptr 1 0),(3,iv (if bvS P s<P.valE (ints (u0 P.of.length s))∧P.feaE (ints (u0 P.of.length s))=0 then P.valE (ints (u0 P.of.length s)) else bvS P s)),(11,iv N),(12,iv ((s:Int)+1))],sto:=[(1,.var (pbC P))]}:=by rw[anE,e1]; rfl
   rw[anF]
   generalize P.valE (ints (u0 P.of.length s))=v at *
   generalize P.feaE (ints (u0 P.of.length s))=e at *
   generalize bvS P s=b at *
   simp[SP,SM]
   refine za (LU hv (fJ lA)) (by simp) (by simp) ?_
   by_cases c1:b<v
   ·simp[c1]
    refine za (LU hf (fJ lA)) (by simp) (by simp) ?_
    by_cases c2:e=0
    ·simp[c1,c2] at hst
     simp[c2,SN,w1,hst]
    ·simp[c1,c2] at hst
     simp[c2,SN,w1,hst]
   ·simp[c1] at hst
    simp[c1,SN,w1,hst]
 ·simp[SQ,anE,SO,KE]
end Go.Proofs.YtpnliopaifpimaaGreat

set_option maxRecDepth 20000
namespace Go.Proofs.YtpnliopaifpimaaGreat
open Go Go.Am Go.Wr Go.Dig Go.Tr Go.LP Go.Pb
theorem anr {P:Pb} {L:List Nat} (hc:P.chk=0) (h:P.feaE (ints L)=0):P.fits (L.map fun i:Nat=>P.at (i:Int))∧P.valE (ints L)=am8 P L:=by
 unfold Pb.feaE at h
 rw[if_neg (by simp[hc])] at h
 split at h
 ·cases h
 ·rename_i h1
  have h1:=Decidable.not_not.1 h1
  split at h
  ·rename_i h2
   rw[ane] at h2
   refine ⟨h2,?_⟩
   unfold Pb.valE am8
   rw[if_pos ⟨h1,hc⟩,ane]
  ·cases h
theorem anZ {P:Pb} (hG:P.Good):P.fits []:=fun r hr=>by
 exact (Yt hG hr).1
theorem anX {P:Pb} {value:Int} {T:List Nz} (h:gE P value T=0):∀ s,bvS P s≤value
 | 0=>by
  have hc:=(anh h).1
  exact ano (L:=[]) h List.Pairwise.nil (fun j hj=>by cases hj) (anZ (vR hc))
 | s+1=>by
  have ih:=anX h s
  have hc:=(anh h).1
  unfold bvS
  split
  ·rename_i h1
   obtain ⟨a,b⟩:=anr hc h1.2
   rw[b]
   exact ano h aod an0 a
  ·exact ih
end Go.Proofs.YtpnliopaifpimaaGreat

set_option maxRecDepth 20000
namespace Go.Proofs.YtpnliopaifpimaaGreat
open Go Go.Am Go.Wr Go.Dig Go.Tr Go.LP Go.Pb
def ke:Fr:=(false,[],[1])
def sN:Nat→Nat
 | 0=>1
 | d+1=>sN d+sN d+1
def f6 (P:Pb) (fx:List Int):Nz:=if P.feaE (ints (Go.Pb.numK fx 1 fx.length))≠0 then ⟨3,0,0,0,[]⟩ else ⟨1,0,0,0,List.replicate P.rows ke⟩
def A2 (k a d:Nat):Nz:=⟨2,(k:Nat),(a+1:Nat),(a+1+sN d:Nat),[]⟩
def ky (P:Pb):Nat→List Int→Nat→List Nz
 | 0,fx,_=>[f6 P fx]
 | d+1,fx,a=>A2 fx.length a d::(ky P d (fx++[-1]) (a+1)++ky P d (fx++[1]) (a+1+sN d))
theorem amJ {P:Pb}:∀ {d:Nat} {fx:List Int} {a:Nat},(ky P d fx a).length=sN d
 | 0,_,_=>rfl
 | d+1,fx,a=>by simp[ky,amJ,sN]
theorem am6:∀ d,1≤sN d
 | 0=>Nat.le_refl _
 | d+1=>by unfold sN; omega
def anl (P:Pb) (d:Nat) (fx:List Int) (a:Nat):Nz:=match d with
 | 0=>f6 P fx
 | d+1=>A2 fx.length a d
theorem aof {P:Pb} {d:Nat} {fx:List Int} {a:Nat}:∃ l,ky P d fx a=anl P d fx a::l:=by
 cases d with
 | zero=>exact ⟨[],rfl⟩
 | succ d=>exact ⟨_,rfl⟩
def At (P:Pb) (T:List Nz) (d:Nat) (fx:List Int) (i:Nat):Prop:=∃ A C,T=A++(ky P d fx i++C)∧A.length=i
theorem amU {P:Pb} {T:List Nz} {d i:Nat} {fx:List Int} (h:At P T d fx i):i+sN d≤T.length∧∃ hi:i<T.length,T[i]=anl P d fx i:=by
 obtain ⟨A,C,rfl,hA⟩:=h
 obtain ⟨l,hl⟩:=aof (P:=P) (d:=d) (fx:=fx) (a:=i)
 have hlen:=amJ (P:=P) (d:=d) (fx:=fx) (a:=i)
 have h1:=am6 d
 have e:i+sN d≤(A++(ky P d fx i++C)).length:=by simp only[List.length_append,hlen]; omega
 refine ⟨e,by omega,?_⟩
 simp only[hl]
 rw[List.getElem_append_right (by omega)]
 simp[hA]
theorem anW {P:Pb} {T:List Nz} {d i:Nat} {fx:List Int} (h:At P T (d+1) fx i):At P T d (fx++[-1]) (i+1)∧At P T d (fx++[1]) (i+1+sN d):=by
 obtain ⟨A,C,rfl,hA⟩:=h
 refine ⟨⟨A++[A2 fx.length i d],ky P d (fx++[1]) (i+1+sN d)++C,?_,by simp[hA]⟩,⟨A++A2 fx.length i d::ky P d (fx++[-1]) (i+1),C,?_,?_⟩⟩
 ·simp[ky]
 ·simp[ky]
 ·simp[hA,amJ]; omega
theorem ang {P:Pb} {T:List Nz} {Q:Nat→List Int→Nat→Prop} (step:∀ d fx i,At P T (d+1) fx i→Q (d+1) fx i→Q d (fx++[-1]) (i+1)∧Q d (fx++[1]) (i+1+sN d)) :
  ∀ d fx i,At P T d fx i→Q d fx i→∀ k,i≤k→k<i+sN d→∃ d' fx',At P T d' fx' k∧Q d' fx' k
 | 0,fx,i,h,hQ,k,h1,h2=>by
  have:k=i:=by unfold sN at h2; omega
  subst this
  exact ⟨0,fx,h,hQ⟩
 | d+1,fx,i,h,hQ,k,h1,h2=>by
  obtain ⟨q1,q2⟩:=step d fx i h hQ
  obtain ⟨a1,a2⟩:=anW h
  by_cases e:k=i
  ·subst e; exact ⟨d+1,fx,h,hQ⟩
  ·by_cases e2:k<i+1+sN d
   ·exact ang step d _ _ a1 q1 k (by omega) e2
   ·exact ang step d _ _ a2 q2 k (by omega) (by unfold sN at h2; omega)
def ana (N:Nz) (j:Nat):Nat:=if N.K=2 then (if N.U=j then 1 else 0)+(if N.I=j then 1 else 0) else 0
theorem aoO {T:List Nz} {k j:Nat} (h:k<T.length):kid (ntZ T) k j=ana T[k] j:=by unfold kid ana; rw[Zr h,Y3 h,TW h]
theorem aoo {T:List Nz} {j:Nat}:∀ k,k≤T.length→cnt (ntZ T) k j=((T.take k).map fun N=>ana N j).sum
 | 0,_=>by simp[cnt]
 | k+1,h=>by
  have ih:=aoo (T:=T) (j:=j) k (by omega)
  show cnt (ntZ T) k j+kid (ntZ T) k j=_
  rw[ih,aoO (by omega),List.take_succ_eq_append_getElem (by omega),List.map_append,List.sum_append]
  rfl
theorem aol {P:Pb} {fx:List Int} {j:Nat}:ana (f6 P fx) j=0:=by
 unfold f6 ana
 split
 ·exact if_neg (by decide)
 ·exact if_neg (show ¬ (1:Int)=2 by decide)
theorem anx {P:Pb} {j:Nat}:∀ d fx a,((ky P d fx a).map fun N=>ana N j).sum=if a<j∧j<a+sN d then 1 else 0
 | 0,fx,a=>by
  rw[if_neg (by unfold sN; omega)]
  simp[ky,aol]
 | d+1,fx,a=>by
  have i1:=anx (P:=P) (j:=j) d (fx++[-1]) (a+1)
  have i2:=anx (P:=P) (j:=j) d (fx++[1]) (a+1+sN d)
  have hp:=am6 d
  have hb:ana (A2 fx.length a d) j=(if a+1=j then 1 else 0)+(if a+1+sN d=j then 1 else 0):=by
   unfold ana A2
   simp only[if_true]
   congr 1
   ·by_cases e:a+1=j
    ·rw[if_pos (by omega),if_pos e]
    ·rw[if_neg (by omega),if_neg e]
   ·by_cases e:a+1+sN d=j
    ·rw[if_pos (by omega),if_pos e]
    ·rw[if_neg (by omega),if_neg e]
  simp only[ky,List.map_cons,List.map_append,List.sum_cons,List.sum_append]
  rw[i1,i2,hb]
  show _=if a<j∧j<a+(sN d+sN d+1) then 1 else 0
  by_cases e1:a+1=j
  ·rw[if_pos e1,if_neg (by omega),if_neg (by omega),if_neg (by omega),if_pos (by omega)]
  ·rw[if_neg e1]
   by_cases e2:a+1+sN d=j
   ·rw[if_pos e2,if_neg (by omega),if_neg (by omega),if_pos (by omega)]
   ·rw[if_neg e2]
    by_cases e3:a+1<j∧j<a+1+sN d
    ·rw[if_pos e3,if_neg (by omega),if_pos (by omega)]
    ·rw[if_neg e3]
     by_cases e4:a+1+sN d<j∧j<a+1+sN d+sN d
     ·rw[if_pos e4,if_pos (by omega)]
     ·rw[if_neg e4,if_neg (by omega)]
def wl (P:Pb):List Nz:=ky P P.of.length [] 0
theorem anj {P:Pb}:At P (wl P) P.of.length [] 0:=⟨[],[],by simp[wl],rfl⟩
theorem am5 {P:Pb}:(wl P).length=sN P.of.length:=amJ
theorem anw:∀ n,n≤6→sN n≤127:=by decide
theorem amZ {P:Pb}:∀ k,k<(wl P).length→∃ d fx,At P (wl P) d fx k∧fx.length+d=P.of.length:=fun k hk=>by
 obtain ⟨d,fx,h1,h2⟩:=ang (P:=P) (T:=wl P) (Q:=fun d fx _=>fx.length+d=P.of.length) (fun d fx i _ h=>⟨by simp; omega,by simp; omega⟩) P.of.length [] 0 anj (by simp) k (Nat.zero_le _) (by rw[am5] at hk; omega)
 exact ⟨d,fx,h1,h2⟩
theorem aoR:vFr ke=true:=by decide +kernel
theorem aow {P:Pb} {d i:Nat} {fx:List Int} (hG:P.Good) (h1:fx.length≤6) (h2:i+sN d≤127):okZ (anl P d fx i)=true:=by
 cases d with
 | zero =>
  show okZ (f6 P fx)=true
  unfold f6
  split
  ·rfl
  ·unfold okZ
   have hr:P.rows≤20:=by have:=hG.n; unfold Pb.rows; omega
   have:(List.replicate P.rows ke).all vFr=true:=List.all_eq_true.2 fun x hx=>by rw[(List.mem_replicate.1 hx).2]; exact aoR
   simp only[if_true,this,List.length_replicate]
   rw[decide_eq_true (show P.rows≤40 by omega)]
   rfl
 | succ d =>
  show okZ (A2 fx.length i d)=true
  unfold okZ A2
  unfold sN at h2
  rw[if_neg (show ¬ (2:Int)=1 by decide),if_pos rfl,anQ (by omega),anQ (by omega),anQ (by omega)]
  rfl
theorem amX {P:Pb} (hG:P.Good) (hn:P.of.length≤6):yx (ntZ (wl P)):=by
 have hl:=am5 (P:=P)
 have hs:=anw _ hn
 have hp:=am6 P.of.length
 refine F1 (by omega) (by omega) (fun i hi=>?_) (fun i hi hK=>?_) (fun j h1 h2=>?_)
 ·obtain ⟨d,fx,h,hd⟩:=amZ i hi
  obtain ⟨a,_,b⟩:=amU h
  rw[b]
  exact aow hG (by omega) (by omega)
 ·obtain ⟨d,fx,h,hd⟩:=amZ i hi
  obtain ⟨a,_,b⟩:=amU h
  rw[b] at hK ⊢
  cases d with
  | zero =>
   exfalso
   revert hK
   show ¬ (f6 P fx).K=2
   unfold f6
   split
   ·decide
   ·show ¬ (1:Int)=2
    decide
  | succ d =>
   show (i:Int)<((i+1:Nat):Int)∧((i+1:Nat):Int)<_∧(i:Int)<((i+1+sN d:Nat):Int)∧((i+1+sN d:Nat):Int)<_∧((i+1:Nat):Int)≠((i+1+sN d:Nat):Int)
   have:=am6 d
   unfold sN at a
   refine ⟨by omega,by omega,by omega,by omega,by omega⟩
 ·rw[aoo _ (Nat.le_refl _),List.take_length]
  have:=anx (P:=P) (j:=j) P.of.length [] 0
  show ((ky P P.of.length [] 0).map fun N=>ana N j).sum=1
  rw[this,if_pos (by omega)]
end Go.Proofs.YtpnliopaifpimaaGreat

set_option maxRecDepth 20000
namespace Go.Proofs.YtpnliopaifpimaaGreat
open Go Go.Am Go.Wr Go.Dig Go.Tr Go.LP Go.Pb
def anD (N:Nz):Nat:=if N.K=2 then 0 else 1
theorem aop {T:List Nz}:∀ k,k≤T.length→lvs (ntZ T) k=((T.take k).map anD).sum
 | 0,_=>by simp[lvs]
 | k+1,h=>by
  have ih:=aop (T:=T) k (by omega)
  rw[List.take_succ_eq_append_getElem (by omega),List.map_append,List.sum_append,← ih]
  unfold anD
  by_cases e:T[k].K=2
  ·rw[Fu (by omega) e]; simp[e]
  ·rw[Ft (by omega) e]; simp[e]
theorem aoH {P:Pb} {fx:List Int}:(f6 P fx).K=1∨(f6 P fx).K=3:=by
 unfold f6
 split
 ·exact .inr rfl
 ·exact .inl rfl
theorem anG {P:Pb}:∀ d fx a,((ky P d fx a).map anD).sum=2^d
 | 0,fx,a=>by
  have h:anD (f6 P fx)=1:=by unfold anD; exact if_neg (by have:=aoH (P:=P) (fx:=fx); omega)
  simp[ky,h]
 | d+1,fx,a=>by
  have i1:=anG (P:=P) d (fx++[-1]) (a+1)
  have i2:=anG (P:=P) d (fx++[1]) (a+1+sN d)
  have h:anD (A2 fx.length a d)=0:=if_pos rfl
  simp only[ky,List.map_cons,List.map_append,List.sum_cons,List.sum_append]
  rw[i1,i2,h,Nat.pow_succ]
  omega
theorem an6 {P:Pb} (hG:P.Good) (hn:P.of.length≤6):vw (wl P)=true:=vx.2 (amX hG hn)
theorem anV {P:Pb} (hG:P.Good) (hn:P.of.length≤6):fH (wl P)=2^P.of.length:=by
 unfold fH
 rw[if_pos (an6 hG hn),aop _ (Nat.le_refl _),List.take_length]
 exact anG _ _ _
theorem ann {P:Pb} {T:List Nz} {d i:Nat} {fx:List Int} (h:At P T (d+1) fx i):i<T.length∧(ntZ T).K i=2∧(ntZ T).O i=fx.length∧(ntZ T).U i=(i+1:Nat)∧(ntZ T).I i=(i+1+sN d:Nat)∧kid (ntZ T) i (i+1)≠0∧kid (ntZ T) i (i+1+sN d)≠0:=by
 obtain ⟨a,hi,b⟩:=amU h
 have hK:(ntZ T).K i=2:=by rw[Zr hi,b]; rfl
 have hU:(ntZ T).U i=(i+1:Nat):=by rw[Y3 hi,b]; rfl
 have hI:(ntZ T).I i=(i+1+sN d:Nat):=by rw[TW hi,b]; rfl
 refine ⟨hi,hK,by rw[abD hi,b]; rfl,hU,hI,?_,?_⟩
 ·have:=Mz hK hU; omega
 ·have:=My hK hI; omega
theorem aob {T:Nt} {i:Nat}:∀ k,i<k→dep T i≤mst T k
 | k+1,h=>by
  simp only[mst]
  by_cases e:i=k
  ·subst e; omega
  ·have:=aob (T:=T) k (show i<k by omega)
   omega
theorem aoc {T:Nt} {c:Nat}:∀ k,(∀ i,i<k→dep T i≤c)→mst T k≤c
 | 0,_=>Nat.zero_le _
 | k+1,h=>by
  have h1:=aoc (T:=T) k fun i hi=>h i (by omega)
  have h2:=h k (by omega)
  simp only[mst]
  omega
theorem anH {P:Pb} {T:List Nz} {Q:Nat→List Int→Nat→Prop} (step:∀ d fx i,At P T (d+1) fx i→Q (d+1) fx i→Q d (fx++[-1]) (i+1)):∀ d fx i,At P T d fx i→Q d fx i→∃ fx' k,At P T 0 fx' k∧Q 0 fx' k
 | 0,fx,i,h,hQ=>⟨fx,i,h,hQ⟩
 | d+1,fx,i,h,hQ=>anH step d _ _ (anW h).1 (step d fx i h hQ)
theorem an1 {P:Pb} (hG:P.Good) (hn:P.of.length≤6):ga (wl P)=P.of.length+1:=by
 have hTr:=amX hG hn
 have step:∀ d fx i,At P (wl P) (d+1) fx i→(dep (ntZ (wl P)) i=fx.length+1∧fx.length+(d+1)=P.of.length) →
   (dep (ntZ (wl P)) (i+1)=(fx++[-1]).length+1∧(fx++[-1]).length+d=P.of.length)∧(dep (ntZ (wl P)) (i+1+sN d)=(fx++[1]).length+1∧(fx++[1]).length+d=P.of.length):=fun d fx i h hQ=>by
  obtain ⟨hi,_,_,_,_,k1,k2⟩:=ann h
  have d1:=Cg hTr hi k1
  have d2:=Cg hTr hi k2
  simp
  omega
 have h0:dep (ntZ (wl P)) 0=([]:List Int).length+1∧([]:List Int).length+P.of.length=P.of.length:=⟨rfl,by simp⟩
 unfold ga
 rw[if_pos (an6 hG hn)]
 apply Nat.le_antisymm
 ·refine aoc _ fun k hk=>?_
  obtain ⟨d,fx,_,h2⟩:=ang (P:=P) (T:=wl P) (Q:=fun d fx i=>dep (ntZ (wl P)) i=fx.length+1∧fx.length+d=P.of.length) step P.of.length [] 0 anj h0 k (Nat.zero_le _) (by rw[am5] at hk; omega)
  omega
 ·obtain ⟨fx,k,h1,h2⟩:=anH (P:=P) (T:=wl P) (Q:=fun d fx i=>dep (ntZ (wl P)) i=fx.length+1∧fx.length+d=P.of.length) (fun d fx i h hQ=>(step d fx i h hQ).1) P.of.length [] 0 anj h0
  obtain ⟨_,hk,_⟩:=amU h1
  have:=aob (T:=ntZ (wl P)) (i:=k) _ hk
  omega
end Go.Proofs.YtpnliopaifpimaaGreat

set_option maxRecDepth 20000
namespace Go.Proofs.YtpnliopaifpimaaGreat
open Go Go.Am Go.Wr Go.Dig Go.Tr Go.LP Go.Pb
theorem anY (p:Nat→Bool):∀ n,∃ s,s<2^n∧∀ i,i<n→s.testBit i=p i
 | 0=>⟨0,by decide,fun i hi=>by omega⟩
 | n+1=>by
  obtain ⟨s,h1,h2⟩:=anY p n
  by_cases hp:p n=true
  ·refine ⟨2^n+s,by rw[Nat.pow_succ]; omega,fun i hi=>?_⟩
   by_cases e:i=n
   ·subst e
    rw[Nat.testBit_two_pow_add_eq,Nat.testBit_lt_two_pow h1,hp]
    rfl
   ·rw[Nat.testBit_two_pow_add_gt (by omega)]
    exact h2 i (by omega)
  ·refine ⟨s,by rw[Nat.pow_succ]; omega,fun i hi=>?_⟩
   by_cases e:i=n
   ·subst e
    rw[Nat.testBit_lt_two_pow h1]
    cases hq:p i with
    | true=>exact absurd hq hp
    | false=>rfl
   ·exact h2 i (by omega)
theorem anp {P:Pb} {s:Nat}:∀ d,bvS P s≤bvS P (s+d)
 | 0=>Int.le_refl _
 | d+1=>by
  have ih:=anp (P:=P) (s:=s) d
  show _≤(if bvS P (s+d)<P.valE (ints (u0 P.of.length (s+d)))∧P.feaE (ints (u0 P.of.length (s+d)))=0 then P.valE (ints (u0 P.of.length (s+d))) else bvS P (s+d))
  split<;>omega
theorem aoD {P:Pb} {s N:Nat} (h:s<N) (hf:P.feaE (ints (u0 P.of.length s))=0):P.valE (ints (u0 P.of.length s))≤bvS P N:=by
 obtain ⟨d,rfl⟩:∃ d,N=(s+1)+d:=⟨N-(s+1),by omega⟩
 refine Int.le_trans ?_ (anp d)
 show _≤(if bvS P s<P.valE (ints (u0 P.of.length s))∧P.feaE (ints (u0 P.of.length s))=0 then P.valE (ints (u0 P.of.length s)) else bvS P s)
 split
 ·exact Int.le_refl _
 ·rename_i h
  have:¬ bvS P s<P.valE (ints (u0 P.of.length s)):=fun h2=>h ⟨h2,hf⟩
  omega
theorem aoE {P:Pb} (N:Nat):0≤bvS P N:=by
 have:=anp (P:=P) (s:=0) N
 rw[Nat.zero_add] at this
 exact this
theorem aoC {P:Pb} {fl:List Int} (hc:P.chk=0) (hl:fl.length=P.of.length) (hf:P.feaE (ints (Go.Pb.numK fl 1 fl.length))=0):am8 P (Go.Pb.numK fl 1 fl.length)≤bvS P (2^P.of.length):=by
 obtain ⟨s,h1,h2⟩:=anY (fun i=>decide (fl.getD i 9=1)) P.of.length
 have e:u0 P.of.length s=Go.Pb.numK fl 1 fl.length:=by
  unfold u0 Go.Pb.numK
  rw[hl]
  exact List.filter_congr fun i hi=>by rw[h2 i (by simpa using hi)]
 rw[← e] at hf ⊢
 rw[← (anr hc hf).2]
 exact aoD h1 hf
theorem aoa {P:Pb} {r:Nat} (hr:r<P.rows):yZ ⟨1,0,0,0,List.replicate P.rows ke⟩ r=⟨false,[],[1]⟩:=by
 unfold yZ
 have:(List.replicate P.rows ke).getD r (false,[],[])=ke:=by simp[hr]
 simp only[this]
 rfl
theorem aoL:(⟨false,[],[1]⟩:RF).q=0:=by decide +kernel
theorem aoM:(⟨false,[],[1]⟩:RF).v=true:=by decide +kernel
theorem aox {P:Pb} {fl:List Int} (_hl:fl.length=P.of.length) (ho:∀ e∈fl,e=1∨e=-1):bdZ P fl ⟨1,0,0,0,List.replicate P.rows ke⟩=((am8 P (Go.Pb.numK fl 1 fl.length):Int):Rat):=by
 unfold bdZ Pb.fpQ
 have h1:P.bdQ fl (fun r=>(yZ ⟨1,0,0,0,List.replicate P.rows ke⟩ r).q) P.rows=((P.accV fl fl.length:Int):Rat):=by
  unfold Pb.bdQ
  rw[y6 fun r hr=>by dsimp only; rw[aoa hr,aoL,Rat.zero_mul],Rat.add_zero]
 have h2:P.adQ fl (fun r=>(yZ ⟨1,0,0,0,List.replicate P.rows ke⟩ r).q) P.rows fl.length=0:=by
  unfold Pb.adQ
  refine y6 fun i hi=>if_neg fun h=>?_
  have h3:=ho _ (List.getElem_mem hi)
  rw[nR hi] at h
  omega
 rw[h1,h2,Rat.add_zero]
 unfold Pb.accV Pb.inK am8
 rfl
theorem aoy {P:Pb} {fl:List Int} (hc:P.chk=0) (hl:fl.length=P.of.length) (ho:∀ e∈fl,e=1∨e=-1):fpE P fl (yZ ⟨1,0,0,0,List.replicate P.rows ke⟩) (List.replicate P.rows ke).length=0:=by
 have hx:P.fixE fl=0:=aot hc hl fun i hi=>by
  have h3:=ho _ (List.getElem_mem hi)
  unfold okX
  rw[nR hi]
  omega
 unfold fpE
 rw[if_neg fun h=>h hx,List.length_replicate,if_neg fun h=>h rfl]
 refine eZ fun r hr=>?_
 rw[aoa hr]
 exact ⟨aoM,rfl⟩
theorem aoi {P:Pb} {w:Int} (hc:P.chk=0) (hn:P.of.length≤6) (hw:bvS P (2^P.of.length)≤w):YI P w (wl P) (wl P).length:=fun i hi _=>by
 have hG:=vR hc
 have hTr:=amX hG hn
 have h0:([]:List Int).length+P.of.length=P.of.length∧(∀ e∈([]:List Int),e=1∨e=-1)∧∀ x,fx (ntZ (wl P)) P.of.length 0 x=([]:List Int).getD x 0:=⟨by simp,fun e he=>(by cases he),fun x=>by rw[akX]; simp⟩
 obtain ⟨d,fl,hat,hd,ho,hfx⟩:=ang (P:=P) (T:=wl P) (Q:=fun d fl i=>fl.length+d=P.of.length∧(∀ e∈fl,e=1∨e=-1)∧∀ x,fx (ntZ (wl P)) P.of.length i x=fl.getD x 0) (fun d fl i h ⟨q1,q2,q3⟩=>by
   obtain ⟨hi,_,hO,hU,hI,k1,k2⟩:=ann h
   have hz:∀ o:Nat,(ntZ (wl P)).O i=o→fx (ntZ (wl P)) P.of.length i o=0:=fun o e=>by
    rw[hO] at e
    have:o=fl.length:=by omega
    subst this
    rw[q3]
    simp
   have l1:=eS hTr hi k1
   have l2:=eS hTr hi k2
   have p1:=Y6 hTr hi k1
   have p2:=Y6 hTr hi k2
   have hs:=am6 d
   have key:∀ v:Int,(∀ x:Nat,(if (fl.length:Int)<P.of.length∧(x:Int)=fl.length then v else fl.getD x 0)=(fl++[v]).getD x 0):=fun v x=>by
    by_cases e:x=fl.length
    ·subst e
     rw[if_pos ⟨by omega,rfl⟩]
     simp
    ·rw[if_neg (by omega)]
     by_cases e2:x<fl.length
     ·simp[List.getD_eq_getElem?_getD,List.getElem?_append_left e2]
     ·have g1:fl.length≤x:=by omega
      have g2:(fl++[v]).length≤x:=by simp; omega
      simp only[List.getD_eq_getElem?_getD]
      rw[List.getElem?_eq_none g1,List.getElem?_eq_none g2]
   refine ⟨⟨by simp; omega,fun e he=>?_,fun x=>?_⟩,by simp; omega,fun e he=>?_,fun x=>?_⟩
   ·rcases List.mem_append.1 he with he | he
    ·exact q2 e he
    ·exact .inr (List.mem_singleton.1 he)
   ·rw[LN hTr (by omega) l1.2 p1 hz x,q3,hO,hU,if_pos rfl]
    exact key (-1) x
   ·rcases List.mem_append.1 he with he | he
    ·exact q2 e he
    ·exact .inl (List.mem_singleton.1 he)
   ·rw[LN hTr (by omega) l2.2 p2 hz x,q3,hO,hU,if_neg (show ¬ (((i+1:Nat):Int)=((i+1+sN d:Nat):Int)) by omega)]
    exact key 1 x) P.of.length [] 0 anj h0 i (Nat.zero_le _) (by rw[am5] at hi; omega)
 obtain ⟨_,hi2,hh⟩:=amU hat
 rw[hh]
 cases d with
 | succ d =>
  unfold jm
  rw[if_pos (show (anl P (d+1) fl i).K=2 from rfl)]
  unfold brB
  have e1:(anl P (d+1) fl i).O=(fl.length:Nat):=rfl
  have h0:=hfx fl.length
  rw[e1,Int.toNat_natCast,ank (by omega),h0,akW]
  simp
  omega
 | zero =>
  have hfl:fxL P (wl P) i=fl:=by
   apply List.ext_getElem
   ·rw[akW]; omega
   ·intro x g1 g2
    have hx:x<P.of.length:=by rw[akW] at g1; exact g1
    have a:=ank (P:=P) (T:=wl P) (i:=i) hx
    rw[hfx x] at a
    rw[List.getD_eq_getElem?_getD,List.getD_eq_getElem?_getD,List.getElem?_eq_getElem g1,List.getElem?_eq_getElem g2] at a
    exact a
  rw[hfl]
  show jm P w fl (f6 P fl)=true
  unfold f6
  by_cases hf:P.feaE (ints (Go.Pb.numK fl 1 fl.length))=0
  ·rw[if_neg fun h=>h hf]
   have hl:fl.length=P.of.length:=by omega
   have h1:=aoC hc hl hf
   have h2:=aox (P:=P) hl ho
   have h3:=aoy hc hl ho
   unfold jm
   rw[if_neg (show ¬ (1:Int)=2 by decide),if_neg (show ¬ (1:Int)=3 by decide)]
   unfold bdB
   rw[h2,decide_eq_true h3,Bool.true_and,decide_eq_true_eq]
   have h4:am8 P (Go.Pb.numK fl 1 fl.length)<w+1:=by omega
   have h5:((am8 P (Go.Pb.numK fl 1 fl.length):Int):Rat)<((w+1:Int):Rat):=by exact_mod_cast h4
   have h6:((w+1:Int):Rat)=(w:Rat)+1:=by push_cast; rfl
   rw[h6] at h5
   exact h5
  ·rw[if_pos hf]
   unfold jm
   rw[if_neg (show ¬ (3:Int)=2 by decide),if_pos rfl]
   exact decide_eq_true hf
end Go.Proofs.YtpnliopaifpimaaGreat

set_option maxRecDepth 20000
namespace Go.Proofs.YtpnliopaifpimaaGreat
open Go Go.Am Go.Wr Go.Dig Go.Tr Go.LP Go.Pb
noncomputable def zcN (N:Nz):List AV:=[iv N.K,iv N.O,iv N.U,iv N.I,plc 3 (v9 N.P)]
noncomputable def zrN (T:List Nz):List (List AV):=T.map zcN
section
variable {T:List Nz} {N:Nz} {k:Nat}
@[simp] theorem aoT:(zrN T).length=T.length:=by simp[zrN]
@[simp] theorem aoK:(zcN N).all rf=true:=by simp[zcN]
@[simp] theorem aoV:wh (zrN T)=true:=by
 unfold wh zrN
 exact List.all_eq_true.2 fun r hr=>by
  obtain ⟨N,_,rfl⟩:=List.mem_map.1 hr
  exact aoK
@[simp] theorem aoW:zT (zrN T)=zrN T:=by
 unfold zT zrN
 rw[List.map_map]
 exact List.map_congr_left fun N _=>by simp[zcN]
@[simp] theorem anT:yC k (zrN T)=zrN T:=by
 unfold yC zrN
 rw[List.map_map]
 exact List.map_congr_left fun N _=>by simp[zcN]
@[simp] theorem aoU:uH k (zrN T)=false:=cR fun r hr=>by
 obtain ⟨N,_,rfl⟩:=List.mem_map.1 hr
 simp[zcN]
theorem amP {B:Nat}:mH B (.uarr 5 (zrN T))=true:=by
 simp only[mH,List.all_eq_true]
 intro r hr x hx
 obtain ⟨N,_,rfl⟩:=List.mem_map.1 hr
 simp only[zcN,List.mem_cons,List.not_mem_nil,or_false] at hx
 rcases hx with rfl | rfl | rfl | rfl | rfl
 ·rfl
 ·rfl
 ·rfl
 ·rfl
 ·unfold plc; split<;>rfl
end
def dgF (l:Nat) (f:List (Nat × AV)):List (Nat × AV):=f.map fun p=>(p.1,dg l p.2)
def dgS (l:Nat) (f:List (Nat × zf)):List (Nat × zf):=f.map fun p=>(p.1,dgE l p.2)
def dgO (l:Nat) (f:List (List (Nat × AV))):List (List (Nat × AV)):=f.map (dgF l)
theorem aoN {l:Nat} {x:AV}:dg l (dg l x)=dg l x:=by
 cases x with
 | list sz m rows =>
  cases m with
  | own k =>
   simp only[dg]
   by_cases e:k=l
   ·rw[if_pos e]
   ·rw[if_neg e]; simp only[if_neg e]
  | _=>rfl
 | us k sz off len =>
  simp only[dg]
  by_cases e:k=l
  ·rw[if_pos e]
  ·rw[if_neg e]; simp only[if_neg e]
 | up k sz off len =>
  simp only[dg]
  by_cases e:k=l
  ·rw[if_pos e]
  ·rw[if_neg e]; simp only[if_neg e]
 | fn f caps =>
  simp only[dg]
  by_cases e:caps.any (jJ l)=true
  ·rw[if_pos e]
  ·rw[if_neg e]; simp only[if_neg e]
 | tuple caps =>
  simp only[dg]
  by_cases e:caps.any (jJ l)=true
  ·rw[if_pos e]
  ·rw[if_neg e]; simp only[if_neg e]
 | lit sz rows =>
  simp only[dg]
  by_cases e:(rows.any fun r=>r.any (mP l))=true
  ·rw[if_pos e]
  ·rw[if_neg e]; simp only[if_neg e]
 | raw caps =>
  simp only[dg]
  by_cases e:caps.any (mP l)=true
  ·rw[if_pos e]
  ·rw[if_neg e]; simp only[if_neg e]
 | _=>rfl
section
variable {l j t B base:Nat} {x:AV} {en:zf} {f env:List (Nat × AV)} {σ τ:List (Nat × zf)} {out:List (List (Nat × AV))}
theorem anK:St.dg {env:=env,sto:=σ,out:=out,base:=base} l={env:=dgF l env,sto:=dgS l σ,out:=dgO l out,base:=base}:=rfl
theorem amV:dgF l []=[]:=rfl
theorem amN:dgF l ((t,x)::f)=(t,dg l x)::dgF l f:=rfl
theorem anB:dgF l (dgF l f)=dgF l f:=by
 unfold dgF
 rw[List.map_map]
 exact List.map_congr_left fun p _=>by show (p.1,dg l (dg l p.2))=_; rw[aoN]
theorem am4:dgO l (f::out)=dgF l f::dgO l out:=rfl
theorem anC:dgO l (dgO l out)=dgO l out:=by
 unfold dgO
 rw[List.map_map]
 exact List.map_congr_left fun p _=>anB
theorem amW:dgS l []=[]:=rfl
theorem amI:dgS l ((t,en)::σ)=(t,dgE l en)::dgS l σ:=rfl
theorem am1:dgS l (σ++τ)=dgS l σ++dgS l τ:=by unfold dgS; rw[List.map_append]
theorem anN:dgS l (pt σ t en)=pt (dgS l σ) t (dgE l en):=by
 induction σ with
 | nil=>rfl
 | cons p σ ih =>
  obtain ⟨m,e⟩:=p
  simp only[pt,amI]
  split
  ·rfl
  ·rw[amI,ih]
theorem aoF (h:qp B f):dgF (B+t) f=f:=QS (Nat.le_add_right B t) h
theorem aoG (h:yU B σ):dgS (B+t) σ=σ:=aoz (Nat.le_add_right B t) h
theorem aoS (h:pI B out):dgO (B+t) out=out:=by
 unfold dgO
 exact tc fun g hg=>aoF (h g hg)
theorem aoA (hx:Am.low B x=true):Am.low B (dg l x)=true:=by
 cases x with
 | list sz m rows =>
  cases m with
  | own k =>
   simp only[dg]
   split
   ·simp[Am.low,x4]
   ·exact hx
  | _=>exact hx
 | us k sz off len=>simp only[dg]; split<;>first | rfl | exact hx
 | up k sz off len=>simp only[dg]; split<;>first | rfl | exact hx
 | fn f caps=>simp only[dg]; split<;>first | rfl | exact hx
 | tuple caps=>simp only[dg]; split<;>first | rfl | exact hx
 | lit sz rows=>simp only[dg]; split<;>first | rfl | exact hx
 | raw caps=>simp only[dg]; split<;>first | rfl | exact hx
 | _=>exact hx
theorem anb (h:qp B f):qp B (dgF l f):=fun p hp=>by
 obtain ⟨q,hq,rfl⟩:=List.mem_map.1 hp
 exact aoA (h q hq)
theorem ans (h:pI B out):pI B (dgO l out):=fun p hp=>by
 obtain ⟨q,hq,rfl⟩:=List.mem_map.1 hp
 exact anb (h q hq)
end
def anz (P:Pb) (d:Nat):Prop:=∀ (fl:List Int) (m:Am.Mode) (T:List Nz) (σ:List (Nat × zf)) (B j:Nat) (s:St) (K:AV→St→Prop),s.sto=σ→yU B σ→qp B s.env→pI B s.out→Am.low B (.list 1 m (clR fl))=true→dg j (.list 1 m (clR fl))=.list 1 m (clR fl)→j<B→lk σ j=some (.uarr 5 (zrN T))→dgS j σ=σ →
 fl.length+d=P.of.length→T.length+sN d≤200→K (.us j 5 0 (T.length+sN d)) ⟨dgF j s.env,pt σ j (.uarr 5 (zrN (T++ky P d fl T.length))),dgO j s.out,s.base⟩→yH Tryz.prog amE [.agg (pbC P),.list 1 m (clR fl),.us j 5 0 T.length] s K
noncomputable def anS (j m r B:Nat) (σ:List (Nat × zf)) (out:List (List (Nat × AV))) (k:Nat):St :=
 {env:=[(2,.us j 5 0 m),(8,.sl (B+29) 3 0 r),(31,iv r),(32,iv k)],sto:=σ++[(B+29,.arr 3 (fZ (fun _=>0) k r))],out:=out,base:=B}
theorem aoP (m:Am.Mode):stm (stm m)=stm m:=by cases m<;>rfl
theorem an9 {P:Pb} (hc:P.chk=0) (hn:P.of.length≤6):anz P 0:=by
 intro fl m T σ B j s K hs hσ hE hO hm hmj hj hl hσj hd hlen h
 obtain ⟨env,σ',out,base⟩:=s
 simp only at hs hE hO h
 subst hs
 have hG:=vR hc
 have hfl:fl.length=P.of.length:=by omega
 have hfl':(fl.length:Int)=P.of.length:=by omega
 have kA:=s6 (JD (fl:=fl) (by omega)) (Mv (YV (sz:=1) (rows:=clR fl) (aoP m)))
 have kf:=Gb (P:=P) (ch:=ints (Go.Pb.numK fl 1 fl.length)) (by have:=hG.n; omega) (by have:=hG.k; omega) (by rw[lC]; have:=Go.Pb.numK_len (fx:=fl) (v:=1) (k:=fl.length); omega)
 refine nu B am7 (by simp) ?_
 simp[amK,aa6 hσ,aa8 hσ,glk hσ,hfl']
 refine za kA (by simp) (by simp) ?_
 simp
 refine za kf (by simp) (by simp) ?_
 by_cases hf:P.feaE (ints (Go.Pb.numK fl 1 fl.length))=0
 ·have kr:=Pe (P:=P) (by have:=hG.n; omega) (by have:=hG.k; omega)
  rw[show xD P=P.rows by unfold xD; simp[hc]] at kr
  have hr20:P.rows≤20:=by have:=hG.n; unfold Pb.rows; omega
  simp[hf,glk hσ]
  refine za kr (by simp) (by simp) ?_
  simp[eMk,glk hσ,gpt hσ,eO hσ,gno hσ,bf hE,bg hO]
  have hjB:¬ j=B+3:=by omega
  have hjC:¬ j=B+29:=by omega
  refine ⟨by omega,by omega,hjB,?_⟩
  rw[show List.replicate P.rows [AV.val (Value.bool false),AV.list 0 Mode.full [],AV.list 0 Mode.full []]=fZ (fun _=>0) 0 P.rows from G7]
  have k0:ze Tryz.prog xi [iv 0] (fq 0):=sL (n:=0) (by decide) (by decide)
  have hpj:∀ t e,pt (σ'++t) j e=pt σ' j e++t:=fun t e=>eP hl
  have hlj:∀ t,lk (σ'++t) j=some (.uarr 5 (zrN T)):=fun t=>mG hl
  refine zw (anS j T.length P.rows B σ' (env::out)) (fun _=>True) P.rows (by simp[anS]) trivial (fun k hk _=>?_) (fun _=>?_)
  ·have e:(k:Int)<P.rows:=by omega
   have w:=zm (k:=k) (by omega)
   have hs:=Cy (f:=fun _=>0) hk
   simp[amF,anS,e]
   refine za k0 (by simp) (by simp) ?_
   simp[splice,hk,w,hs,anS,glk hσ,gpt hσ]
  ·have e1:ky P 0 fl T.length=[⟨1,0,0,0,List.replicate P.rows ke⟩]:=by
    show [f6 P fl]=_
    unfold f6
    rw[if_neg (fun h=>h hf)]
   have a0:fr 0=aa1 ke:=by
    rw[← Mu,ni,show (RF.of 0).s=false from by decide +kernel,show (RF.of 0).a=[] from by decide +kernel,show (RF.of 0).c=[1] from by decide +kernel]
    rfl
   have e3:v9 (List.replicate P.rows ke)=fR (fun _=>0) P.rows:=by
    apply List.ext_getElem
    ·simp
    ·intro i h1 h2
     rw[aef]
     simp[a0]
   have hr0:¬ P.rows=0:=by unfold Pb.rows; omega
   have hz:yC j (zrN T++[[iv 1,iv 0,iv 0,iv 0,.list 3 .plain (fR (fun _=>0) P.rows)]])=zrN (T++[⟨1,0,0,0,List.replicate P.rows ke⟩]):=by
    have e2:zrN T++[[iv 1,iv 0,iv 0,iv 0,.list 3 .plain (fR (fun _=>0) P.rows)]]=zrN (T++[⟨1,0,0,0,List.replicate P.rows ke⟩]):=by simp[zrN,zcN,plc,e3,hr0]
    rw[e2]; exact anT
   have hσ2:yU B (pt σ' j (.uarr 5 (zrN (T++[⟨1,0,0,0,List.replicate P.rows ke⟩])))):=Uf hσ hj amP
   have hE2:=anb (l:=j) hE
   have hO2:=ans (l:=j) hO
   rw[e1] at h
   simp[amF,anS,G6]
   have f1:∀ e,(σ'.map fun p=>(p.1,rR (B+29) e p.2))=σ':=fun e=>aom (Nat.le_add_right B 29) hσ
   have f2:∀ e,(env.map fun p=>(p.1,frz (B+29) e p.2))=env:=fun e=>L5 (Nat.le_add_right B 29) hE
   have f3:∀ e,(out.map fun f=>f.map fun p=>(p.1,frz (B+29) e p.2))=out:=fun e=>tc fun f hf=>L5 (Nat.le_add_right B 29) (hO f hf)
   have htk:(fR (fun _=>0) P.rows).take P.rows=fR (fun _=>0) P.rows:=List.take_of_length_le (by simp)
   simp[amQ,qK,hjC,htk,hl,akm hσ,-St.dg,anK,amN,amV,am4,hσj,hz,glk hσ,eO hσ,bf hE,bg hO,f1,f2,f3,amH]
   exact ⟨by omega,by omega,h⟩
 ·have e1:ky P 0 fl T.length=[⟨3,0,0,0,[]⟩]:=by
   show [f6 P fl]=_
   unfold f6
   rw[if_pos hf]
  have hlj:∀ t,lk (σ'++t) j=some (.uarr 5 (zrN T)):=fun t=>mG hl
  have hz:yC j (zrN T++[[iv 3,iv 0,iv 0,iv 0,uw]])=zrN (T++[⟨3,0,0,0,[]⟩]):=by
   have e2:zrN T++[[iv 3,iv 0,iv 0,iv 0,uw]]=zrN (T++[⟨3,0,0,0,[]⟩]):=by simp[zrN,zcN,plc]
   rw[e2]; exact anT
  have hσ2:yU B (pt σ' j (.uarr 5 (zrN (T++[⟨3,0,0,0,[]⟩])))):=Uf hσ hj amP
  have hpj:∀ t e,pt (σ'++t) j e=pt σ' j e++t:=fun t e=>eP hl
  have hjB:¬ j=B+3:=by omega
  have hE2:=anb (l:=j) hE
  have hO2:=ans (l:=j) hO
  rw[e1] at h
  simp[hf,hlj,-St.dg,anK,amN,amV,am1,amI,amW,am4,hσj,hpj,hz,glk hσ2,eO hσ2,bf hE2,bg hO2,amH]
  exact ⟨by omega,by omega,⟨hjB,akm hσ2⟩,h⟩
end Go.Proofs.YtpnliopaifpimaaGreat

set_option maxRecDepth 20000
namespace Go.Proofs.YtpnliopaifpimaaGreat
open Go Go.Am Go.Wr Go.Dig Go.Tr Go.LP Go.Pb
theorem ani {l:Nat} {D:List Nat} {f:List (Nat × AV)}:dgF l (del D f)=del D (dgF l f):=aos f
theorem an4 {j B:Nat} {P:Pb}:dgS j [(B,.var (pbC P))]=[(B,.var (pbC P))]:=by simp[amI,amW]
theorem anA {M:Nat} {P:Pb}:mH M (.var (pbC P))=true:=by
 simp only[mH,xw]
 rfl
theorem amO {M j sz off n:Nat} (h:j<M):Am.low M (.us j sz off n)=true:=by simp[Am.low,x4,h]
theorem amL {M t sz:Nat} {r:List (List AV)} (h:t<M):Am.low M (.list sz (.own t) r)=true:=by simp[Am.low,x4,h]
theorem anm {M:Nat} {P:Pb}:Am.low M (.agg (pbC P))=true:=by
 simp only[xw]
 rfl
theorem anL {fl:List Int} {x:Int}:clR fl++[[iv x]]=clR (fl++[x]):=by simp[clR]
theorem am9:yy Tryz.prog amE=true:=by kernel_rfl
theorem an8 {P:Pb} {d:Nat} (hn:P.of.length≤6) (ih:anz P d):anz P (d+1):=by
 intro fl m T σ B j s K hs hσ hE hO hm hmj hj hl hσj hd hlen h
 obtain ⟨env,σ',out,base⟩:=s
 simp only at hs hE hO h
 subst hs
 have hfl':¬ (fl.length:Int)=P.of.length:=by omega
 have hsp:=am6 d
 have hlen2:T.length+(sN d+sN d+1)≤200:=hlen
 have hpj:∀ t e,pt (σ'++t) j e=pt σ' j e++t:=fun t e=>eP hl
 have hlj:∀ t,lk (σ'++t) j=some (.uarr 5 (zrN T)):=fun t=>mG hl
 have hjB:¬ j=B+3:=by omega
 have hE2:=anb (l:=j) hE
 have hO2:=ans (l:=j) hO
 have w1:=zm (k:=T.length) (by omega)
 refine nu B am7 (by simp) ?_
 simp[amK,aa6 hσ,aa8 hσ,glk hσ,hfl']
 obtain ⟨T1,hT1⟩:∃ T1,T1=T++[⟨2,fl.length,((T.length:Int)+1),0,[]⟩]:=⟨_,rfl⟩
 have hz:yC j (zrN T++[[iv 2,iv fl.length,iv ((T.length:Int)+1),iv 0,uw]])=zrN T1:=by
  have e2:zrN T++[[iv 2,iv fl.length,iv ((T.length:Int)+1),iv 0,uw]]=zrN T1:=by rw[hT1]; simp[zrN,zcN,plc]
  rw[e2]; exact anT
 have hT1l:T1.length=T.length+1:=by rw[hT1]; simp
 obtain ⟨σ1,hs1⟩:∃ σ1,pt σ' j (.uarr 5 (zrN T1))=σ1:=⟨_,rfl⟩
 have hσ1:yU B σ1:=hs1▸Uf hσ hj amP
 have hl1:lk σ1 j=some (.uarr 5 (zrN T1)):=by rw[← hs1,ua,if_pos rfl]
 have hσj1:dgS j σ1=σ1:=by rw[← hs1,anN,hσj]; simp[dgE]
 have hlj1:∀ t,lk (σ1++t) j=some (.uarr 5 (zrN T1)):=fun t=>mG hl1
 have hmB:∀ t,dg (B+t) (.list 1 m (clR fl))=.list 1 m (clR fl):=fun t=>C5 (Nat.le_add_right B t) hm
 have hjt:∀ t,¬ j=B+t:=fun t=>by omega
 have gF:=fun t=>aoF (t:=t) hE2
 have gO:=fun t=>aoS (t:=t) hO2
 have gS:=fun t=>aoG (t:=t) hσ1
 simp[amR,w1,hlj,-St.dg,anK,amN,amV,am1,amI,amW,am4,hσj,hpj,hz,hs1,glk hσ1,hmB,hmj,hjt,gF,gO,gS,eO hσ1,rQ,am9]
 refine ⟨by omega,by omega,by omega,by omega,by omega,by omega,?_⟩
 rw[anL,← hT1l]
 have x4:yU (B+100) (σ1++[(B+3,.var (pbC P))]):=TR.2 ⟨cj (by omega) hσ1,tA.2 ⟨⟨by omega,anA⟩,jw⟩⟩
 have low3:pI (B+100) (dgF j env::dgO j out):=Nj (Nat.le_add_right _ _) (Ni.2 ⟨hE2,hO2⟩)
 have hmM:=low_mono (Nat.le_add_right B 100) hm
 refine ⟨by simp[rQ,glk hσ1],fun D=>ih (fl++[-1]) (.own (B+57)) T1 _ (B+100) j _ _ rfl x4 (abh ?_) low3 ?_ ?_ (by omega) (hlj1 _) (by rw[am1,hσj1,an4]) (by simp; omega) (by omega) ?_⟩
 ·simp[cg,Zm,L6,Ug,hmM]
  exact ⟨amO (by omega),anm,rfl,rfl,amO (by omega),rfl,amL (by omega)⟩
 ·exact amL (by omega)
 ·simp
  omega
 ·rw[ani,show (σ1++[(B+3,zf.var (pbC P))])=σ1++[(B+3,zf.var (pbC P))] from rfl]
  obtain ⟨T2,hT2⟩:∃ T2,T1++ky P d (fl++[-1]) T1.length=T2:=⟨_,rfl⟩
  have hT2l:T2.length=T1.length+sN d:=by rw[← hT2,List.length_append,amJ]
  rw[hT2,eP hl1]
  obtain ⟨σ2,hs2⟩:∃ σ2,pt σ1 j (.uarr 5 (zrN T2))=σ2:=⟨_,rfl⟩
  have hσ2:yU B σ2:=hs2▸Uf hσ1 hj amP
  have hl2:lk σ2 j=some (.uarr 5 (zrN T2)):=by rw[← hs2,ua,if_pos rfl]
  rw[hs2]
  refine ⟨⟨_,σ2++[(B+3,.var (pbC P))],_,B⟩,rfl,rfl,by simp[rQ,glk hσ2],?_⟩
  obtain ⟨T3,hT3⟩:∃ T3,T3=T++A2 fl.length T.length d::ky P d (fl++[-1]) T1.length:=⟨_,rfl⟩
  have hT2e:T2=T++⟨2,fl.length,((T.length:Int)+1),0,[]⟩::ky P d (fl++[-1]) T1.length:=by rw[← hT2,hT1]; simp
  have hrow:(zrN T2)[T.length]?=some (zcN ⟨2,fl.length,((T.length:Int)+1),0,[]⟩):=by rw[hT2e]; simp[zrN]
  have hset:(zrN T2).set T.length (splice (zcN ⟨2,fl.length,((T.length:Int)+1),0,[]⟩) 3 [iv ((T1.length:Int)+sN d)])=zrN T3:=by
   have e:splice (zcN ⟨2,fl.length,((T.length:Int)+1),0,[]⟩) 3 [iv ((T1.length:Int)+sN d)]=zcN (A2 fl.length T.length d):=by
    unfold zcN A2
    simp only[hT1l]
    rfl
   rw[e,hT2e,hT3]
   simp[zrN]
  have hT3l:T3.length=T1.length+sN d:=by rw[hT3,hT1l]; simp[amJ]; omega
  obtain ⟨σ3,hs3⟩:∃ σ3,pt σ2 j (.uarr 5 (zrN T3))=σ3:=⟨_,rfl⟩
  have hσ3:yU B σ3:=hs3▸Uf hσ2 hj amP
  have hl3:lk σ3 j=some (.uarr 5 (zrN T3)):=by rw[← hs3,ua,if_pos rfl]
  have hlj2:∀ t,lk (σ2++t) j=some (.uarr 5 (zrN T2)):=fun t=>mG hl2
  have hpj2:∀ t e,pt (σ2++t) j e=pt σ2 j e++t:=fun t e=>eP hl2
  have hσj3:dgS j σ3=σ3:=by rw[← hs3,anN,← hs2,anN,hσj1]; simp[dgE]
  have gS3:=fun t=>aoG (t:=t) hσ3
  have hmd:(dgO j out).map (dgF j)=dgO j out:=anC
  have hlt:(T.length:Int)<T1.length+sN d:=by omega
  have hlt2:T.length<T1.length+sN d:=by omega
  simp[amN,amV,am4,anB,hmj,hjt,hlj2,hrow,hset,hpj2,hs3,glk hσ3,hlt,eO hσ3,-St.dg,anK,am1,amI,amW,hmB,gF,gO,gS3,rQ,am9,hmd]
  refine ⟨by omega,by omega,by omega,by omega,?_⟩
  rw[anL,← hT3l]
  have low4:yU (B+100) (σ3++[(B+3,.var (pbC P))]):=TR.2 ⟨cj (by omega) hσ3,tA.2 ⟨⟨by omega,anA⟩,jw⟩⟩
  refine ⟨by simp[rQ,glk hσ3],fun D=>ih (fl++[1]) (.own (B+71)) T3 _ (B+100) j _ _ rfl low4 (abh ?_) low3 ?_ ?_ (by omega) (mG hl3) (by rw[am1,hσj3,an4]) (by simp; omega) (by omega) ?_⟩
  ·simp[cg,Zm,Ug,hmM]
   exact ⟨amO (by omega),anm,rfl,rfl,amO (by omega),rfl,amL (by omega)⟩
  ·exact amL (by omega)
  ·simp
   omega
  ·rw[ani]
   have hT4:T3++ky P d (fl++[1]) T3.length=T++ky P (d+1) fl T.length:=by
    have e:T3.length=T.length+1+sN d:=by omega
    rw[e,hT3,hT1l]
    simp[ky]
   have hlen4:T3.length+sN d=T.length+sN (d+1):=by
    show _=T.length+(sN d+sN d+1)
    omega
   rw[hT4,hlen4,eP hl3]
   have hps:pt σ3 j (.uarr 5 (zrN (T++ky P (d+1) fl T.length)))=pt σ' j (.uarr 5 (zrN (T++ky P (d+1) fl T.length))):=by rw[← hs3,← hs2,← hs1,tt,tt,tt]
   rw[hps]
   have hσ4:yU B (pt σ' j (.uarr 5 (zrN (T++ky P (d+1) fl T.length)))):=Uf hσ hj amP
   refine ⟨⟨_,pt σ' j (.uarr 5 (zrN (T++ky P (d+1) fl T.length)))++[(B+3,.var (pbC P))],_,B⟩,rfl,rfl,by simp[rQ,glk hσ4],?_⟩
   simp[anB,hmj,hjt,glk hσ4,eO hσ4,akm hσ4,bf hE2,bg hO2,hmd,amH]
   exact h
theorem anO {P:Pb} (hc:P.chk=0) (hn:P.of.length≤6):∀ d,anz P d
 | 0=>an9 hc hn
 | d+1=>an8 hn (anO hc hn d)
end Go.Proofs.YtpnliopaifpimaaGreat

set_option maxRecDepth 20000
namespace Go.Proofs.YtpnliopaifpimaaGreat
open Go Go.Am Go.Wr Go.Dig Go.Tr Go.LP Go.Pb
theorem aoB {T:List Nz} {m:Am.Mode} (hm:stm m=m):AV.imp (.list 5 m (zrN T)) (.list 5 .plain (zI T)):=by
 refine Zh hm ⟨by simp,fun i x y hx hy=>?_⟩
 unfold zrN at hx
 simp only[List.getElem?_map,Option.map_eq_some_iff] at hx hy
 obtain ⟨N,h1,rfl⟩:=hx
 obtain ⟨M,h2,rfl⟩:=hy
 rw[h1] at h2
 cases h2
 exact z6 AV.imp.refl (z6 AV.imp.refl (z6 AV.imp.refl (z6 AV.imp.refl (z6 (fJ lA) tT))))
noncomputable def anR (r k:Nat):St :=
 {env:=[(2,uw),(8,.sl 29 3 0 r),(31,iv r),(32,iv k)],sto:=[(29,.arr 3 (fZ (fun _=>0) k r))]}
theorem an7 {P:Pb} (hc:P.chk=0) (hn:P.of.length≤6):ze Tryz.prog amE [.agg (pbC P),uw,uw] (.list 5 .plain (zI (wl P))):=by
 have hG:=vR hc
 refine wW am7 (by simp) ?_
 by_cases h0:P.of.length=0
 ·have h0':(P.of.length:Int)=0:=by omega
  have hf:P.feaE []=0:=by
   unfold Pb.feaE
   rw[if_neg (by simp[hc]),if_neg (fun h=>h fun k hk=>by simp at hk),if_pos (show P.fits (P.pick []) from anZ hG)]
  have kA:=s6 (JD (fl:=[]) (by decide)) (Mv (AV.imp_nil (sz:=0) rfl))
  have kf:=Gb (P:=P) (ch:=[]) (by have:=hG.n; omega) (by have:=hG.k; omega) (by decide)
  have kr:=Pe (P:=P) (by have:=hG.n; omega) (by have:=hG.k; omega)
  rw[show xD P=P.rows by unfold xD; simp[hc]] at kr
  rw[hf] at kf
  have hr20:P.rows≤20:=by have:=hG.n; unfold Pb.rows; omega
  simp[amK,h0']
  refine za kA (by simp) (by simp) ?_
  simp
  refine za kf (by simp[Go.Pb.numK,ints]) (by simp) ?_
  simp
  refine za kr (by simp) (by simp) ?_
  simp[eMk]
  refine ⟨by omega,by omega,?_⟩
  rw[show List.replicate P.rows [AV.val (Value.bool false),AV.list 0 Mode.full [],AV.list 0 Mode.full []]=fZ (fun _=>0) 0 P.rows from G7]
  have k0:ze Tryz.prog xi [iv 0] (fq 0):=sL (n:=0) (by decide) (by decide)
  refine zw (anR P.rows) (fun _=>True) P.rows (by simp[anR]) trivial (fun k hk _=>?_) (fun _=>?_)
  ·have e:(k:Int)<P.rows:=by omega
   have w:=zm (k:=k) (by omega)
   have hs:=Cy (f:=fun _=>0) hk
   simp[amF,anR,e]
   refine za k0 (by simp) (by simp) ?_
   simp[splice,hk,w,hs,anR]
  ·have e1:wl P=[⟨1,0,0,0,List.replicate P.rows ke⟩]:=by
    unfold wl
    rw[h0]
    show [f6 P []]=_
    unfold f6
    rw[if_neg (fun h=>h hf)]
   have a0:fr 0=aa1 ke:=by
    rw[← Mu,ni,show (RF.of 0).s=false from by decide +kernel,show (RF.of 0).a=[] from by decide +kernel,show (RF.of 0).c=[1] from by decide +kernel]
    rfl
   have e3:v9 (List.replicate P.rows ke)=fR (fun _=>0) P.rows:=by
    apply List.ext_getElem
    ·simp
    ·intro i h1 h2
     rw[aef]
     simp[a0]
   have htk:(fR (fun _=>0) P.rows).take P.rows=fR (fun _=>0) P.rows:=List.take_of_length_le (by simp)
   rw[e1]
   simp[amF,anR,G6,amQ,qK,htk,yC,wh,zT,amH]
   show AV.imp _ (.list 5 .plain [[iv 1,iv 0,iv 0,iv 0,.list 3 .plain (v9 (List.replicate P.rows ke))]])
   rw[e3]
   exact AV.imp.refl
 ·obtain ⟨d,hd⟩:∃ d,P.of.length=d+1:=⟨P.of.length-1,by omega⟩
  have h0':¬ (0:Int)=P.of.length:=by omega
  simp[amK,h0']
  have ih:=anO (P:=P) hc hn d
  obtain ⟨b0,hb0⟩:∃ b0:Nz,b0=⟨2,0,1,0,[]⟩:=⟨_,rfl⟩
  have hw:IntKind.i64.wrap 1=1:=by decide
  have hz:yC 53 [[iv 2,iv 0,iv 1,iv 0,uw]]=zrN [b0]:=by rw[hb0]; simp[zrN,zcN,plc,yC]
  simp[amR,rQ,am9,hw,hz]
  have hsp:=am6 d
  have hsl:=anw _ hn
  rw[hd] at hsl
  have hsl2:sN d+sN d+1≤127:=hsl
  refine ⟨by simp[rQ],fun D=>ih [-1] (.own 57) [b0] _ 1000 53 _ _ rfl (tA.2 ⟨⟨by decide,anA⟩,tA.2 ⟨⟨by decide,amP⟩,jw⟩⟩) (abh ?_) (fun _ h=>by cases h) (amL (by decide)) (by simp) (by decide) (by simp) (by simp[amI,amW,dgE]) (by simp; omega) (by simp; omega) ?_⟩
  ·simp[cg,Zm,L6,Ug]
   exact ⟨rfl,amO (by decide),anm,rfl,rfl,rfl,amO (by decide),rfl,amL (by decide)⟩
  ·rw[ani]
   obtain ⟨T2,hT2⟩:∃ T2,[b0]++ky P d [-1] ([b0]:List Nz).length=T2:=⟨_,rfl⟩
   have hT2l:T2.length=1+sN d:=by rw[← hT2,List.length_append,amJ]; rfl
   rw[hT2]
   refine ⟨⟨_,[(3,.var (pbC P)),(53,.uarr 5 (zrN T2))],_,0⟩,rfl,rfl,by simp[rQ],?_⟩
   obtain ⟨T3,hT3⟩:∃ T3,T3=A2 0 0 d::ky P d [-1] 1:=⟨_,rfl⟩
   have hT2e:T2=b0::ky P d [-1] 1:=by rw[← hT2]; rfl
   have hrow:(zrN T2)[0]?=some (zcN b0):=by rw[hT2e]; simp[zrN]
   have hset:(zrN T2).set 0 (splice (zcN b0) 3 [iv (1+(sN d:Int))])=zrN T3:=by
    have e:splice (zcN b0) 3 [iv (1+(sN d:Int))]=zcN (A2 0 0 d):=by
     rw[hb0]
     unfold zcN A2
     simp
    rw[e,hT2e,hT3]
    simp[zrN]
   have hT3l:T3.length=1+sN d:=by rw[hT3]; simp[amJ]; omega
   have hlt:(0:Int)<1+sN d:=by omega
   have hlt2:0<1+sN d:=by omega
   simp[hrow,hset,hlt,rQ,am9]
   rw[← hT3l]
   refine ⟨by simp[rQ],fun D=>ih [1] (.own 71) T3 _ 1000 53 _ _ rfl (tA.2 ⟨⟨by decide,anA⟩,tA.2 ⟨⟨by decide,amP⟩,jw⟩⟩) (abh ?_) (fun _ h=>by cases h) (amL (by decide)) (by simp) (by decide) (by simp) (by simp[amI,amW,dgE]) (by simp; omega) (by omega) ?_⟩
   ·simp[cg,Zm,Ug]
    exact ⟨rfl,amO (by decide),anm,rfl,rfl,rfl,amO (by decide),rfl,amL (by decide)⟩
   ·rw[ani]
    have hT4:T3++ky P d [1] T3.length=wl P:=by
     unfold wl
     rw[hd,hT3l,hT3]
     simp[ky]
    have hlen4:T3.length+sN d=(wl P).length:=by
     rw[← hT4,List.length_append,amJ]
    rw[hT4,hlen4]
    refine ⟨⟨_,[(3,.var (pbC P)),(53,.uarr 5 (zrN (wl P)))],_,0⟩,rfl,rfl,by simp[rQ],?_⟩
    have htk:(zrN (wl P)).take (wl P).length=zrN (wl P):=List.take_of_length_le (by simp)
    simp[amH,htk]
    exact aoB rfl
end Go.Proofs.YtpnliopaifpimaaGreat

set_option maxRecDepth 20000
namespace Go.Proofs.YtpnliopaifpimaaGreat
open Go Go.Am Go.Wr Go.Dig Go.Tr Go.LP Go.Pb
theorem aoQ:wI ke∧ke.2.1.length≤4∧ke.2.2.length≤4:=by
 refine ⟨⟨fun d hd=>(by cases hd),fun d hd=>?_,by decide,by decide⟩,by decide,by decide⟩
 rw[List.mem_singleton.1 hd]; decide
theorem aok {P:Pb} {d i:Nat} {fl:List Int}:eK (anl P d fl i):=fun x hx=>by
 cases d with
 | zero =>
  have hx:x∈(f6 P fl).P:=hx
  unfold f6 at hx
  split at hx
  ·cases hx
  ·rw[(List.mem_replicate.1 hx).2]; exact aoQ
 | succ d =>
  have hx:x∈([]:List Fr):=hx
  cases hx
theorem anP {P:Pb}:∀ N∈wl P,eK N:=fun N hN=>by
 obtain ⟨i,hi,rfl⟩:=List.getElem_of_mem hN
 obtain ⟨d,fl,h,_⟩:=amZ i hi
 obtain ⟨_,_,b⟩:=amU h
 rw[b]
 exact aok
theorem anI {P:Pb} (k:Nat):Zl P (wl P) k:=fun i hi _ hK=>by
 obtain ⟨d,fl,h,_⟩:=amZ i hi
 obtain ⟨_,_,b⟩:=amU h
 rw[b] at hK ⊢
 cases d with
 | zero =>
  have hK:(f6 P fl).K=1:=hK
  show (f6 P fl).P.length=P.rows
  unfold f6 at hK ⊢
  split at hK
  ·exact absurd hK (by decide)
  ·rename_i h0
   rw[if_neg h0]
   exact List.length_replicate
 | succ d =>
  have hK:(2:Int)=1:=hK
  exact absurd hK (by decide)
theorem aov {P:Pb} {w:Int} (hc:P.chk=0) (hn:P.of.length≤6) (hw:bvS P (2^P.of.length)≤w):gE P w (wl P)=0:=by
 rw[S8 hc (amX (vR hc) hn) (anI _)]
 exact QJ (aoi hc hn hw)
theorem aou {P:Pb} {w:Int} (hc:P.chk=0) (hn:P.of.length≤6) (hw:w<bvS P (2^P.of.length)):gE P w (wl P)=13:=by
 have h0:¬ gE P w (wl P)=0:=fun h=>by
  have:=anX h (2^P.of.length)
  omega
 rw[S8 hc (amX (vR hc) hn) (anI _)] at h0 ⊢
 by_cases h:YI P w (wl P) (wl P).length
 ·exact absurd (QJ h) h0
 ·exact QI h
theorem an3 {P:Pb} (hc:P.chk=0) (hn:P.of.length≤6):∀ s,bvS P s≤6000000
 | 0=>by show (0:Int)≤_; omega
 | s+1=>by
  have ih:=an3 hc hn s
  unfold bvS
  split
  ·rename_i h
   obtain ⟨_,e⟩:=anr hc h.2
   rw[e]
   unfold am8
   have hG:=vR hc
   have hb:=AI (a:=0) (b:=1000000) (f:=fun o:Of=>o.v) (l:=(u0 P.of.length s).map fun i:Nat=>P.at (i:Int)) fun o ho=>by
    obtain ⟨i,hi,rfl⟩:=List.mem_map.1 ho
    have hm:P.at (i:Int)∈P.of:=at_mem (an0 i hi)
    have:=(vJ (wS (hG.off _ hm)).1).2.1
    omega
   have hl:=anf (k:=P.of.length) (s:=s)
   rw[List.length_map] at hb
   omega
  ·exact ih
theorem anM {P:Pb} {less:Int}:ze Tryz.prog amC [.agg (pbC P),iv less] (bv true):=by
 have kaw:∀ {σ:Nat→Option zf} {K:AV→Option zf→Prop},K (bv true) none→wq Tryz.prog x5 σ [] K:=fun h=>za (xs:=[]) (args:=[]) GA rfl (.inl rfl) h
 refine zn am0 (by simp) ?_
 by_cases hn:6<P.of.length
 ·have hn':(6:Int)<P.of.length:=by omega
  simp[amD,hn']
  refine kaw ?_
  simp[wo]
 have hn':¬ (6:Int)<P.of.length:=by omega
 simp[amD,hn']
 refine za (KG (P:=P)) (by simp) (by simp) ?_
 by_cases hc:P.chk=0
 rotate_left
 ·simp[hc]
  refine kaw ?_
  simp[wo]
 by_cases h0:less<0
 ·simp[hc,h0]
  refine kaw ?_
  simp[wo]
 by_cases h1:1099511627776<less
 ·simp[hc,h0,h1]
  refine kaw ?_
  simp[wo]
 have hG:=vR hc
 have hn6:P.of.length≤6:=by omega
 have kb:=aor (P:=P) hc (by omega)
 have kf:=an7 hc hn6
 have hl:=am5 (P:=P)
 have hs:=anw _ hn6
 have hv0:=aoE (P:=P) (2^P.of.length)
 have hv1:=an3 hc hn6 (2^P.of.length)
 have kc:=fun (w:Int) (a:-9223372036854775808≤w) (b:w<9223372036854775808)=>dv (P:=P) (T:=wl P) (value:=w) (by omega) anP (by omega) a b
 have ho:=fun (w:Int)=>aov (P:=P) (w:=w) hc hn6
 have hno:=fun (w:Int)=>aou (P:=P) (w:=w) hc hn6
 have hP:∀ N∈wl P,∀ x∈N.P,wI x:=fun N hN x hx=>(anP N hN x hx).1
 have kl:=L2 (T:=wl P) hP (by omega)
 have kd:=QB (T:=wl P) hP (by omega)
 rw[anV hG hn6] at kl
 rw[an1 hG hn6] at kd
 obtain ⟨p1,p2,p3⟩:=aoq P.of.length (by omega)
 have h64:IntKind.i64.bits=64:=rfl
 have wn:=zm (k:=P.of.length) (by omega)
 obtain ⟨v,hv⟩:∃ v,bvS P (2^P.of.length)=v:=⟨_,rfl⟩
 rw[hv] at kb hv0 hv1 ho hno
 have w1:IntKind.i64.wrap (v-less)=v-less:=by rw[wrap64]<;>omega
 have w2:IntKind.i64.wrap (v+less)=v+less:=by rw[wrap64]<;>omega
 have k1:=kc v (by omega) (by omega)
 have k2:=kc (v-less) (by omega) (by omega)
 have k3:=kc (v+less) (by omega) (by omega)
 rw[ho v (Int.le_refl _)] at k1
 rw[ho (v+less) (by omega)] at k3
 generalize wl P=F at *
 have hpw:(2:Int)^P.of.length=((2^P.of.length:Nat):Int):=by exact_mod_cast rfl
 simp[hc,h0,h1,rQ,am9]
 refine aog kf (by simp[rQ]) (by simp) (by simp) ?_
 simp
 refine za kb (by simp) (by simp) ?_
 by_cases hz:less=0
 ·subst hz
  rw[Int.sub_zero] at k2 w1
  rw[Int.add_zero] at w2 k3
  rw[ho v (Int.le_refl _)] at k2
  simp
  refine za k1 (by simp) (by simp) ?_
  simp[w1]
  refine za k2 (by simp) (by simp) ?_
  simp[w2]
  refine za k3 (by simp) (by simp) ?_
  simp
  refine za kl (by simp) (by simp) ?_
  simp[xY nn4,h64,p1]
  refine za kd (by simp) (by simp) ?_
  simp[wn]
  refine kaw ?_
  simp[wo]
 ·have hp:0<less:=by omega
  rw[hno (v-less) (by omega)] at k2
  simp[hp]
  refine za k1 (by simp) (by simp) ?_
  simp[w1]
  refine za k2 (by simp) (by simp) ?_
  simp[w2]
  refine za k3 (by simp) (by simp) ?_
  simp
  refine za kl (by simp) (by simp) ?_
  simp[xY nn4,h64,p1]
  refine za kd (by simp) (by simp) ?_
  simp[wn]
  refine kaw ?_
  simp[wo]
theorem prooftreeComplete_contract (xs:List AV) (h:dE [ahI,.int .i64] xs):ze Tryz.prog amC xs (bv true):=by
 obtain ⟨x,y,rfl,h1,h2⟩:=an2 h
 obtain ⟨P,rfl,_⟩:=ae6 h1
 obtain ⟨v,rfl,hv⟩:=ag1 h2
 exact anM
end Go.Proofs.YtpnliopaifpimaaGreat
