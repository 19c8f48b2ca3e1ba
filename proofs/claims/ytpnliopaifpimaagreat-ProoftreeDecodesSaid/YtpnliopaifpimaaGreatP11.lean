/- What the proof rests on, part 11: VR VS VT VU VW VX VY VZ LA LB LC LD. -/
import Derived.Test.YtpnliopaifpimaaGreatP10
set_option maxRecDepth 100000
set_option maxHeartbeats 4000000
set_option maxRecDepth 20000
namespace Go.Proofs.YtpnliopaifpimaaGreat
open Go Go.Am Go.Wr Go.Dig Go.Tr Go.LP Go.Pb
def fxL (P:Pb) (T:List Nz) (i:Nat):List Int:=(List.range P.of.length).map (fx (ntZ T) P.of.length i)
@[simp] theorem akW {P:Pb} {T:List Nz} {i:Nat}:(fxL P T i).length=P.of.length:=by simp[fxL]
theorem LL {P:Pb} {T:List Nz} {i:Nat}:zR (fx (ntZ T) P.of.length i) P.of.length=clR (fxL P T i):=ahR
def YI (P:Pb) (value:Int) (T:List Nz) (k:Nat):Prop:=∀ i (hi:i<T.length),i<k→jm P value (fxL P T i) T[i]=true
noncomputable def ba (P:Pb) (value:Int) (T:List Nz):Int:=@ite _ (YI P value T T.length) (Classical.propDecidable _) 0 13
theorem QJ {P:Pb} {value:Int} {T:List Nz} (h:YI P value T T.length):ba P value T=0:=by unfold ba; exact if_pos h
theorem QI {P:Pb} {value:Int} {T:List Nz} (h:¬ YI P value T T.length):ba P value T=13:=by unfold ba; exact if_neg h
def Pn (P:Pb) (T:List Nz) (value:Int) (i:Nat):St :=
 {env:=[(1,iv value),(2,.list 5 .plain (zI T)),(3,.ptr 3 0),(7,.sl 15 2 0 T.length),(16,.list 5 .plain (zI T)),(17,iv T.length),(18,iv i)],sto:=[(3,.var (pbC P)),(15,.arr 2 (uR (upP (ntZ T) i) (upI (ntZ T) i) T.length))]}
theorem aaZ {P:Pb} {T:List Nz} {value:Int} (hc:P.chk=0) (hk:P.of.length≤10) (hN:∀ N∈T,eK N) (hTr:yx (ntZ T)) (h1:-9223372036854775808≤value) (h2:value<9223372036854775808) :
  ze Tryz.prog pq [.agg (pbC P),iv value,.list 5 .plain (zI T)] (iv (ba P value T)):=by
 have ht:=hTr.most
 rw[gJ] at ht
 refine zn XJ (by simp) ?_
 simp[j6,eMk]
 refine ⟨by omega,by omega,?_⟩
 have e0:uR (fun _=>0) (fun _=>false) T.length=uR (upP (ntZ T) 0) (upI (ntZ T) 0) T.length:=Sv fun k hk=>by
  obtain ⟨a,b⟩:=af8 hTr (k:=k) hk
  exact ⟨a.symm,b.symm⟩
 rw[ahJ,e0]
 refine zw (Pn P T value) (fun i=>YI P value T i) T.length (by simp[Pn]) (fun i hi h=>absurd h (Nat.not_lt_zero i)) (fun i hi hI=>?_) (fun hI=>?_)
 ·have w1:=zm (k:=i) (by omega)
  have hi2:(i:Int)<T.length:=by omega
  have hx:=hN _ (List.getElem_mem hi)
  have hz:okZ T[i]=true:=(RD hi).1 (hTr.ok i hi)
  have hK:=Zr hi
  have hU:=Y3 hi
  have hIn:=TW hi
  have hleaf:¬ (ntZ T).K i=2→uR (upP (ntZ T) i) (upI (ntZ T) i) T.length=uR (upP (ntZ T) (i+1)) (upI (ntZ T) (i+1)) T.length:=fun h=>Sv fun k hk=>by
   obtain ⟨a,b⟩:=af7 hTr hi h hk
   exact ⟨a.symm,b.symm⟩
  have hbranch:∀ u v:Nat,(ntZ T).K i=2→(ntZ T).U i=u→(ntZ T).I i=v→u≠v→uR (upd (upd (upP (ntZ T) i) u i) v i) (upd (upd (upI (ntZ T) i) u false) v true) T.length=uR (upP (ntZ T) (i+1)) (upI (ntZ T) (i+1)) T.length:=fun u v h a b hne=>Sv fun k hk=>by
   obtain ⟨c,d⟩:=A3 hTr hi h a b hne hk
   exact ⟨c.symm,d.symm⟩
  have hkids:(ntZ T).K i=2→∃ u v:Nat,(ntZ T).U i=u∧(ntZ T).I i=v∧i<u∧u<T.length∧i<v∧v<T.length∧u≠v:=fun h=>by
   obtain ⟨u,v,a,b,c,d,e,f,g,_⟩:=UA hTr hi h
   exact ⟨u,v,a,b,c,d,e,f,g⟩
  have hno:jm P value (fxL P T i) T[i]=false→ba P value T=13:=fun h=>QI fun hp=>by
   have:=hp i hi hi
   rw[h] at this
   cases this
  have hyes:jm P value (fxL P T i) T[i]=true→YI P value T (i+1):=fun h j hj hji=>by
   by_cases e:j=i
   ·subst e; exact h
   ·exact hI j hj (by omega)
  have hst2:Pn P T value (i+1)={env:=[(1,iv value),(2,.list 5 .plain (zI T)),(3,.ptr 3 0),(7,.sl 15 2 0 T.length),(16,.list 5 .plain (zI T)),(17,iv T.length),(18,iv ((i:Int)+1))],sto:=[(3,.var (pbC P)),(15,.arr 2 (uR (upP (ntZ T) (i+1)) (upI (ntZ T) (i+1)) T.length))]}:=by rw[Pn]; rfl
  generalize he:T[i]=N at *
  simp[rI,Pn,hi,hi2,he,eMk]
  refine ⟨by omega,by omega,?_⟩
  rw[Ql]
  refine Ys (t:=ZK P T value i (zc N) (upP (ntZ T) i) (upI (ntZ T) i) (fun _=>0) i) (St.imp_of (by simp[ZK])) ?_
  refine CD hTr hi (by omega) (fun f hf=>?_)
  subst hf
  rw[LL]
  simp[la]
  refine za (Kq (N:=N)) (by simp) (by simp) ?_
  simp[-ux,pK]
  refine ab9 (fl:=fxL P T i) hc hk (by simp; omega) hx hz h1 h2 (by simp; exact List.take_of_length_le (by simp)) ?_
  cases hcor:jm P value (fxL P T i) N with
  | false =>
   rw[hno hcor]
   simp[pQ]
  | true =>
   have hnext:=hyes hcor
   by_cases hk:N.K=2
   ·rw[hk] at hK
    obtain ⟨u,v,hu,hv,u1,u2,v1,v2,hne⟩:=hkids hK
    have hb2:=hbranch u v hK hu hv hne
    rw[hU] at hu
    rw[hIn] at hv
    have u2':(u:Int)<T.length:=by omega
    have v2':(v:Int)<T.length:=by omega
    simp[hk,hu,hv,u2,u2',v2,v2',splice,ahK]
    simp[rH,w1,hb2,hst2]
    exact hnext
   ·have hl:=hleaf (by rw[hK]; exact hk)
    simp[hk,rH,w1,hl,hst2]
    exact hnext
 ·rw[QJ hI]
  simp[rI,Pn,lb,pQ]
end Go.Proofs.YtpnliopaifpimaaGreat

set_option maxRecDepth 20000
namespace Go.Proofs.YtpnliopaifpimaaGreat
open Go Go.Am Go.Wr Go.Dig Go.Tr Go.LP Go.Pb
def Zl (P:Pb) (T:List Nz) (k:Nat):Prop:=∀ i (hi:i<T.length),i<k→T[i].K=1→T[i].P.length=P.rows
noncomputable def TP (P:Pb) (value:Int) (T:List Nz):Int:=@ite _ (Zl P T T.length) (Classical.propDecidable _) (ba P value T) 2
noncomputable def gE (P:Pb) (value:Int) (T:List Nz):Int :=
 if P.chk≠0 then P.chk else if T.length=0 then 1 else if 65536<T.length then 3 else if vw T=false then 2 else TP P value T
theorem QR {P:Pb} {value:Int} {T:List Nz} (h:Zl P T T.length):TP P value T=ba P value T:=by unfold TP; exact if_pos h
theorem Fm {P:Pb} {value:Int} {T:List Nz} (h:¬ Zl P T T.length):TP P value T=2:=by unfold TP; exact if_neg h
def PA (P:Pb) (T:List Nz) (value:Int) (k:Nat):St :=
 {env:=[(1,iv value),(2,.list 5 .plain (zI T)),(3,.ptr 3 0),(8,iv P.rows),(30,.list 5 .plain (zI T)),(31,iv T.length),(32,iv k)],sto:=[(3,.var (pbC P))]}
theorem dv {P:Pb} {T:List Nz} {value:Int} (hk:P.of.length≤10) (hN:∀ N∈T,eK N) (hT:T.length<4611686018427387904) (h1:-9223372036854775808≤value) (h2:value<9223372036854775808) :
  ze Tryz.prog yG [.agg (pbC P),iv value,.list 5 .plain (zI T)] (iv (gE P value T)):=by
 refine zn UG (by simp) ?_
 simp[gP]
 refine za (GU (P:=P)) (by simp) (by simp) ?_
 unfold gE
 by_cases hc:P.chk=0
 rotate_left
 ·simp[hc,wk]
 by_cases c1:T.length=0
 ·have c1':T=[]:=List.eq_nil_of_length_eq_zero c1
  simp[hc,c1',wk]
 have c1':¬ (T.length:Int)=0:=by omega
 have c1'':¬ T=[]:=fun e=>c1 (by rw[e]; rfl)
 by_cases c2:65536<T.length
 ·have c2':(65536:Int)<T.length:=by omega
  simp[hc,c1,c2,c2',wk]
 have c2':¬ (65536:Int)<T.length:=by omega
 simp[hc,c1,c2,c2']
 refine za (TM (T:=T) (fun N h x hx=>(hN N h x hx).1) hT) (by simp) (by simp) ?_
 cases hb:vw T with
 | false=>simp[wk]
 | true =>
  have hTr:=vx.1 hb
  have hG:=vR hc
  have kr:=Pd (P:=P) (by have:=hG.n; omega) (by have:=hG.k; omega)
  rw[show xD P=P.rows by unfold xD; simp[hc]] at kr
  simp
  refine za kr (by simp) (by simp) ?_
  simp
  refine zw (PA P T value) (fun k=>Zl P T k) T.length (by simp[PA]) (fun i hi h=>absurd h (Nat.not_lt_zero i)) (fun i hi hI=>?_) (fun hI=>?_)
  ·have w1:=zm (k:=i) (by omega)
   have hi2:(i:Int)<T.length:=by omega
   have hyes:(T[i].K=1→T[i].P.length=P.rows)→Zl P T (i+1):=fun h j hj hji=>by
    by_cases e:j=i
    ·subst e; exact h
    ·exact hI j hj (by omega)
   have hno:¬ (T[i].K=1→T[i].P.length=P.rows)→TP P value T=2:=fun h=>Fm fun hp=>h (hp i hi hi)
   generalize he:T[i]=N at *
   by_cases a1:N.K=1
   ·by_cases a2:N.P.length=P.rows
    ·have a2':(N.P.length:Int)=P.rows:=by omega
     have hy:=hyes fun _=>a2
     simp[vm,PA,hi,hi2,he,a1,a2',w1]
     exact hy
    ·have a2':¬ (N.P.length:Int)=P.rows:=by omega
     have hy:=hno fun h=>a2 (h a1)
     simp[vm,PA,hi,hi2,he,a1,a2',hy,wk]
   ·have hy:=hyes fun h=>absurd h a1
    simp[vm,PA,hi,hi2,he,a1,w1]
    exact hy
  ·rw[QR hI]
   simp[vm,PA,l8]
   refine za (aaZ hc hk hN hTr h1 h2) (by simp) (by simp) ?_
   simp[wk]
end Go.Proofs.YtpnliopaifpimaaGreat

set_option maxRecDepth 20000

set_option maxRecDepth 20000

set_option maxRecDepth 20000

set_option maxRecDepth 20000
namespace Go.Proofs.YtpnliopaifpimaaGreat
open Go Go.Am Go.Wr Go.Dig Go.Tr Go.LP Go.Pb
def wL9:List Int→Nat→Int:=fun l k=>l.getD k 0
def P9:Pb:=⟨wL9 [1],wL9 [1],wL9 [],[0,0],[⟨0,wL9 [1],9⟩,⟨1,wL9 [1],7⟩]⟩
def pr9 (x:Rat):Nat→Rat:=upd (fun _=>0) 2 x
abbrev acd:List AV:=[iv 1,iv 0,iv 0,iv 0,iv 0,iv 0,iv 1,iv 0,iv 0,iv 0,iv 0,iv 0,iv 0,iv 0,iv 0,iv 0,iv 0,iv 0,.list 1 .full [[iv 0],[iv 0]],.list 8 .full [[iv 0,iv 1,iv 0,iv 0,iv 0,iv 0,iv 0,iv 9],[iv 1,iv 1,iv 0,iv 0,iv 0,iv 0,iv 0,iv 7]]]
noncomputable def K8 (x:Int) (k:Nat):St:={env:=[(0,iv x),(2,.ptr 2 0),(5,.ptr 5 0),(6,.sl 18 3 0 14),(20,iv 14),(21,iv k)],sto:=[(2,.var [iv 0,iv 0,iv 0,iv 0,iv 0,iv 0,iv 0,iv 0,iv 0,iv 0,iv 0,iv 0,iv 0,iv 0,iv 0,iv 0,iv 0,iv 0,uw,uw]),(5,.var acd),(18,.arr 3 (fZ (fun _=>0) k 14))]}
theorem ag8 {x:Int} (h1:-9223372036854775808≤x) (h2:x<9223372036854775808):ze Tryz.prog lN [iv x] (.tuple [.agg acd,fL (pr9 x) 14]):=by
 refine zn Jj (by simp) ?_
 simp[Yv,eMk,splice]
 have e0:fZ (fun _=>0) 0 14=[zz,zz,zz,zz,zz,zz,zz,zz,zz,zz,zz,zz,zz,zz]:=by rw[← G7]; rfl
 have k0:ze Tryz.prog xi [iv 0] (fq 0):=sL (n:=0) (by decide) (by decide)
 have kx:=sL h1 h2
 refine zw (K8 x) (fun _=>True) 14 (by simp[K8,e0]) trivial (fun k hk _=>?_) (fun _=>?_)
 ·have e:(k:Int)<14:=by omega
  have w:=zm (k:=k) (by omega)
  have hs:=Cy (f:=fun _=>0) hk
  simp[lW,K8,e]
  refine za k0 (by simp) (by simp) ?_
  simp[splice,hk,w,hs,K8]
  exact e
 ·simp[lW,dM,K8,G6]
  refine za kx (by simp) (by simp) ?_
  simp[splice,Lz,Xc,pr9]
theorem ag9 {x:Int} (h1:-9223372036854775808≤x) (h2:x<9223372036854775808):ze Tryz.prog lN [iv x] (.tuple [.agg (pbC P9),fL (pr9 x) 14]):=by
 refine Az (ag8 h1 h2) ?_
 have e:ofR P9.of=[[iv 0,iv 1,iv 0,iv 0,iv 0,iv 0,iv 0,iv 9],[iv 1,iv 1,iv 0,iv 0,iv 0,iv 0,iv 0,iv 7]]:=by
  unfold ofR P9
  simp only[List.map_cons,List.map_nil,pc]
  rfl
 have hpb:AV.imp (.agg acd) (.agg (pbC P9)):=by
  simp only[xw]
  refine X8 ?_
  have h2:AV.imp (.list 8 .full [[iv 0,iv 1,iv 0,iv 0,iv 0,iv 0,iv 0,iv 9],[iv 1,iv 1,iv 0,iv 0,iv 0,iv 0,iv 0,iv 7]]) (ofA P9.of):=by
   unfold ofA
   rw[e]
   exact qn
  have h1:AV.imp (.list 1 .full [[iv 0],[iv 0]]) (clA P9.cl):=qn
  repeat' first | exact z6 h1 (z6 h2 tT) | refine z6 AV.imp.refl ?_
 exact QL (z6 hpb (z6 AV.imp.refl tT))
end Go.Proofs.YtpnliopaifpimaaGreat

set_option maxRecDepth 20000
namespace Go.Proofs.YtpnliopaifpimaaGreat
open Go Go.Am Go.Wr Go.Dig Go.Tr Go.LP Go.Pb
def vF:List Nz:=[⟨2,0,1,2,[]⟩,⟨3,0,0,0,[]⟩,⟨3,0,0,0,[]⟩]
def F9:List Fr:=(List.range 14).map fun r=>(false,if r=2 then [9] else [],[1])
def N9:Nz:=⟨1,0,0,0,F9⟩
theorem F1 {T:List Nz} (h1:1≤T.length) (h2:T.length≤65536) (h3:∀ i (hi:i<T.length),okZ T[i]=true)
  (h4:∀ i (hi:i<T.length),T[i].K=2→(i:Int)<T[i].U∧T[i].U<T.length∧(i:Int)<T[i].I∧T[i].I<T.length∧T[i].U≠T[i].I) (h5:∀ i,1≤i→i<T.length→cnt (ntZ T) T.length i=1):yx (ntZ T) where
 one:=h1
 most:=h2
 ok:=fun i hi=>(RD hi).2 (h3 i hi)
 br:=fun i hi=>by
  have:=h4 i hi
  unfold cS
  rw[Zr hi,Y3 hi,TW hi]
  exact this
 par1:=h5
theorem Jw:∀ i (hi:i<vF.length),okZ vF[i]=true:=by decide +kernel
theorem adh:yx (ntZ vF):=F1 (by decide) (by decide) Jw (by decide) fun i h1 h2=>by
 have h2':i<3:=h2
 have:i=1∨i=2:=by omega
 rcases this with rfl | rfl<;>decide
theorem PT:∀ N∈vF,eK N:=fun N hN x hx=>by
 simp only[vF,List.mem_cons,List.not_mem_nil,or_false] at hN
 rcases hN with rfl | rfl | rfl<;>cases hx
theorem adC:vw vF=true:=vx.2 adh
theorem DA:fH vF=2:=by unfold fH; rw[if_pos adC]; decide
theorem AY:ga vF=2:=by unfold ga; rw[if_pos adC]; decide
theorem abA:vw (vF.drop 1)=false:=te fun h=>by
 have h1:=h.par1 1 (by decide) (by decide)
 exact absurd h1 (by decide)
theorem abB:vw (vF.take 2)=false:=te fun h=>by
 have h1:=(h.br 0 (by decide) (by decide)).2.2.2.1
 exact absurd h1 (by decide)
theorem agx:ga (vF.drop 1)=0:=by unfold ga; rw[abA]; rfl
theorem PS:s4 vF=[3,2,0,1,2,3,3]:=by
 unfold s4 vF
 simp[xl,encZ,bU]
theorem F2:eG [3,2,0,1,2,3,3]=0∧(Qz [3,2,0,1,2,3,3]).map Kp=vF:=by
 have h:=Lf (T:=vF) (fun N hN=>⟨fun x hx=>by
  have:=PT N hN x hx
  exact ⟨this.1,by omega,by omega⟩,by
  obtain ⟨i,hi,rfl⟩:=List.getElem_of_mem hN
  exact Jw i hi⟩) (by decide)
 rw[PS] at h
 exact ⟨h.1,by rw[h.2]; rfl⟩
theorem Fx:eG [0]=0∧Qz [0]=[]:=by
 have h:=Lf (T:=[]) (fun N hN=>by cases hN) (by decide)
 have e:s4 []=[0]:=by unfold s4; simp[bU]
 rw[e] at h
 exact h
theorem Ee:P9.chk=0:=by decide +kernel
theorem agL:∀ N∈[N9],eK N:=fun N hN x hx=>by
 rw[List.mem_singleton] at hN
 subst hN
 obtain ⟨r,_,rfl⟩:=List.mem_map.1 hx
 have h1:ok ([1]:List Nat):=fun d hd=>by rw[List.mem_singleton.1 hd]; decide
 have h9:ok (if r=2 then [9] else []:List Nat):=by
  split
  ·intro d hd; rw[List.mem_singleton.1 hd]; decide
  ·intro d hd; cases hd
 have hl:(if r=2 then [9] else []:List Nat).length≤1:=by split<;>decide
 refine ⟨⟨h9,h1,?_,?_⟩,?_,?_⟩
 ·show (if r=2 then [9] else []:List Nat).length<17179869184; omega
 ·show 1<17179869184; decide
 ·show (if r=2 then [9] else []:List Nat).length≤4; omega
 ·show 1≤4; decide
theorem aiO:okZ N9=true:=by decide +kernel
theorem Fw:yx (ntZ [N9]):=F1 (by decide) (by decide) (fun i hi=>by
 have:i=0:=by simp at hi; omega
 subst this; exact aiO) (fun i hi=>by
 have:i=0:=by simp at hi; omega
 subst this; intro h; exact absurd (show N9.K=2 from h) (by decide)) (fun i h1 h2=>by simp at h2; omega)
theorem aiN:fxL P9 [N9] 0=[0,0]:=rfl
theorem aiM:fpE P9 [0,0] (yZ N9) N9.P.length=0:=by decide +kernel
theorem aiL:bdZ P9 [0,0] N9=9:=by decide +kernel
theorem Bg:Zl P9 [N9] 1:=fun i hi _ _=>by
 have:i=0:=by simp at hi; omega
 subst this; rfl
theorem S8 {P:Pb} {value:Int} {T:List Nz} (h1:P.chk=0) (h2:yx (ntZ T)) (h3:Zl P T T.length):gE P value T=ba P value T:=by
 have a:=h2.one
 have b:=h2.most
 rw[gJ] at a b
 unfold gE
 rw[if_neg (by simp[h1]),if_neg (by omega),if_neg (by omega),vx.2 h2,if_neg (by decide),QR h3]
theorem Bf (value:Int):YI P9 value [N9] 1↔(9:Rat)<(value:Rat)+1:=by
 have key:jm P9 value (fxL P9 [N9] 0) N9=decide ((9:Rat)<(value:Rat)+1):=by
  unfold jm bdB
  rw[if_neg (by decide),if_neg (by decide),aiN,aiM,aiL]
  rfl
 constructor
 ·intro h
  have:=h 0 (by decide) (by decide)
  rw[show ([N9]:List Nz)[0]=N9 from rfl,key] at this
  exact of_decide_eq_true this
 ·intro h i hi _
  have:i=0:=by simp at hi; omega
  subst this
  rw[show ([N9]:List Nz)[0]=N9 from rfl,key]
  exact decide_eq_true h
theorem agq:gE P9 9 [N9]=0:=by
 rw[S8 Ee Fw Bg]
 exact QJ ((Bf 9).2 (by decide +kernel))
theorem agp:gE P9 8 [N9]=13:=by
 rw[S8 Ee Fw Bg]
 exact QI fun h=>absurd ((Bf 8).1 h) (by decide +kernel)
theorem aar:gE P9 9 []=1:=by unfold gE; rw[if_neg (by simp[Ee])]; rfl
theorem aas:gE P9 9 (vF.take 2)=2:=by
 unfold gE
 rw[if_neg (by simp[Ee]),if_neg (by decide),if_neg (by decide),abB]
 rfl
end Go.Proofs.YtpnliopaifpimaaGreat

set_option maxRecDepth 20000
namespace Go.Proofs.YtpnliopaifpimaaGreat
open Go Go.Am Go.Wr Go.Dig Go.Tr Go.LP Go.Pb
theorem aee:v9 F9=fR (pr9 9) 14:=by
 have a0:fr 0=[bv false,nl .plain [],nl .plain [1]]:=by
  rw[← Mu,ni,show (RF.of 0).s=false from by decide +kernel,show (RF.of 0).a=[] from by decide +kernel,show (RF.of 0).c=[1] from by decide +kernel]
 have a9:fr 9=[bv false,nl .plain [9],nl .plain [1]]:=by
  rw[← Mu,ni,show (RF.of 9).s=false from by decide +kernel,show (RF.of 9).a=[9] from by decide +kernel,show (RF.of 9).c=[1] from by decide +kernel]
 apply List.ext_getElem
 ·simp[F9]
 ·intro i h1 h2
  have hi:i<14:=by simpa using h2
  rw[aef]
  by_cases e:i=2
  ·subst e
   simp[F9,pr9,upd,a9]
  ·simp[F9,pr9,upd,e,a0]
noncomputable abbrev rN9:List (List AV):=[[iv 1,iv 0,iv 0,iv 0,fL (pr9 9) 14]]
abbrev rTw:List (List AV):=[[iv 2,iv 0,iv 1,iv 2,uw],[iv 3,iv 0,iv 0,iv 0,uw],[iv 3,iv 0,iv 0,iv 0,uw]]
theorem aeF:zI [N9]=rN9:=by
 show [[iv 1,iv 0,iv 0,iv 0,.list 3 .plain (v9 F9)]]=_
 rw[aee]
theorem CQ:AV.imp (.list 5 .full rN9) (.list 5 .plain (zI [N9])):=by rw[aeF]; exact qn
theorem ju {a b c d:AV}:kF [a,b,c,d,uw] [a,b,c,d,.list 3 .plain []] :=
 z6 AV.imp.refl (z6 AV.imp.refl (z6 AV.imp.refl (z6 AV.imp.refl (z6 (AV.imp_nil rfl) tT))))
theorem X9 {m:Am.Mode} (hm:stm m=m):AV.imp (.list 5 m rTw) (.list 5 .plain (zI vF)):=Zh hm (pF ju (pF ju (pF ju TK)))
theorem abd {m:Am.Mode} (hm:stm m=m):AV.imp (.list 5 m (rTw.take 2)) (.list 5 .plain (zI (vF.take 2))):=Zh hm (pF ju (pF ju TK))
theorem abc {m:Am.Mode} (hm:stm m=m):AV.imp (.list 5 m (rTw.drop 1)) (.list 5 .plain (zI (vF.drop 1))):=Zh hm (pF ju (pF ju TK))
theorem GA:ze Tryz.prog x5 [] (bv true):=by
 have k9:=ag9 (x:=9) (by decide) (by decide)
 refine zn Ma (by simp) ?_
 simp[Z2]
 refine za k9 (by simp) (by simp) ?_
 have hz:∀ N∈vF,okZ N=true:=fun N hN=>by
  obtain ⟨i,hi,rfl⟩:=List.getElem_of_mem hN
  exact Jw i hi
 have hP:∀ N∈vF,∀ x∈N.P,wI x:=fun N hN x hx=>(PT N hN x hx).1
 have kE:=s6 (Ct (T:=vF) hP (by decide) hz (by rw[PS]; decide)) (Mv (X9 (m:=.full) rfl))
 rw[PS] at kE
 have kD:=Lg (l:=[3,2,0,1,2,3,3]) (by decide)
 rw[Fy,F2.2,F2.1] at kD
 have kD0:ze Tryz.prog xV [.val (.string ⟨#[0]⟩)] _:=Lg (l:=[0]) (by decide)
 rw[Fy,Fx.2,Fx.1] at kD0
 have kc1:=s6 (dv (P:=P9) (T:=[N9]) (value:=9) (by decide) agL (by decide) (by decide) (by decide)) (Mw AV.imp.refl AV.imp.refl CQ)
 have kc2:=s6 (dv (P:=P9) (T:=[N9]) (value:=8) (by decide) agL (by decide) (by decide) (by decide)) (Mw AV.imp.refl AV.imp.refl CQ)
 have kc3:=s6 (dv (P:=P9) (T:=[]) (value:=9) (by decide) (fun N hN=>by cases hN) (by decide) (by decide) (by decide)) (Mw AV.imp.refl AV.imp.refl (AV.imp_nil (sz:=0) rfl))
 have kc4:=fun {m:Am.Mode} (hm:stm m=m)=>s6 (dv (P:=P9) (T:=vF.take 2) (value:=9) (by decide) (fun N hN=>PT N (List.mem_of_mem_take hN)) (by decide) (by decide) (by decide)) (Mw AV.imp.refl AV.imp.refl (abd hm))
 rw[agq] at kc1
 rw[agp] at kc2
 rw[aar] at kc3
 rw[aas] at kc4
 have kl:=s6 (L2 (T:=vF) hP (by decide)) (Mv (X9 (m:=.full) rfl))
 rw[DA] at kl
 have kd:=s6 (QB (T:=vF) hP (by decide)) (Mv (X9 (m:=.full) rfl))
 rw[AY] at kd
 have kd1:=fun {m:Am.Mode} (hm:stm m=m)=>s6 (QB (T:=vF.drop 1) (fun N hN=>hP N (List.mem_of_mem_drop hN)) (by decide)) (Mv (abc hm))
 rw[agx] at kd1
 have ks:=s6 (B4 (T:=vF) (by decide) (fun N hN=>⟨by simp only[vF,List.mem_cons,List.not_mem_nil,or_false] at hN; rcases hN with rfl | rfl | rfl<;>decide,hP N hN⟩)) (adq AV.imp.refl (X9 (m:=.full) rfl))
 simp
 refine za kE (by simp) (by simp) ?_
 simp
 refine za kD (by simp) (by simp) ?_
 simp
 refine za kD0 (by simp) (by simp) ?_
 simp
 refine za kc1 (by simp) (by simp) ?_
 simp
 refine za kc2 (by simp) (by simp) ?_
 simp
 refine za kc3 (by simp) (by simp) ?_
 simp
 refine za (kc4 (m:=.plain) rfl) (by simp) (by simp) ?_
 simp
 refine za kl (by simp) (by simp) ?_
 simp
 refine za kd (by simp) (by simp) ?_
 simp
 refine za (kd1 (m:=.plain) rfl) (by simp) (by simp) ?_
 have hstr:str [3,2,0,1,2,3,3]=⟨#[3,2,0,1,2,3,3]⟩:=rfl
 simp[hstr]
 refine za ks (by simp) (by simp) ?_
 simp[Yd]
end Go.Proofs.YtpnliopaifpimaaGreat

set_option maxRecDepth 20000

set_option maxRecDepth 20000

set_option maxRecDepth 20000

set_option maxRecDepth 20000
namespace Go.Proofs.YtpnliopaifpimaaGreat
open Go Go.Am Go.Wr Go.Dig Go.Tr Go.LP Go.Pb
theorem aqk {l:List UInt8}:ze Tryz.prog api [sv l] (bv true):=by
 refine zn apM (by simp) ?_
 by_cases hl:600<l.length
 ·have hl':(600:Int)<(str l).size:=by rw[td]; omega
  simp[apj,hl']
  refine za (xs:=[]) (args:=[]) GA rfl (.inl rfl) ?_
  simp[ao5]
 have hl':¬ (600:Int)<(str l).size:=by rw[td]; omega
 have kd:=Lg (l:=l) (by omega)
 have kr:=aqu (l:=l) (by omega)
 rw[Fy] at kd kr
 obtain ⟨T,hT⟩:∃ T,(Qz l).map Kp=T:=⟨_,rfl⟩
 rw[hT] at kd kr
 have key:∃ s,ze Tryz.prog wK [.list 5 .plain (zI T)] (.tuple [sv s,iv 0])∧(eG l=0→s=l)∧ze Tryz.prog lS [.list 5 .plain (zI T),.list 5 .plain (zI T)] (bv true):=by
  by_cases h0:eG l=0
  ·obtain ⟨a1,a2,a3⟩:=aqx h0
   rw[hT] at a1
   have hz:∀ N∈T,okZ N=true∧abk N:=fun N hN=>by
    rw[← hT] at hN
    obtain ⟨M,hM,rfl⟩:=List.mem_map.1 hN
    exact a3 M hM
   have hlen:T.length≤65536:=by rw[← hT,List.length_map]; exact a2
   exact ⟨s4 T,Ct (fun N hN x hx=>((hz N hN).2 x hx).1) hlen (fun N hN=>(hz N hN).1) (by rw[← a1]; omega),fun _=>a1.symm,
    B4 (by omega) fun N hN=>⟨by have:=FB (hz N hN).1; omega,fun x hx=>((hz N hN).2 x hx).1⟩⟩
  ·have e:T=[]:=by rw[← hT]; unfold Qz; rw[if_neg h0]; rfl
   subst e
   exact ⟨s4 [],Ct (fun N hN=>by cases hN) (by decide) (fun N hN=>by cases hN) (by unfold s4; simp[bU]),fun h=>absurd h h0,B4 (by decide) fun N hN=>by cases hN⟩
 obtain ⟨s,ke,hs,ks⟩:=key
 generalize eG l=e at *
 simp[apj,hl']
 refine za kd (by simp) (by simp) ?_
 simp
 refine za kr (by simp) (by simp) ?_
 simp
 refine za ks (by simp) (by simp) ?_
 simp
 refine za ke (by simp) (by simp) ?_
 by_cases h0:e=0
 ·have:=hs h0
  subst this h0
  simp
  refine za (xs:=[]) (args:=[]) GA rfl (.inl rfl) ?_
  simp[ao5]
 ·have h0':¬ (e:Int)=0:=by omega
  simp[h0]
  refine za (xs:=[]) (args:=[]) GA rfl (.inl rfl) ?_
  simp[ao5]
theorem prooftreeDecodes_contract (xs:List AV) (h:dE [.str] xs):ze Tryz.prog api xs (bv true):=by
 obtain ⟨x,rfl,h1⟩:=DG h
 obtain ⟨s,hs,_⟩:=h1
 rw[List.cons.injEq] at hs
 rw[hs.1,← aqD s]
 exact aqk
end Go.Proofs.YtpnliopaifpimaaGreat
