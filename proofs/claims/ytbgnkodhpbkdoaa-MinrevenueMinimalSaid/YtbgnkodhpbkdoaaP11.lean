/- What the proof rests on, part 11: M13 M14 M15 M16 OV DT OW OX OY OZ M20 M21 M22 M23 M24 M25 M26 M27. -/
import Derived.Test.YtbgnkodhpbkdoaaP10
set_option maxRecDepth 100000
set_option maxHeartbeats 4000000
namespace Go.Proofs.Ytbgnkodhpbkdoaa
open Go Go.Am Go.Dig Go.LP
section
variable {p l t:Nat→Nat} {k m:Nat}
theorem By:AV.imp (.agg [plc 3 (fR (mG k (ZR l) (ZR t)) (k+m)),plc 4 (rwZ (cfD p k k) (k+m) m)]) (pA (mA k (MB p)) sM (mG k (ZR l) (ZR t)) (k+m) m):=by
 have:rwZ (cfD p k k) (k+m) m=pR (mA k (MB p)) sM (k+m) m:=rfl
 rw[this]
 exact bu (yn (Ur afY) (yn (Ur afY) ny))
theorem Jo (hm:m≤8):23≤grow 23 m∧grow 23 m≤1600000:=by
 have h1:=mq (K:=23) hm
 have h2:grow 23 8≤1600000:=by decide
 have h3:23≤grow 23 m:=mq (K:=23) (m:=0) (Nat.zero_le m)
 omega
theorem CJ {i j:Nat}:sz 23 (mA k (MB p) i j):=by
 unfold mA
 split
 ·split
  ·exact v6
  ·exact y8
 ·split
  ·exact sW v6
  ·exact y8
theorem CK (hl:∀ j,j<k→l j≤8000000) (ht:∀ i,i<m→t i≤1000000) {j:Nat} (hj:j<k+m):sz 23 (mG k (ZR l) (ZR t) j):=by
 unfold mG
 split
 ·rename_i h; exact wX (hl j h) (by omega)
 ·exact sW (wX (by have:=ht (j-k) (by omega); omega) (by omega))
theorem Jl {q:Rat} {a x y z:AV}:zP [a,f0 q,f1 q,f2 q,x,y,z] 1 (some 3)=some (fq q):=by simp[zP]
theorem ahc {q:Rat} {a b c d e:AV}:splice [a,b,c,d,e] 0 (fr q)=[f0 q,f1 q,f2 q,d,e]:=by unfold fr; simp[splice,-qQ]
def adl (k m:Nat) (p l t:Nat→Nat) (r:AV):Prop :=
 (∃ x y v,(Opt (k+m) m (mA k (MB p)) sM (mG k (ZR l) (ZR t)) x y v∧(∀ j,sz (grow 23 m) (x j))∧(∀ i,sz (grow 23 m) (y i))∧sz (grow 23 m) v)∧r=.tuple [.agg [f0 v,f1 v,f2 v,fL y m,.list 3 .full (fR x k)],iv 0]) ∨
 (∃ x ray,Unb (k+m) m (mA k (MB p)) sM (mG k (ZR l) (ZR t)) x ray∧r=.tuple [.agg [bv false,zK,zK,zK,zK],iv 6])
theorem Ez {x:Nat→Rat} {a b:Nat} (h:a≤b):(fR x b).take a=fR x a:=by
 unfold fR
 rw[← List.map_take,List.take_range,Nat.min_eq_left h]
theorem fU (hk:k≤152) (hm:m≤8) (hp:∀ j,j<k→p j<2^m) (hl:∀ j,j<k→l j≤8000000) (ht:∀ i,i<m→t i≤1000000) :
  ∃ r,adl k m p l t r∧zc Try.prog afL [nN p l k,nT t m] r:=by
 have hp2:∀ j,j<k→p j<256:=fun j hj=>bK hm (hp j hj)
 have ka:=bg (p:=fun j=>p j) (l:=fun j=>l j) (t:=fun i=>t i) (k:=k) (m:=m) (by omega) (by omega)
 rw[Zf hk hm hp hl ht] at ka
 obtain ⟨g1,g2⟩:=Jo hm
 have hL:grow 23 m+(m+1)*(2*grow 23 m+1)≤10000000000:=by
  have:(m+1)*(2*grow 23 m+1)≤9*(2*1600000+1):=Nat.mul_le_mul (by omega) (by omega)
  omega
 have kc:=FW (n:=k+m) (m:=m) (K:=23) (A:=mA k (MB p)) (bb:=sM) (gg:=mG k (ZR l) (ZR t)) (by omega) (by omega) (by decide) (fun i j _ _=>CJ) (fun _ _=>v6) (fun j hj=>CK hl ht hj)
 obtain ⟨r,hr,hs⟩:=D7 (n:=k+m) (m:=m) (S:=23) (by omega) (by omega) hL (fun i j _ _=>CJ) (fun _ _=>v6) (fun j hj=>CK hl ht hj) kc
 have kd:=aaU hk hm hp2 hl ht
 have ks:=fJ hs (By (p:=p) (l:=l) (t:=t) (k:=k) (m:=m))
 rcases hr with ⟨x,y,v,ho,rfl⟩ | ⟨y,⟨hi,_⟩,rfl⟩ | ⟨x,ray,⟨hu,_⟩,rfl⟩
 ·refine ⟨_,.inl ⟨x,y,v,ho,rfl⟩,?_⟩
  have e1:(k:Int)≤((k+m:Nat):Int):=by omega
  have ht:=Ez (x:=x) (show k≤k+m by omega)
  obtain ⟨n,hn⟩:∃ n,k+m=n:=⟨_,rfl⟩
  rw[hn] at ks kd e1 ht
  have hkn:k≤n:=by omega
  refine zG v8 (by simp) ?_
  simp[wP]
  refine za ka (by simp) (by simp) ?_
  simp
  refine za kd (by simp) (by simp) ?_
  simp
  refine za ks (by simp) (by simp) ?_
  simp[Jl,e1,ht,ahc,wU]
 ·exact absurd (abc hi) id
 ·refine ⟨_,.inr ⟨x,ray,hu,rfl⟩,?_⟩
  refine zG v8 (by simp) ?_
  simp[wP]
  refine za ka (by simp) (by simp) ?_
  simp
  refine za kd (by simp) (by simp) ?_
  simp
  refine za ks (by simp) (by simp) ?_
  simp[wU]
end
section
variable {p l t:Nat→Nat} {k m L:Nat} {x y:Nat→Rat} {v:Rat}
theorem Y1 {p l t:Nat→Int} (hk:k<2305843009213693952) (hm:m<2305843009213693952) (he:¬ sh p l k t m=0) :
  zc Try.prog afL [nL p l k,iL t m] (.tuple [.agg [bv false,zK,zK,zK,zK],iv (sh p l k t m)]):=by
 have ka:=bg (p:=p) (l:=l) (t:=t) hk hm
 generalize sh p l k t m=e at *
 refine zG v8 (by simp) ?_
 simp[wP]
 refine za ka (by simp) (by simp) ?_
 simp[he,wU]
theorem Ft:ga (RF.of v) (fun i=>RF.of (y i)) m (fun j=>RF.of (x j)) k=Z3 v y m x k:=by
 unfold ga Z3 hL
 rw[jx (g:=y) (fun _ _=>rfl),jx (g:=x) (fun _ _=>rfl),Sk,Sl,Sm]
theorem Rl (hLb:L≤10000000) (hk:k≤152) (hm:m≤8) (hx:∀ j,j<k→sz L (x j)) (hy:∀ i,i<m→sz L (y i)) (hv:sz L v):Sb L (RF.of v) (fun i=>RF.of (y i)) m (fun j=>RF.of (x j)) k :=
 ⟨by omega,by omega,qP (by omega) hv,fun i hi=>qP (by omega) (hy i hi),fun i hi=>qP (by omega) (hx i hi),fun _=>by rw[RF.q_of]; exact zM hv (by omega),fun i hi _=>by rw[RF.q_of]; exact hy i hi,fun i hi _=>by rw[RF.q_of]; exact hx i hi⟩
theorem ZE:Y9 p l t k m (RF.of v) (fun i=>RF.of (y i)) m (fun j=>RF.of (x j)) k↔((∀ i,i<m→0≤y i)∧(∀ j,j<k→0≤x j)∧se k m (MB p) (ZR l) (ZR t) y∧zg m y=v∧x8 k m (MB p) (ZR l) (ZR t) x=v):=by
 have e1:qq (fun i=>RF.of (y i))=y:=funext fun i=>RF.q_of
 have e2:qq (fun i=>RF.of (x i))=x:=funext fun i=>RF.q_of
 unfold Y9 nG
 rw[e1,e2,RF.q_of]
 constructor
 ·rintro ⟨⟨_,h1⟩,⟨_,h2⟩,_,h3⟩
  exact ⟨fun i hi=>by have:=(h1 i hi).2; rwa [RF.q_of] at this,fun i hi=>by have:=(h2 i hi).2; rwa [RF.q_of] at this,h3⟩
 ·rintro ⟨h1,h2,h3⟩
  exact ⟨⟨rfl,fun i hi=>⟨ahx _,by rw[RF.q_of]; exact h1 i hi⟩⟩,⟨rfl,fun i hi=>⟨ahx _,by rw[RF.q_of]; exact h2 i hi⟩⟩,ahx _,h3⟩
theorem zr0 {i:Nat}:0≤ZR t i:=by
 unfold ZR
 exact_mod_cast Int.natCast_nonneg (t i)
theorem Y8 (hk:k≤152) (hm:m≤8) (hp:∀ j,j<k→p j<2^m) (hl:∀ j,j<k→l j≤8000000) (ht:∀ i,i<m→t i≤1000000)
  (ho:Opt (k+m) m (mA k (MB p)) sM (mG k (ZR l) (ZR t)) x y v∧(∀ j,sz (grow 23 m) (x j))∧(∀ i,sz (grow 23 m) (y i))∧sz (grow 23 m) v) :
  zc Try.prog wx [nN p l k,nT t m,Z3 v y m x k] (iv 0)∧zc Try.prog yC [nN p l k,nT t m,Z3 v y m x k] (iv 0):=by
 obtain ⟨g1,g2⟩:=Jo hm
 obtain ⟨ho,zx,zy,zv⟩:=ho
 obtain ⟨h1,h2,h3⟩:=f5 (fun i _=>zr0) ho
 have hf:=Rl (L:=grow 23 m) (by omega) hk hm (fun j _=>zx j) (fun i _=>zy i) zv
 have hc:=bG (ZE.2 ⟨fun i _=>ho.y0 i,fun j _=>ho.x0 j,h1,h2,h3⟩)
 have r1:=Bb hk hm hp hl ht ⟨g1,by omega⟩ hf
 have r2:=XX hk hm hp hl ht ⟨g1,by omega⟩ hf
 rw[hc,Ft] at r1 r2
 exact ⟨r1,r2⟩
theorem UU {X:Nat→Rat}:AV.imp (.agg [f0 v,f1 v,f2 v,fL y m,.list 3 .full (fR x k)]) (Z3 v y m x k) :=
 bu (yn AV.imp.refl (yn AV.imp.refl (yn AV.imp.refl (yn AV.imp.refl (yn x5 ny)))))
theorem NW {a b c:AV} {s1 s2:Nat} {m1 m2:Am.Mode} {r1 r2:List (List AV)} (h:∀ z∈[a,b,c],rf z=true∧strip z=z∧zT 1 z=false) (h1:strip (.list s1 m1 r1)=.list s1 m1 r1) (h2:strip (.list s2 m2 r2)=.list s2 m2 r2) :
  zc Try.prog rW [.agg [a,b,c,.list s1 m1 r1,.list s2 m2 r2]] (.agg [a,b,c,.list s1 m1 r1,.list s2 m2 r2]):=by
 simp only[List.mem_cons,List.not_mem_nil,or_false,forall_eq_or_imp,forall_eq] at h
 obtain ⟨⟨a1,a2,a3⟩,⟨b1,b2,b3⟩,⟨c1,c2,c3⟩⟩:=h
 have d1:rf (.list s1 m1 r1)=true:=rfl
 have e1:rf (.list s2 m2 r2)=true:=rfl
 refine zG T6 (by simp) ?_
 simp[eW,a1,a2,b1,b2,c1,c2,a3,b3,c3,d1,h1,h2,e1,zP,splice,df]
theorem Xg {K:Nat} {p q:Rat} (hK:K≤137438953472) (hp:sz K p):zc Try.prog uS [fq p,fq q] (bv (decide (p=q))):=by
 refine zG Z2 (by simp) ?_
 simp[ahg]
 refine za (aby (q:=q) hK hp) (by simp) (by simp) ?_
 simp[kU]
end
def pE (j:Nat):Nat:=if j=0 then 1 else if j=1 then 2 else 3
def lE (j:Nat):Nat:=if j=2 then 10 else 4
def tE6 (_:Nat):Nat:=6
theorem gD:zc Try.prog ve [] (.list 2 .full (ry (fun j=>pE j) (fun j=>lE j) 3)):=by
 have e:ry (fun j=>pE j) (fun j=>lE j) 3=[[iv 1,iv 4],[iv 2,iv 4],[iv 3,iv 10]]:=rfl
 rw[e]
 refine zG T5 (by simp) ?_
 simp[eV,de]
theorem eI {f:Nat→Rat}:zg 2 f=f 0+f 1:=by simp only[zg]; grind
theorem X6:se 3 2 (MB pE) (ZR lE) (ZR tE6) (fun _=>5):=by
 refine ⟨fun i _=>⟨(by decide +kernel:(0:Rat)≤5),(by decide +kernel:(5:Rat)≤((6:Nat):Int))⟩,fun j hj=>?_⟩
 match j,hj with
 | 0,_=>rw[eI]; decide +kernel
 | 1,_=>rw[eI]; decide +kernel
 | 2,_=>rw[eI]; decide +kernel
theorem adM:sz 23 5:=⟨by decide,by decide⟩
theorem Sh:(∀ j,j<3→pE j<2^2)∧(∀ j,j<3→lE j≤8000000)∧∀ i,i<2→tE6 i≤1000000 :=
 ⟨fun j _=>by
  unfold pE
  split
  ·omega
  ·split<;>omega,fun j _=>by unfold lE; split<;>omega,fun i _=>by unfold tE6; omega⟩
abbrev RS:AV:=.list 2 .full (ry (fun j=>pE j) (fun j=>lE j) 3)
abbrev Y0:AV:=.list 1 .full [[iv 6],[iv 6]]
theorem kN:AV.imp Y0 (nT tE6 2):=by
 have e:nT tE6 2=.list 1 .plain [[iv 6],[iv 6]]:=rfl
 rw[e]; exact x5
theorem abG:∃ x y v,v=10∧(Opt (3+2) 2 (mA 3 (MB pE)) sM (mG 3 (ZR lE) (ZR tE6)) x y v∧(∀ j,sz (grow 23 2) (x j))∧(∀ i,sz (grow 23 2) (y i))∧sz (grow 23 2) v) ∧
  zc Try.prog afL [RS,Y0] (.tuple [.agg [f0 v,f1 v,f2 v,fL y 2,.list 3 .full (fR x 3)],iv 0]):=by
 obtain ⟨h1,h2,h3⟩:=Sh
 obtain ⟨r,hr,hs⟩:=fU (k:=3) (m:=2) (by omega) (by omega) h1 h2 h3
 rcases hr with ⟨x,y,v,ho,rfl⟩ | ⟨x,ray,hu,rfl⟩
 ·refine ⟨x,y,v,?_,ho,vM hs (YI x5 kN)⟩
  obtain ⟨q1,q2,q3⟩:=f5 (fun i _=>zr0) ho.1
  have q4:=SP (x:=x) (fun j _=>ho.1.x0 j) X6
  rw[q3,eI] at q4
  have q5:=q1.2 2 (by omega)
  rw[eI] at q5
  rw[eI] at q2
  have e1:MB pE 2 0=true:=by decide
  have e2:MB pE 2 1=true:=by decide
  rw[if_pos e1,if_pos e2,q2] at q5
  have e3:ZR lE 2=10:=rfl
  rw[e3] at q5
  grind
 ·exact absurd (Q6 hu X6) id
theorem abH:∃ x y,zc Try.prog afL [zK,zK] (.tuple [.agg [f0 0,f1 0,f2 0,fL y 0,.list 3 .full (fR x 0)],iv 0]):=by
 obtain ⟨r,hr,hs⟩:=fU (p:=pE) (l:=lE) (t:=tE6) (k:=0) (m:=0) (by omega) (by omega) (fun j h=>by omega) (fun j h=>by omega) (fun j h=>by omega)
 rcases hr with ⟨x,y,v,ho,rfl⟩ | ⟨x,ray,hu,rfl⟩
 ·have h0:v=0:=by have:=ho.1.vy; exact this.symm
  subst h0
  exact ⟨x,y,vM hs (YI (AV.imp_nil rfl) (AV.imp_nil rfl))⟩
 ·exact absurd hu.up (by simp[zg])
theorem abI:zc Try.prog afL [.list 2 .full [[iv 1,iv 7]],.list 1 .full [[iv 6]]] (.tuple [.agg [bv false,zK,zK,zK,zK],iv 6]):=by
 obtain ⟨r,hr,hs⟩:=fU (p:=fun _=>1) (l:=fun _=>7) (t:=tE6) (k:=1) (m:=1) (by omega) (by omega) (fun j h=>by decide) (fun j h=>by omega) (fun j h=>by unfold tE6; omega)
 rcases hr with ⟨x,y,v,ho,rfl⟩ | ⟨x,ray,hu,rfl⟩
 ·obtain ⟨q1,q2,q3⟩:=f5 (fun i _=>zr0) ho.1
  have a1:y 0≤ZR tE6 0:=(q1.1 0 (by omega)).2
  have a2:=q1.2 0 (by omega)
  have e1:MB (fun _=>1) 0 0=true:=by decide
  simp only[zg] at a2
  rw[if_pos e1] at a2
  have e2:ZR (fun _=>7) 0=7:=rfl
  have e3:ZR tE6 0=6:=rfl
  rw[e2] at a2
  rw[e3] at a1
  exact absurd a1 (by grind)
 ·exact vM hs (YI x5 x5)
abbrev CM:List (List AV):=[[iv 0],[iv 0],[iv 0],[iv 0],[iv 0],[iv 0],[iv 0],[iv 0],[iv 0]]
theorem AS {s:St} {K:AV→St→Prop} (h36:lk s.sto 36=some (.arr 1 CM)) (hf:lk s.sto 5004=none) (h:K (.tuple [.agg [bv false,zK,zK,zK,zK],iv 3]) ⟨s.env,pt s.sto 5004 (.var [bv false,zK,zK,zK,zK]),s.out,s.base⟩) :
  afN Try.prog afL [zK,.sl 36 1 0 9] s K:=by
 obtain ⟨env,σ,out,base⟩:=s
 simp only at h36 hf h
 have e:sh (fun _=>0) (fun _=>0) 0 (fun _=>0) 9=3:=qD (by omega)
 have ka:=bg (p:=fun _=>0) (l:=fun _=>0) (t:=fun _=>0) (k:=0) (m:=9) (by omega) (by omega)
 rw[e] at ka
 have ka:zc Try.prog xV [zK,.list 1 .plain CM] (iv 3):=vM ka (YI (AV.imp_nil rfl) AV.imp.refl)
 refine xL 5000 v8 (by simp) ?_
 simp[wP,hf]
 refine za ka (by simp[xS,h36]) (by simp) ?_
 simp[wU,splice]
 exact h
theorem abJ:zc Try.prog afL [.list 2 .full [[iv 4,iv 1]],Y0] (.tuple [.agg [bv false,zK,zK,zK,zK],iv 4]):=by
 have e:sh (fun _=>4) (fun _=>1) 1 (fun i=>tE6 i) 2=4:=wg (by omega) fun h=>by have:=(h.2 0 (by omega)).1.2; exact absurd this (by decide)
 have h:=Y1 (p:=fun _=>4) (l:=fun _=>1) (t:=fun i=>tE6 i) (k:=1) (m:=2) (by omega) (by omega) (by rw[e]; decide)
 rw[e] at h
 exact vM h (YI x5 kN)
theorem E4:yM Try.prog afL=true:=by kernel_rfl
def xE1 (j:Nat):Rat:=if j=2 then 1 else 0
def xE2 (j:Nat):Rat:=if j=2 then 0 else 1
theorem fl5:AV.imp (.list 3 .full [fr 5,fr 5]) (fL (fun _=>5) 2):=by
 have e:fR (fun _=>5) 2=[fr 5,fr 5]:=rfl
 unfold fL
 rw[e]; exact x5
theorem KB {x:Nat→Rat} {r:Int} (hx:∀ j,0≤x j∧sz 23 (x j)) (hr:(x8 3 2 (MB pE) (ZR lE) (ZR tE6) x=10∧r=0)∨(¬ x8 3 2 (MB pE) (ZR lE) (ZR tE6) x=10∧r=13)) :
  zc Try.prog yC [RS,Y0,.agg [f0 10,f1 10,f2 10,.list 3 .full [fr 5,fr 5],.list 3 .full (fR x 3)]] (iv r):=by
 obtain ⟨h1,h2,h3⟩:=Sh
 have s10:sz 23 10:=⟨by decide,by decide⟩
 have hf:=Rl (L:=23) (k:=3) (m:=2) (by omega) (by omega) (by omega) (fun j _=>(hx j).2) (fun i _=>adM) s10
 have hc:=XX (k:=3) (m:=2) (by omega) (by omega) h1 h2 h3 ⟨Nat.le_refl 23,by omega⟩ hf
 have hm:nB pE lE tE6 3 2 (RF.of 10) (fun _=>RF.of 5) 2 (fun j=>RF.of (x j)) 3=r:=by
  rcases hr with ⟨e,rfl⟩ | ⟨e,rfl⟩
  ·exact bG (ZE.2 ⟨fun _ _=>by decide +kernel,fun j _=>(hx j).1,X6,by rw[eI]; decide +kernel,e⟩)
  ·exact vi fun h=>e (ZE.1 h).2.2.2.2
 rw[hm,Ft] at hc
 exact vM hc (bz x5 kN (bu (yn AV.imp.refl (yn AV.imp.refl (yn AV.imp.refl (yn fl5 (yn x5 ny)))))))
theorem aaK:zc Try.prog yC [RS,Y0,.agg [bv false,zK,zK,zK,zK]] (iv 13):=by
 obtain ⟨w1,w2,w3⟩:=Sh
 have hf:Sb 23 ⟨false,[],[]⟩ (fun _=>⟨false,[],[]⟩) 0 (fun _=>⟨false,[],[]⟩) 0 :=
  ⟨by omega,by omega,⟨by simp[ok],by simp[ok],by simp,by simp⟩,fun i h=>by omega,fun i h=>by omega,fun h=>by
   have e:=congrArg val (congrArg RF.c (RF.of_q h))
   simp only[RF.of,zL] at e
   exact absurd e.symm (Rat.den_nz _),fun i h=>by omega,fun i h=>by omega⟩
 have hc:=XX (k:=3) (m:=2) (by omega) (by omega) w1 w2 w3 ⟨Nat.le_refl 23,by omega⟩ hf
 rw[vi fun h=>absurd h.1.1 (by omega)] at hc
 have e0:h0 ⟨false,[],[]⟩=bv false:=pF _
 have e1:h1 ⟨false,[],[]⟩=.list 1 .plain []:=pG _
 have e2:h2 ⟨false,[],[]⟩=.list 1 .plain []:=pH _
 refine vM hc (bz x5 kN ?_)
 unfold ga
 rw[e0,e1,e2]
 exact bu (yn AV.imp.refl (yn (AV.imp_nil rfl) (yn (AV.imp_nil rfl) (yn (AV.imp_nil rfl) (yn (AV.imp_nil rfl) ny)))))
theorem gk:zc Try.prog vU [] (bv true):=by
 obtain ⟨x,y,v,hv,ho,k1⟩:=abG
 obtain ⟨x2,y2,k2⟩:=abH
 obtain ⟨h1,h2,h3⟩:=Sh
 have kr:=(Y8 (k:=3) (m:=2) (by omega) (by omega) h1 h2 h3 ho).1
 have kr:=vM kr (bz x5 kN (UU (X:=x)))
 subst hv
 have kp:=NW (a:=f0 10) (b:=f1 10) (c:=f2 10) (s1:=3) (m1:=.plain) (r1:=fR y 2) (s2:=3) (m2:=.full) (r2:=fR x 3) (fun z hz=>by rcases JK.1 hz with rfl | rfl | rfl<;>simp) rfl rfl
 have i0:zc Try.prog f4 [iv 0] (fq 0):=XK
 have i1:zc Try.prog f4 [iv 1] (fq 1):=qS (n:=1) (by decide) (by decide)
 have i5:zc Try.prog f4 [iv 5] (fq 5):=qS (n:=5) (by decide) (by decide)
 have i10:zc Try.prog f4 [iv 10] (fq 10):=qS (n:=10) (by decide) (by decide)
 have s1:=Xg (K:=23) (p:=10) (q:=10) (by decide) ⟨by decide,by decide⟩
 have s0:=Xg (K:=23) (p:=0) (q:=0) (by decide) y8
 rw[decide_eq_true rfl] at s1 s0
 have c1:=KB (x:=xE1) (r:=0) (fun j=>by unfold xE1; split<;>exact ⟨by decide +kernel,by first | exact v6 | exact y8⟩) (.inl ⟨by decide +kernel,rfl⟩)
 have c2:=KB (x:=xE2) (r:=13) (fun j=>by unfold xE2; split<;>exact ⟨by decide +kernel,by first | exact v6 | exact y8⟩) (.inr ⟨by decide +kernel,rfl⟩)
 have f1:fR xE1 3=[fr 0,fr 0,fr 1]:=rfl
 have f2:fR xE2 3=[fr 1,fr 1,fr 0]:=rfl
 rw[f1] at c1
 rw[f2] at c2
 refine zG T4 (by simp) ?_
 simp[eU]
 refine za (xs:=[]) (args:=[]) gD rfl (.inl rfl) ?_
 simp
 refine za k1 (by simp) (by simp) ?_
 simp
 refine za k2 (by simp) (by simp) ?_
 simp
 refine za abI (by simp) (by simp) ?_
 simp[eMk,E4]
 refine afM (AS (by simp) (by simp) ?_)
 simp
 refine za abJ (by simp) (by simp) ?_
 simp[xf,vL]
 refine za i10 (by simp) (by simp) ?_
 simp
 refine za s1 (by simp) (by simp) ?_
 simp
 refine za (xs:=[]) (args:=[]) gD rfl (.inl rfl) ?_
 simp
 refine za kp (by simp) (by simp) ?_
 simp
 refine za kr (by simp) (by simp) ?_
 simp
 refine za i0 (by simp) (by simp) ?_
 simp
 refine za s0 (by simp) (by simp) ?_
 simp
 refine za i5 (by simp) (by simp) ?_
 simp
 refine za i0 (by simp) (by simp) ?_
 simp
 refine za i1 (by simp) (by simp) ?_
 simp
 refine za i10 (by simp) (by simp) ?_
 simp[ahc]
 refine za i10 (by simp) (by simp) ?_
 simp[ahc]
 refine za (xs:=[]) (args:=[]) gD rfl (.inl rfl) ?_
 simp
 refine za c1 (by simp) (by simp) ?_
 simp
 refine za (xs:=[]) (args:=[]) gD rfl (.inl rfl) ?_
 simp
 refine za c2 (by simp) (by simp) ?_
 simp
 refine za (xs:=[]) (args:=[]) gD rfl (.inl rfl) ?_
 simp
 refine za aaK (by simp) (by simp) ?_
 simp[dd]
abbrev Q5:Ty:=.st [.int .i64,.int .i64]
theorem EW {cs:List AV} (h:TyC (.slice Q5) cs):∃ (p l:Nat→Int) (k:Nat),cs=[nL p l k]∧k<2305843009213693952:=by
 obtain ⟨rows,rfl,hl,h⟩:=h
 obtain ⟨L,rfl,h2⟩:=ZN (fun d:Int × Int=>[iv d.1,iv d.2]) (fun _=>True) (fun r hr=>by
  obtain ⟨a1,b1,rfl,⟨n,rfl,_⟩,a2,b2,rfl,⟨n2,rfl,_⟩,rfl⟩:=hr
  exact ⟨(n,n2),rfl,trivial⟩) h
 refine ⟨fun j=>(L.getD j (0,0)).1,fun j=>(L.getD j (0,0)).2,L.length,?_,by simp[reachBytes] at hl; omega⟩
 have:=NR ((0,0):Int × Int) (fun d=>[iv d.1,iv d.2]) L
 unfold nL ry
 rw[this]
 rfl
theorem Ud {cs:List AV} (h:TyC (.slice (.int .i64)) cs):∃ (t:Nat→Int) (m:Nat),cs=[iL t m]∧m<2305843009213693952:=by
 obtain ⟨rows,rfl,hl,h⟩:=h
 obtain ⟨L,rfl,h2⟩:=ZN (fun d:Int=>[iv d]) (fun _=>True) (fun r hr=>by
  obtain ⟨n,rfl,_⟩:=hr
  exact ⟨n,rfl,trivial⟩) h
 refine ⟨fun j=>L.getD j 0,L.length,?_,by simp[reachBytes] at hl; omega⟩
 have:=NR (0:Int) (fun d=>[iv d]) L
 unfold iL agO
 rw[this]
 rfl
theorem EV {p l t:Nat→Int} {k m:Nat} (h:sh p l k t m=0):∃ pn ln tn:Nat→Nat,nL p l k=nN pn ln k∧iL t m=nT tn m∧m≤8∧k≤152∧(∀ j,j<k→pn j<2^m)∧(∀ j,j<k→ln j≤8000000)∧∀ i,i<m→tn i≤1000000:=by
 obtain ⟨h1,h2,h3,h4⟩:=Kn h
 refine ⟨fun j=>(p j).toNat,fun j=>(l j).toNat,fun i=>(t i).toNat,?_,?_,h1,h2,fun j hj=>?_,fun j hj=>?_,fun i hi=>?_⟩
 ·have:ry p l k=ry (fun j=>((p j).toNat:Int)) (fun j=>((l j).toNat:Int)) k:=wq fun j hj=>by
   have:=h4 j hj
   dsimp only
   rw[Int.toNat_of_nonneg this.1.1,Int.toNat_of_nonneg this.2.1]
  unfold nN nL
  rw[this]
 ·have:agO t m=agO (fun i=>((t i).toNat:Int)) m:=wq fun i hi=>by
   have:=h3 i hi
   dsimp only
   rw[Int.toNat_of_nonneg this.1]
  unfold nT iL
  rw[this]
 ·have:=(h4 j hj).1
  have h5:(((p j).toNat:Nat):Int)<((2^m:Nat):Int):=by rw[Int.toNat_of_nonneg this.1,Int.natCast_pow]; exact this.2
  dsimp only
  omega
 ·have:=(h4 j hj).2
  dsimp only
  omega
 ·have:=h3 i hi
  dsimp only
  omega
end Go.Proofs.Ytbgnkodhpbkdoaa

namespace Go.LP
theorem ahp {P:Nat→Prop} {r:Nat→Nat→Prop} (ht:∀ a b,r a b∨r b a) (hr:∀ a b c,r a b→r b c→r a c):∀ n,(∃ i,i<n∧P i)→∃ i,i<n∧P i∧∀ j,j<n→P j→r i j
 | 0,h=>by obtain ⟨i,hi,_⟩:=h; omega
 | n+1,h=>by
  by_cases h1:∃ i,i<n∧P i
  ·obtain ⟨i,hi,hp,hm⟩:=ahp ht hr n h1
   by_cases hn:P n
   ·rcases ht i n with h2 | h2
    ·refine ⟨i,by omega,hp,fun j hj hpj=>?_⟩
     by_cases e:j=n
     ·subst e; exact h2
     ·exact hm j (by omega) hpj
    ·refine ⟨n,by omega,hn,fun j hj hpj=>?_⟩
     by_cases e:j=n
     ·subst e; exact (ht j j).elim id id
     ·exact hr _ _ _ h2 (hm j (by omega) hpj)
   ·refine ⟨i,by omega,hp,fun j hj hpj=>?_⟩
    by_cases e:j=n
    ·subst e; exact absurd hpj hn
    ·exact hm j (by omega) hpj
  ·obtain ⟨i,hi,hp⟩:=h
   have:i=n:=by
    by_cases e:i=n
    ·exact e
    ·exact absurd ⟨i,by omega,hp⟩ h1
   subst this
   refine ⟨i,by omega,hp,fun j hj hpj=>?_⟩
   by_cases e:j=i
   ·subst e; exact (ht j j).elim id id
   ·exact absurd ⟨j,by omega,hpj⟩ h1
theorem ajH {d:zn} (h1:∃ j,j<d.c∧0<d.cst j) (h2:∀ q,q<d.c→0<d.cst q→∃ i,i<d.r∧0<d.a i q):∃ p q,mU d p q:=by
 obtain ⟨q,hq,hc,hm⟩:=ahp (P:=fun j=>0<d.cst j) (r:=fun i j=>d.fre i≤d.fre j) (fun a b=>Nat.le_total _ _) (fun a b c h1 h2=>Nat.le_trans h1 h2) d.c h1
 have tot:∀ a b:Nat,(d.b a*(1/d.a a q)<d.b b*(1/d.a b q)∨(d.b a*(1/d.a a q)=d.b b*(1/d.a b q)∧d.bas a≤d.bas b))∨(d.b b*(1/d.a b q)<d.b a*(1/d.a a q)∨(d.b b*(1/d.a b q)=d.b a*(1/d.a a q)∧d.bas b≤d.bas a)):=fun a b=>by
  rcases lt_or_le (d.b a*(1/d.a a q)) (d.b b*(1/d.a b q)) with h | h
  ·exact .inl (.inl h)
  ·by_cases e:d.b a*(1/d.a a q)=d.b b*(1/d.a b q)
   ·rcases Nat.le_total (d.bas a) (d.bas b) with h3 | h3
    ·exact .inl (.inr ⟨e,h3⟩)
    ·exact .inr (.inr ⟨e.symm,h3⟩)
   ·exact .inr (.inl (by grind))
 obtain ⟨p,hp,ha,hmp⟩:=ahp (P:=fun i=>0<d.a i q) (r:=fun a b=>d.b a*(1/d.a a q)<d.b b*(1/d.a b q)∨(d.b a*(1/d.a a q)=d.b b*(1/d.a b q)∧d.bas a≤d.bas b)) tot
  (fun a b c h3 h4=>by
   rcases h3 with h3 | ⟨h3,h5⟩<;>rcases h4 with h4 | ⟨h4,h6⟩
   ·exact .inl (by grind)
   ·exact .inl (by grind)
   ·exact .inl (by grind)
   ·exact .inr ⟨by grind,by omega⟩) d.r (h2 q hq hc)
 refine ⟨p,q,hp,hq,hc,hm,ha,fun i hi hai=>?_⟩
 have e1:d.b p=d.b p*(1/d.a p q)*d.a p q:=by grind
 have e2:d.b i=d.b i*(1/d.a i q)*d.a i q:=by grind
 have hm2:=hmp i hi hai
 generalize d.b p*(1/d.a p q)=u at *
 generalize d.b i*(1/d.a i q)=w at *
 have hpos:0<d.a p q*d.a i q:=Rat.mul_pos ha hai
 have key:d.b i*d.a p q-d.b p*d.a i q=(w-u)*(d.a p q*d.a i q):=by rw[e1,e2]; grind
 refine ⟨?_,fun he=>?_⟩
 ·have h0:0≤w-u:=by rcases hm2 with h | ⟨h,_⟩<;>grind
  have:0≤(w-u)*(d.a p q*d.a i q):=Rat.mul_nonneg h0 (Rat.le_of_lt hpos)
  grind
 ·rcases hm2 with h | ⟨_,h⟩
  ·exfalso
   have:0<(w-u)*(d.a p q*d.a i q):=Rat.mul_pos (by grind) hpos
   grind
  ·exact h
def fin (d:zn):Prop:=(∀ j,j<d.c→d.cst j≤0)∨∃ q,q<d.c∧0<d.cst q∧∀ i,i<d.r→d.a i q≤0
theorem aj2 {d:zn} (h:¬ fin d):∃ p q,mU d p q:=by
 unfold fin at h
 simp only[not_or] at h
 refine ajH ?_ fun q hq hc=>?_
 ·apply Classical.byContradiction
  intro hn
  refine h.1 fun j hj=>?_
  rcases lt_or_le 0 (d.cst j) with h1 | h1
  ·exact absurd ⟨j,hj,h1⟩ hn
  ·exact h1
 ·apply Classical.byContradiction
  intro hn
  refine h.2 ⟨q,hq,hc,fun i hi=>?_⟩
  rcases lt_or_le 0 (d.a i q) with h1 | h1
  ·exact absurd ⟨i,hi,h1⟩ hn
  ·exact h1
theorem aio {D:Nat→zn} {pp qq:Nat→Nat} {K N:Nat} (h:Run D pp qq K N):∀ k,k≤K→(D k).c=(D 0).c∧(D k).r=(D 0).r
 | 0,_=>⟨rfl,rfl⟩
 | k+1,hk=>by
  obtain ⟨h1,h2⟩:=aio h k (by omega)
  obtain ⟨_,h3⟩:=h.step k (by omega)
  rw[h3]
  exact ⟨h1,h2⟩
theorem ajo {d:zn} {N:Nat} (hb:Bij d N) (hf:feas d):∃ e,Same e d N∧feas e∧fin e∧e.c=d.c∧e.r=d.r:=by
 have step:∀ K,(∃ e,Same e d N∧feas e∧fin e∧e.c=d.c∧e.r=d.r)∨∃ D pp qq,Run D pp qq K N∧D 0=d:=fun K=>by
  induction K with
  | zero=>exact .inr ⟨fun _=>d,fun _=>0,fun _=>0,⟨hb,hf,fun k hk=>by omega⟩,rfl⟩
  | succ K ih =>
   rcases ih with h | ⟨D,pp,qq,hR,h0⟩
   ·exact .inl h
   by_cases hfin:fin (D K)
   ·refine .inl ⟨D K,⟨hR.bijs K (Nat.le_refl _),hb,fun x=>?_,fun x hx=>?_⟩,hR.feass K (Nat.le_refl _),hfin,?_,?_⟩
    ·have:=(hR.same (i:=0) (x:=x) K (by omega) (Nat.le_refl _)).1
     rw[h0] at this
     exact this.symm
    ·have:=(hR.same (i:=0) (x:=x) K (by omega) (Nat.le_refl _))
     rw[h0] at this
     exact (this.2 (this.1.2 hx)).symm
    ·rw[(aio hR K (Nat.le_refl _)).1,h0]
    ·rw[(aio hR K (Nat.le_refl _)).2,h0]
   ·obtain ⟨p,q,hB⟩:=aj2 hfin
    refine .inr ⟨fun k=>if k≤K then D k else pivot (D K) p q,upd pp K p,upd qq K q,⟨?_,?_,fun k hk=>?_⟩,?_⟩
    ·rw[if_pos (by omega)]; exact hR.bij
    ·rw[if_pos (by omega)]; exact hR.feas
    ·rw[if_pos (by omega)]
     by_cases e:k=K
     ·subst e
      rw[if_neg (by omega)]
      unfold upd
      rw[if_pos rfl,if_pos rfl]
      exact ⟨hB,rfl⟩
     ·rw[if_pos (by omega)]
      unfold upd
      rw[if_neg e,if_neg e]
      exact hR.step k (by omega)
    ·show (if 0≤K then D 0 else _)=d
     rw[if_pos (by omega)]; exact h0
 rcases step (2^N) with h | ⟨D,pp,qq,hR,_⟩
 ·exact h
 ·exact absurd hR.le (by omega)
section
variable {n m:Nat} {A:Nat→Nat→Rat} {bb gg:Nat→Rat}
def lin (n:Nat) (A:Nat→Nat→Rat) (w:Nat→Rat) (k:Nat):Rat:=if k<n then w k else-zg n fun j=>A (k-n) j*w j
theorem ajv {w:Nat→Rat} {k:Nat}:xu n A bb w k=xu n A bb (fun _=>0) k+lin n A w k:=by
 unfold xu lin
 split
 ·grind
 ·rw[zV (f:=fun j=>A (k-n) j*0) fun i _=>by grind]; grind
theorem aju {e:zn} (h:Same e (dG n m A bb gg) (n+m)) {w:Nat→Rat} (hw:∀ j,j<e.c→lin n A w (e.fre j)=0) {k:Nat} (hk:k<n):w k=0:=by
 have s1:=(h.sol _).2 (abY (n:=n) (m:=m) (A:=A) (bb:=bb) (gg:=gg) (u:=w))
 have s0:=(h.sol _).2 (abY (n:=n) (m:=m) (A:=A) (bb:=bb) (gg:=gg) (u:=fun _=>0))
 have hl:lin n A w k=w k:=if_pos hk
 rcases eZ h.bd (k:=k) (by omega) with ⟨j,hj,e1⟩ | ⟨i,hi,e1⟩
 ·rw[← hl,← e1]; exact hw j hj
 ·have h1:=s1 i hi
  have h2:=s0 i hi
  have h3:zg e.c (fun j=>e.a i j*xu n A bb w (e.fre j))=zg e.c (fun j=>e.a i j*xu n A bb (fun _=>0) (e.fre j)):=zu fun j hj=>by
   rw[ajv,hw j hj]; grind
  rw[h3,← h2,ajv,e1,hl] at h1
  grind
end
end Go.LP

namespace Go.Dt
def sumZ:Nat→(Nat→Int)→Int
 | 0,_=>0
 | n+1,f=>sumZ n f+f n
def sgk (k:Nat):Int:=if k%2=0 then 1 else -1
def ent (m:List (List Int)) (i j:Nat):Int:=(m.getD i []).getD j 0
def cut (k:Nat) (m:List (List Int)):List (List Int):=m.tail.map fun r=>r.eraseIdx k
def det:Nat→List (List Int)→Int
 | 0,_=>1
 | n+1,m=>sumZ (n+1) fun k=>sgk k*ent m 0 k*det n (cut k m)
def Sq (n:Nat) (m:List (List Int)):Prop:=m.length=n∧∀ r∈m,r.length=n
def setC (m:List (List Int)) (k:Nat) (b:List Int):List (List Int):=List.zipWith (fun r x=>r.set k x) m b
theorem ahJ {α:Type} {l:List α} (h:l.length=1):∃ a,l=[a]:=by
 match l,h with
 | [a],_=>exact ⟨a,rfl⟩
theorem ajp {α:Type} {l:List α} (h:l.length=2):∃ a b,l=[a,b]:=by
 match l,h with
 | [a,b],_=>exact ⟨a,b,rfl⟩
theorem aiY {α:Type} {l:List α} (h:l.length=3):∃ a b c,l=[a,b,c]:=by
 match l,h with
 | [a,b,c],_=>exact ⟨a,b,c,rfl⟩
theorem aiE {α:Type} {l:List α} (h:l.length=4):∃ a b c d,l=[a,b,c,d]:=by
 match l,h with
 | [a,b,c,d],_=>exact ⟨a,b,c,d,rfl⟩
def d2 (a b c d:Int):Int:=a*d-b*c
def d3 (a b c d e f g h i:Int):Int:=a*d2 e f h i-b*d2 d f g i+c*d2 d e g h
def d4 (a b c d e f g h i j k l m n o p:Int):Int:=a*d3 f g h j k l n o p-b*d3 e g h i k l m o p+c*d3 e f h i j l m n p-d*d3 e f g i j k m n o
theorem akf (a:Int):det 1 [[a]]=a:=by simp[det,sumZ,sgk,ent]
theorem ajm (a b c d:Int):det 2 [[a,b],[c,d]]=d2 a b c d:=by
 simp[det,sumZ,sgk,ent,cut,d2]; grind
theorem aiU (a b c d e f g h i:Int):det 3 [[a,b,c],[d,e,f],[g,h,i]]=d3 a b c d e f g h i:=by
 unfold det
 simp only[sumZ,cut,ent,sgk,List.tail_cons,List.map_cons,List.map_nil,List.eraseIdx_zero,List.eraseIdx_cons_succ,ajm]
 simp[d3]; grind
theorem aiV (a b c d e f g h i j k l m n o p:Int):det 4 [[a,b,c,d],[e,f,g,h],[i,j,k,l],[m,n,o,p]]=d4 a b c d e f g h i j k l m n o p:=by
 unfold det
 simp only[sumZ,cut,ent,sgk,List.tail_cons,List.map_cons,List.map_nil,List.eraseIdx_zero,List.eraseIdx_cons_succ,aiU]
 simp[d4]; grind
theorem sq1 {m:List (List Int)} (h:Sq 1 m):∃ a,m=[[a]]:=by
 obtain ⟨r,rfl⟩:=ahJ h.1
 obtain ⟨a,rfl⟩:=ahJ (h.2 r (by simp))
 exact ⟨a,rfl⟩
theorem sq2 {m:List (List Int)} (h:Sq 2 m):∃ a b c d,m=[[a,b],[c,d]]:=by
 obtain ⟨r,s,rfl⟩:=ajp h.1
 obtain ⟨a,b,rfl⟩:=ajp (h.2 r (by simp))
 obtain ⟨c,d,rfl⟩:=ajp (h.2 s (by simp))
 exact ⟨a,b,c,d,rfl⟩
theorem sq3 {m:List (List Int)} (h:Sq 3 m):∃ a b c d e f g u i,m=[[a,b,c],[d,e,f],[g,u,i]]:=by
 obtain ⟨r,s,t,rfl⟩:=aiY h.1
 obtain ⟨a,b,c,rfl⟩:=aiY (h.2 r (by simp))
 obtain ⟨d,e,f,rfl⟩:=aiY (h.2 s (by simp))
 obtain ⟨g,u,i,rfl⟩:=aiY (h.2 t (by simp))
 exact ⟨a,b,c,d,e,f,g,u,i,rfl⟩
theorem sq4 {m:List (List Int)} (h:Sq 4 m):∃ a b c d e f g u i j k l v n o p,m=[[a,b,c,d],[e,f,g,u],[i,j,k,l],[v,n,o,p]]:=by
 obtain ⟨r,s,t,q,rfl⟩:=aiE h.1
 obtain ⟨a,b,c,d,rfl⟩:=aiE (h.2 r (by simp))
 obtain ⟨e,f,g,u,rfl⟩:=aiE (h.2 s (by simp))
 obtain ⟨i,j,k,l,rfl⟩:=aiE (h.2 t (by simp))
 obtain ⟨v,n,o,p,rfl⟩:=aiE (h.2 q (by simp))
 exact ⟨a,b,c,d,e,f,g,u,i,j,k,l,v,n,o,p,rfl⟩
theorem akd {n:Nat} (hn:n≤4) {m:List (List Int)} {b:List Int} (h:Sq n m) (hb:b.length=n) {i:Nat} (hi:i<n):sumZ n (fun j=>ent m i j*det n (setC m j b))=b.getD i 0*det n m:=by
 match n,hn with
 | 0,_=>omega
 | 1,_ =>
  obtain ⟨a,rfl⟩:=sq1 h
  obtain ⟨x,rfl⟩:=ahJ hb
  have:i=0:=by omega
  subst this
  simp[sumZ,setC,ent,akf]; grind
 | 2,_ =>
  obtain ⟨a,b,c,d,rfl⟩:=sq2 h
  obtain ⟨x,y,rfl⟩:=ajp hb
  match i,hi with
  | 0,_=>simp[sumZ,setC,ent,ajm,d2]; grind
  | 1,_=>simp[sumZ,setC,ent,ajm,d2]; grind
 | 3,_ =>
  obtain ⟨a,b,c,d,e,f,g,u,w,rfl⟩:=sq3 h
  obtain ⟨x,y,z,rfl⟩:=aiY hb
  match i,hi with
  | 0,_=>simp[sumZ,setC,ent,aiU,d3,d2]; grind
  | 1,_=>simp[sumZ,setC,ent,aiU,d3,d2]; grind
  | 2,_=>simp[sumZ,setC,ent,aiU,d3,d2]; grind
 | 4,_ =>
  obtain ⟨a,b,c,d,e,f,g,u,q,j,k,l,v,n,o,p,rfl⟩:=sq4 h
  obtain ⟨x,y,z,w,rfl⟩:=aiE hb
  match i,hi with
  | 0,_=>simp[sumZ,setC,ent,aiV,d4,d3,d2]; grind
  | 1,_=>simp[sumZ,setC,ent,aiV,d4,d3,d2]; grind
  | 2,_=>simp[sumZ,setC,ent,aiV,d4,d3,d2]; grind
  | 3,_=>simp[sumZ,setC,ent,aiV,d4,d3,d2]; grind
theorem k2 {a b c d:Int} (h:d2 a b c d=0):∃ x y:Int,¬ (x=0∧y=0)∧a*x+b*y=0∧c*x+d*y=0:=by
 unfold d2 at h
 by_cases ha:a=0
 ·by_cases hc:c=0
  ·exact ⟨1,0,by simp,by subst ha; simp,by subst hc; simp⟩
  ·exact ⟨-d,c,fun h=>hc h.2,by grind,by grind⟩
 ·exact ⟨-b,a,fun h=>ha h.2,by grind,by grind⟩
theorem k3m {a b c d e f g u i:Int} (ha:a≠0) (h:d3 a b c d e f g u i=0):∃ x y z:Int,¬ (x=0∧y=0∧z=0)∧a*x+b*y+c*z=0∧d*x+e*y+f*z=0∧g*x+u*y+i*z=0:=by
 have h1:d2 (a*e-d*b) (a*f-d*c) (a*u-g*b) (a*i-g*c)=a*d3 a b c d e f g u i:=by unfold d3 d2; grind
 rw[h] at h1
 obtain ⟨y,z,h0,h2,h3⟩:=k2 (h1.trans (Int.mul_zero a))
 refine ⟨-(b*y+c*z),a*y,a*z,fun hz=>h0 ?_,by grind,by grind,by grind⟩
 have e1:=(Int.mul_eq_zero.1 hz.2.1).resolve_left ha
 have e2:=(Int.mul_eq_zero.1 hz.2.2).resolve_left ha
 exact ⟨e1,e2⟩
theorem k3 {a b c d e f g u i:Int} (h:d3 a b c d e f g u i=0):∃ x y z:Int,¬ (x=0∧y=0∧z=0)∧a*x+b*y+c*z=0∧d*x+e*y+f*z=0∧g*x+u*y+i*z=0:=by
 by_cases ha:a=0
 rotate_left
 ·exact k3m ha h
 by_cases hd:d=0
 rotate_left
 ·have e1:d3 d e f a b c g u i=- d3 a b c d e f g u i:=by unfold d3 d2; grind
  rw[h] at e1
  obtain ⟨x,y,z,h0,h1,h2,h3⟩:=k3m hd e1
  exact ⟨x,y,z,h0,h2,h1,h3⟩
 by_cases hg:g=0
 rotate_left
 ·have e1:d3 g u i d e f a b c=- d3 a b c d e f g u i:=by unfold d3 d2; grind
  rw[h] at e1
  obtain ⟨x,y,z,h0,h1,h2,h3⟩:=k3m hg e1
  exact ⟨x,y,z,h0,h3,h2,h1⟩
 exact ⟨1,0,0,by simp,by subst ha; simp,by subst hd; simp,by subst hg; simp⟩
theorem k4m {a b c d e f g u i j k l v n o p:Int} (ha:a≠0) (h:d4 a b c d e f g u i j k l v n o p=0):∃ x y z w:Int,¬ (x=0∧y=0∧z=0∧w=0)∧a*x+b*y+c*z+d*w=0∧e*x+f*y+g*z+u*w=0∧i*x+j*y+k*z+l*w=0∧v*x+n*y+o*z+p*w=0:=by
 have h1:d3 (a*f-e*b) (a*g-e*c) (a*u-e*d) (a*j-i*b) (a*k-i*c) (a*l-i*d) (a*n-v*b) (a*o-v*c) (a*p-v*d)=a*a*d4 a b c d e f g u i j k l v n o p:=by unfold d4 d3 d2; grind
 rw[h] at h1
 obtain ⟨y,z,w,h0,h2,h3,h4⟩:=k3 (h1.trans (Int.mul_zero _))
 refine ⟨-(b*y+c*z+d*w),a*y,a*z,a*w,fun hz=>h0 ?_,by grind,by grind,by grind,by grind⟩
 have e1:=(Int.mul_eq_zero.1 hz.2.1).resolve_left ha
 have e2:=(Int.mul_eq_zero.1 hz.2.2.1).resolve_left ha
 have e3:=(Int.mul_eq_zero.1 hz.2.2.2).resolve_left ha
 exact ⟨e1,e2,e3⟩
theorem k4 {a b c d e f g u i j k l v n o p:Int} (h:d4 a b c d e f g u i j k l v n o p=0):∃ x y z w:Int,¬ (x=0∧y=0∧z=0∧w=0)∧a*x+b*y+c*z+d*w=0∧e*x+f*y+g*z+u*w=0∧i*x+j*y+k*z+l*w=0∧v*x+n*y+o*z+p*w=0:=by
 by_cases ha:a=0
 rotate_left
 ·exact k4m ha h
 by_cases he:e=0
 rotate_left
 ·have e1:d4 e f g u a b c d i j k l v n o p=- d4 a b c d e f g u i j k l v n o p:=by unfold d4 d3 d2; grind
  rw[h] at e1
  obtain ⟨x,y,z,w,h0,h1,h2,h3,h4⟩:=k4m he e1
  exact ⟨x,y,z,w,h0,h2,h1,h3,h4⟩
 by_cases hi:i=0
 rotate_left
 ·have e1:d4 i j k l e f g u a b c d v n o p=- d4 a b c d e f g u i j k l v n o p:=by unfold d4 d3 d2; grind
  rw[h] at e1
  obtain ⟨x,y,z,w,h0,h1,h2,h3,h4⟩:=k4m hi e1
  exact ⟨x,y,z,w,h0,h3,h2,h1,h4⟩
 by_cases hv:v=0
 rotate_left
 ·have e1:d4 v n o p e f g u i j k l a b c d=- d4 a b c d e f g u i j k l v n o p:=by unfold d4 d3 d2; grind
  rw[h] at e1
  obtain ⟨x,y,z,w,h0,h1,h2,h3,h4⟩:=k4m hv e1
  exact ⟨x,y,z,w,h0,h4,h2,h3,h1⟩
 exact ⟨1,0,0,0,by simp,by subst ha; simp,by subst he; simp,by subst hi; simp,by subst hv; simp⟩
def nth (l:List Int) (j:Nat):Int:=l.getD j 0
theorem akt {n:Nat} (hn:n≤4) {m:List (List Int)} (h:Sq n m) (h0:det n m=0):∃ w:Nat→Int,(∃ j,j<n∧w j≠0)∧∀ i,i<n→sumZ n (fun j=>ent m i j*w j)=0:=by
 match n,hn with
 | 0,_=>simp[det] at h0
 | 1,_ =>
  obtain ⟨a,rfl⟩:=sq1 h
  rw[akf] at h0
  subst h0
  refine ⟨nth [1],⟨0,by decide,by decide⟩,fun i hi=>?_⟩
  match i,hi with
  | 0,_=>simp[sumZ,ent,nth]
 | 2,_ =>
  obtain ⟨a,b,c,d,rfl⟩:=sq2 h
  rw[ajm] at h0
  obtain ⟨x,y,h0,h1,h2⟩:=k2 h0
  refine ⟨nth [x,y],?_,fun i hi=>?_⟩
  ·by_cases hx:x=0
   ·exact ⟨1,by decide,fun hy=>h0 ⟨hx,hy⟩⟩
   ·exact ⟨0,by decide,hx⟩
  match i,hi with
  | 0,_=>simp[sumZ,ent,nth]; exact h1
  | 1,_=>simp[sumZ,ent,nth]; exact h2
 | 3,_ =>
  obtain ⟨a,b,c,d,e,f,g,u,q,rfl⟩:=sq3 h
  rw[aiU] at h0
  obtain ⟨x,y,z,h0,h1,h2,h3⟩:=k3 h0
  refine ⟨nth [x,y,z],?_,fun i hi=>?_⟩
  ·by_cases hx:x=0
   ·by_cases hy:y=0
    ·exact ⟨2,by decide,fun hz=>h0 ⟨hx,hy,hz⟩⟩
    ·exact ⟨1,by decide,hy⟩
   ·exact ⟨0,by decide,hx⟩
  match i,hi with
  | 0,_=>simp[sumZ,ent,nth]; exact h1
  | 1,_=>simp[sumZ,ent,nth]; exact h2
  | 2,_=>simp[sumZ,ent,nth]; exact h3
 | 4,_ =>
  obtain ⟨a,b,c,d,e,f,g,u,q,j,k,l,v,n,o,p,rfl⟩:=sq4 h
  rw[aiV] at h0
  obtain ⟨x,y,z,w,h0,h1,h2,h3,h4⟩:=k4 h0
  refine ⟨nth [x,y,z,w],?_,fun i hi=>?_⟩
  ·by_cases hx:x=0
   ·by_cases hy:y=0
    ·by_cases hz:z=0
     ·exact ⟨3,by decide,fun hw=>h0 ⟨hx,hy,hz,hw⟩⟩
     ·exact ⟨2,by decide,hz⟩
    ·exact ⟨1,by decide,hy⟩
   ·exact ⟨0,by decide,hx⟩
  match i,hi with
  | 0,_=>simp[sumZ,ent,nth]; exact h1
  | 1,_=>simp[sumZ,ent,nth]; exact h2
  | 2,_=>simp[sumZ,ent,nth]; exact h3
  | 3,_=>simp[sumZ,ent,nth]; exact h4
def fac:Nat→Nat
 | 0=>1
 | n+1=>(n+1)*fac n
theorem aiq {f:Nat→Int} {M:Nat}:∀ n,(∀ k,k<n→(f k).natAbs≤M)→(sumZ n f).natAbs≤n*M
 | 0,_=>by simp[sumZ]
 | n+1,h=>by
  have h1:=aiq n fun k hk=>h k (by omega)
  have h2:=h n (by omega)
  have h3:=Int.natAbs_add_le (sumZ n f) (f n)
  show (sumZ n f+f n).natAbs≤_
  rw[Nat.add_mul]
  omega
def up (k j:Nat):Nat:=if j<k then j else j+1
theorem ajr {k j n:Nat} (h:j<n):up k j<n+1:=by unfold up; split<;>omega
theorem akq {k j:Nat}:up k j≠k:=by unfold up; split<;>omega
theorem akp {k j c:Nat} (_hc:k≠c) (h:up k j=c):j=if c<k then c else c-1:=by unfold up at h; split at h<;>split<;>omega
theorem aiD {m:List (List Int)} {k i j:Nat}:ent (cut k m) i j=ent m (i+1) (up k j):=by
 unfold ent cut up
 simp only[List.getD_eq_getElem?_getD,List.getElem?_map,List.getElem?_tail]
 cases m[i+1]? with
 | none=>simp
 | some r =>
  simp only[Option.map_some,Option.getD_some,List.getElem?_eraseIdx]
  split<;>rfl
theorem ajD (k:Nat):(sgk k).natAbs=1:=by unfold sgk; split<;>rfl
theorem det_one:∀ (n:Nat) {m:List (List Int)},(∀ i j,i<n→j<n→(ent m i j).natAbs≤1)→(det n m).natAbs≤fac n
 | 0,_,_=>Nat.le_refl 1
 | n+1,m,h=>by
  refine Nat.le_trans (aiq (M:=fac n) (n+1) fun k hk=>?_) (Nat.le_refl _)
  rw[Int.natAbs_mul,Int.natAbs_mul,ajD,Nat.one_mul]
  have h1:=h 0 k (by omega) hk
  have h2:(det n (cut k m)).natAbs≤fac n:=det_one n fun i j hi hj=>by
   rw[aiD]
   exact h _ _ (by omega) (ajr hj)
  have:=Nat.mul_le_mul h1 h2
  omega
theorem det_col {B:Nat} (hB:1≤B):∀ (n:Nat) {m:List (List Int)} {c:Nat},(∀ i j,i<n→j<n→(ent m i j).natAbs≤if j=c then B else 1)→(det n m).natAbs≤fac n*B
 | 0,_,_,_=>by simpa [det,fac] using hB
 | n+1,m,c,h=>by
  have:fac (n+1)*B=(n+1)*(fac n*B):=by show (n+1)*fac n*B=_; rw[Nat.mul_assoc]
  rw[this]
  refine aiq (M:=fac n*B) (n+1) fun k hk=>?_
  rw[Int.natAbs_mul,Int.natAbs_mul,ajD,Nat.one_mul]
  have h1:=h 0 k (by omega) hk
  by_cases e:k=c
  ·rw[if_pos e] at h1
   have h2:(det n (cut k m)).natAbs≤fac n:=det_one n fun i j hi hj=>by
    rw[aiD]
    have:=h (i+1) (up k j) (by omega) (ajr hj)
    rwa [if_neg (by rw[← e]; exact akq)] at this
   have:=Nat.mul_le_mul h1 h2
   rw[Nat.mul_comm B] at this
   exact this
  ·rw[if_neg e] at h1
   have h2:(det n (cut k m)).natAbs≤fac n*B:=det_col hB n (c:=if c<k then c else c-1) fun i j hi hj=>by
    rw[aiD]
    have:=h (i+1) (up k j) (by omega) (ajr hj)
    refine Nat.le_trans this ?_
    by_cases e2:up k j=c
    ·rw[if_pos e2,if_pos (akp e e2)]; exact Nat.le_refl _
    ·rw[if_neg e2]
     by_cases e3:j=if c<k then c else c-1
     ·rw[if_pos e3]; exact hB
     ·rw[if_neg e3]; exact Nat.le_refl 1
   have:=Nat.mul_le_mul h1 h2
   omega
end Go.Dt

namespace Go.LP
open Go.Dt
def agd (k:Nat) (S:Nat→Nat→Bool) (c j:Nat):Int:=if c<k then (if S c j=true then 1 else 0) else if (c-k)/2=j then 1 else 0
def agn (k:Nat) (l T:Nat→Nat) (c:Nat):Int:=if c<k then (l c:Int) else if (c-k)%2=0 then 0 else (T ((c-k)/2):Int)
abbrev qr (f:Nat→Nat) (j:Nat):Rat:=((f j:Int):Rat)
section
variable {k n:Nat} {S:Nat→Nat→Bool} {l T:Nat→Nat}
def oA (k:Nat) (S:Nat→Nat→Bool) (r j:Nat):Rat:=if r<k then (if S r j=true then 1 else 0) else if j=r-k then 1 else 0
def oB (k n:Nat) (S:Nat→Nat→Bool) (l T:Nat→Nat) (r:Nat):Rat:=if r<k then zg n (fun j=>if S r j=true then qr T j else 0)-qr l r else qr T (r-k)
theorem ais {x:Nat→Rat} {r:Nat} (h:r<k):zg n (fun j=>oA k S r j*x j)=zg n (fun j=>if S r j=true then x j else 0):=zu fun j _=>by
 unfold oA; rw[if_pos h]; split<;>grind
theorem ahZ {x:Nat→Rat} {i:Nat} (h:i<n):zg n (fun j=>oA k S (k+i) j*x j)=x i:=by
 rw[xP (q:=i) h fun j _ hne=>by unfold oA; rw[if_neg (by omega),if_neg (by omega)]; grind]
 unfold oA; rw[if_neg (by omega),if_pos (by omega)]; grind
def phi (k n v:Nat):Nat:=if v<n then k+2*v+1 else if v<n+k then v-n else k+2*(v-n-k)
theorem aki {v:Nat} (h:v<n+(k+n)):phi k n v<k+2*n:=by unfold phi; split<;>(try split)<;>omega
theorem aj5 {v w:Nat} (_h:v<n+(k+n)) (_h2:w<n+(k+n)) (he:phi k n v=phi k n w):v=w:=by
 unfold phi at he; split at he<;>(try split at he)<;>(try split at he)<;>(try split at he)<;>omega
theorem ajj {c:Nat} (h:c<k) {x:Nat→Rat}:zg n (fun j=>((agd k S c j:Int):Rat)*x j)=zg n (fun j=>if S c j=true then x j else 0):=zu fun j _=>by
 unfold agd; rw[if_pos h]; split<;>grind
theorem row_one {c:Nat} (h:¬ c<k) {x:Nat→Rat} (h2:(c-k)/2<n):zg n (fun j=>((agd k S c j:Int):Rat)*x j)=x ((c-k)/2):=by
 rw[xP (q:=(c-k)/2) h2 fun j _ hne=>by unfold agd; rw[if_neg h,if_neg (by omega)]; grind]
 unfold agd; rw[if_neg h,if_pos rfl]; grind
theorem akm (hT:se k n S (qr l) (qr T) (qr T)):∃ (C:List Nat) (z:Nat→Rat),C.length=n∧C.Pairwise (·<·)∧(∀ c∈C,c<k+2*n)∧se k n S (qr l) (qr T) z ∧
  (∀ c∈C,zg n (fun j=>((agd k S c j:Int):Rat)*z j)=((agn k l T c:Int):Rat)) ∧
  (∀ w:Nat→Rat,(∀ c∈C,zg n (fun j=>((agd k S c j:Int):Rat)*w j)=0)→∀ j,j<n→w j=0) ∧
  ∀ y,se k n S (qr l) (qr T) y→zg n z≤zg n y:=by
 have hb0:∀ r,r<k+n→0≤oB k n S l T r:=fun r hr=>by
  unfold oB
  split
  ·rename_i h; have:=hT.2 r h; grind
  ·have:=(hT.1 (r-k) (by omega)).1; exact this
 obtain ⟨e,hs,hf,hfin,hc,_⟩:=ajo (KP (n:=n) (m:=k+n) (A:=oA k S) (bb:=oB k n S l T) (gg:=fun _=>1)) (fun i hi=>hb0 i hi)
 have hec:e.c=n:=hc
 have hcst:∀ j,j<e.c→e.cst j≤0:=by
  rcases hfin with h | ⟨q,hq,hp,ha⟩
  ·exact h
  ·exfalso
   have hu:=abW hs hf hq hp ha
   have h1:=hu.up
   have:zg n (fun j=>(1:Rat)*j5 e q j)=0:=zV fun j hj=>by
    have h2:=hu.rr (k+j) (by omega)
    rw[ahZ hj] at h2
    have h3:=hu.r0 j
    grind
   rw[this] at h1
   grind
 have ho:=abm hs hf hcst
 have s1:=(hs.sol _).1 (k8 hs.bd)
 have hz0:∀ j,j<e.c→vl e (e.fre j)=0:=fun j hj=>k6 (xX hs.bd hj)
 have hvl:∀ i,i<n→vl e i≤qr T i:=fun i hi=>by
  have:=ho.row (k+i) (by omega)
  rw[ahZ hi] at this
  unfold oB at this
  rwa [if_neg (by omega),show k+i-k=i by omega] at this
 have hsub:∀ r,zg n (fun j=>if S r j=true then qr T j-vl e j else 0)=zg n (fun j=>if S r j=true then qr T j else 0)-zg n (fun j=>if S r j=true then vl e j else 0):=fun r=>by
  rw[← sV]
  exact zu fun j _=>by split<;>grind
 have hfl:∀ j,j<n→e.fre j<n+(k+n):=fun j hj=>mn hs.bd (by omega)
 have eqn:∀ v,v<n+(k+n)→vl e v=0→zg n (fun j=>((agd k S (phi k n v) j:Int):Rat)*(qr T j-vl e j))=((agn k l T (phi k n v):Int):Rat):=fun v hv h0=>by
  by_cases c1:v<n
  ·have e1:phi k n v=k+2*v+1:=if_pos c1
   rw[e1,row_one (by omega) (by omega),show (k+2*v+1-k)/2=v by omega,h0]
   unfold agn
   rw[if_neg (by omega),if_neg (by omega),show (k+2*v+1-k)/2=v by omega]
   grind
  ·by_cases c2:v<n+k
   ·have e1:phi k n v=v-n:=by unfold phi; rw[if_neg c1,if_pos c2]
    rw[e1,ajj (by omega),hsub]
    have h2:=Xo s1 (i:=v-n) (by omega)
    rw[show n+(v-n)=v by omega,h0,ais (by omega)] at h2
    unfold oB at h2
    rw[if_pos (by omega)] at h2
    unfold agn
    rw[if_pos (by omega)]
    show _=qr l (v-n)
    grind
   ·have e1:phi k n v=k+2*(v-n-k):=by unfold phi; rw[if_neg c1,if_neg c2]
    rw[e1,row_one (by omega) (by omega),show (k+2*(v-n-k)-k)/2=v-n-k by omega]
    have h2:=Xo s1 (i:=v-n) (by omega)
    rw[show n+(v-n)=v by omega,h0] at h2
    rw[show v-n=k+(v-n-k) by omega,ahZ (by omega)] at h2
    unfold oB at h2
    rw[if_neg (by omega),show k+(v-n-k)-k=v-n-k by omega] at h2
    unfold agn
    rw[if_neg (by omega),if_pos (by omega)]
    grind
 have tri:∀ (w:Nat→Rat) v,v<n+(k+n)→zg n (fun j=>((agd k S (phi k n v) j:Int):Rat)*w j)=0→lin n (oA k S) w v=0:=fun w v hv h0=>by
  unfold lin
  by_cases c1:v<n
  ·have e1:phi k n v=k+2*v+1:=if_pos c1
   rw[e1,row_one (by omega) (by omega),show (k+2*v+1-k)/2=v by omega] at h0
   rw[if_pos c1,h0]
  ·rw[if_neg c1]
   by_cases c2:v<n+k
   ·have e1:phi k n v=v-n:=by unfold phi; rw[if_neg c1,if_pos c2]
    rw[e1,ajj (by omega)] at h0
    rw[ais (by omega),h0]
    grind
   ·have e1:phi k n v=k+2*(v-n-k):=by unfold phi; rw[if_neg c1,if_neg c2]
    rw[e1,row_one (by omega) (by omega),show (k+2*(v-n-k)-k)/2=v-n-k by omega] at h0
    rw[show v-n=k+(v-n-k) by omega,ahZ (by omega),h0]
    grind
 let L:=(List.range n).map fun j=>phi k n (e.fre j)
 have hnd:L.Nodup:=by
  refine List.pairwise_map.2 (List.Pairwise.imp_of_mem (R:=fun a b=>a≠b) (fun {a b} ha hb hne he=>hne ?_) List.nodup_range)
  have ha':a<n:=List.mem_range.1 ha
  have hb':b<n:=List.mem_range.1 hb
  exact nr hs.bd (by omega) (by omega) (aj5 (hfl a ha') (hfl b hb') he)
 have hp:=List.mergeSort_perm L (fun a b=>decide (a≤b))
 have hmem:∀ c,c∈L.mergeSort (fun a b=>decide (a≤b))→∃ j,j<n∧c=phi k n (e.fre j):=fun c hc=>by
  obtain ⟨j,hj,h⟩:=List.mem_map.1 (hp.mem_iff.1 hc)
  exact ⟨j,List.mem_range.1 hj,h.symm⟩
 have hmem2:∀ j,j<n→phi k n (e.fre j)∈L.mergeSort (fun a b=>decide (a≤b)):=fun j hj=>hp.mem_iff.2 (List.mem_map.2 ⟨j,List.mem_range.2 hj,rfl⟩)
 refine ⟨L.mergeSort (fun a b=>decide (a≤b)),fun j=>qr T j-vl e j,?_,?_,?_,⟨fun i hi=>⟨?_,?_⟩,fun r hr=>?_⟩,?_,?_,?_⟩
 ·rw[hp.length_eq]; simp[L]
 ·have h1:=List.pairwise_mergeSort (le:=fun a b:Nat=>decide (a≤b)) (fun a b c h1 h2=>by simp at *; omega) (fun a b=>by simp; omega) L
  have h2:(L.mergeSort (fun a b=>decide (a≤b))).Nodup:=hp.nodup_iff.2 hnd
  exact (h1.and h2).imp fun {a b} h=>by have:=h.1; simp at this; have:=h.2; omega
 ·intro c hc
  obtain ⟨j,hj,rfl⟩:=hmem c hc
  exact aki (hfl j hj)
 ·have:=hvl i hi; grind
 ·have:=ho.x0 i; grind
 ·rw[hsub]
  have:=ho.row r (by omega)
  rw[ais hr] at this
  unfold oB at this
  rw[if_pos hr] at this
  grind
 ·intro c hc
  obtain ⟨j,hj,rfl⟩:=hmem c hc
  exact eqn _ (hfl j hj) (hz0 j (by omega))
 ·intro w hw j hj
  exact aju hs (fun j hj=>tri w _ (hfl j (by omega)) (hw _ (hmem2 j (by omega)))) hj
 ·intro y hy
  have h1:=wB (n:=n) (m:=k+n) (A:=oA k S) (bb:=oB k n S l T) (gg:=fun _=>1) (x:=fun j=>qr T j-y j) (y:=fun i=>-cv e (n+i))
   (fun j hj=>by have:=(hy.1 j hj).2; grind)
   (fun r hr=>by
    by_cases c:r<k
    ·rw[ais c]
     unfold oB
     rw[if_pos c]
     have h2:=hy.2 r c
     have h3:zg n (fun j=>if S r j=true then qr T j-y j else 0)=zg n (fun j=>if S r j=true then qr T j else 0)-zg n (fun j=>if S r j=true then y j else 0):=by
      rw[← sV]; exact zu fun j _=>by split<;>grind
     grind
    ·rw[show r=k+(r-k) by omega,ahZ (by omega)]
     unfold oB
     rw[if_neg (by omega),show k+(r-k)-k=r-k by omega]
     have:=(hy.1 (r-k) (by omega)).1
     grind)
   (fun i hi=>ho.y0 i) (fun j hj=>ho.col j hj)
  rw[ho.vy,← ho.vx] at h1
  have e1:zg n (fun j=>(1:Rat)*(qr T j-y j))=zg n (qr T)-zg n y:=by rw[← sV]; exact zu fun j _=>by grind
  have e2:zg n (fun j=>(1:Rat)*vl e j)=zg n (vl e):=zu fun j _=>by grind
  have e3:zg n (fun j=>qr T j-vl e j)=zg n (qr T)-zg n (vl e):=sV
  rw[e3]
  rw[e1,e2] at h1
  grind
end
theorem agu {f:Nat→Int}:∀ n,((sumZ n f:Int):Rat)=zg n fun j=>((f j:Int):Rat)
 | 0=>rfl
 | n+1=>by show ((sumZ n f+f n:Int):Rat)=_; rw[Rat.intCast_add,agu n]; rfl
section
variable (k n:Nat) (S:Nat→Nat→Bool) (l T:Nat→Nat)
def afT (C:List Nat):List (List Int):=C.map fun c=>(List.range n).map (agd k S c)
def af7 (C:List Nat):List Int:=C.map (agn k l T)
def ag7 (C:List Nat):Int:=det n (afT k n S C)
def ahV (C:List Nat) (j:Nat):Int:=det n (setC (afT k n S C) j (af7 k l T C))
def afP (C:List Nat):Int:=if ag7 k n S C<0 then-ag7 k n S C else ag7 k n S C
def cx (C:List Nat) (j:Nat):Int:=if ag7 k n S C<0 then-ahV k n S l T C j else ahV k n S l T C j
def cxs (C:List Nat):List Int:=(List.range n).map (cx k n S l T C)
def afZ (x:Nat→Int) (d:Int):Prop:=(∀ i,i<n→0≤x i∧x i≤d*T i)∧∀ i,i<k→d*l i≤sumZ n fun j=>if S i j=true then x j else 0
instance (x:Nat→Int) (d:Int):Decidable (afZ k n S l T x d):=by unfold afZ; exact inferInstance
end
structure Vx where
 x:List Int
 d:Int
 s:Bool
section
variable {k n:Nat} {S:Nat→Nat→Bool} {l T:Nat→Nat} {C:List Nat}
theorem aiC (h:C.length=n):Sq n (afT k n S C):=⟨by simp[afT,h],fun r hr=>by
 obtain ⟨c,_,rfl⟩:=List.mem_map.1 hr
 simp⟩
theorem ain {i j:Nat} (h:i<C.length) (hj:j<n):ent (afT k n S C) i j=agd k S C[i] j:=by
 simp[ent,afT,List.getD_eq_getElem?_getD,h,hj]
theorem aiT {i:Nat} (h:i<C.length):(af7 k l T C).getD i 0=agn k l T C[i]:=by simp[af7,List.getD_eq_getElem?_getD,h]
theorem akc (hn:n≤4) (hC:C.length=n) {z:Nat→Rat} (hz:∀ c∈C,zg n (fun j=>((agd k S c j:Int):Rat)*z j)=((agn k l T c:Int):Rat))
  (ht:∀ w:Nat→Rat,(∀ c∈C,zg n (fun j=>((agd k S c j:Int):Rat)*w j)=0)→∀ j,j<n→w j=0) :
  0<afP k n S C∧∀ j,j<n→((cx k n S l T C j:Int):Rat)=((afP k n S C:Int):Rat)*z j:=by
 have hsq:=aiC (k:=k) (S:=S) hC
 have h0:ag7 k n S C≠0:=fun h=>by
  obtain ⟨w,⟨j,hj,hw⟩,hk⟩:=akt hn hsq h
  have:=ht (fun j=>((w j:Int):Rat)) (fun c hc=>by
   obtain ⟨i,hi,rfl⟩:=List.getElem_of_mem hc
   have h1:=hk i (by omega)
   have h2:((sumZ n (fun j=>ent (afT k n S C) i j*w j):Int):Rat)=0:=by rw[h1]; rfl
   rw[agu] at h2
   rw[← h2]
   exact zu fun j hj=>by rw[ain hi hj,Rat.intCast_mul]) j hj
  exact hw (Rat.intCast_inj.1 (by rw[this]; rfl))
 have key:∀ j,j<n→((ahV k n S l T C j:Int):Rat)=((ag7 k n S C:Int):Rat)*z j:=fun j hj=>by
  have:=ht (fun j=>((ahV k n S l T C j:Int):Rat)-((ag7 k n S C:Int):Rat)*z j) (fun c hc=>by
   have hz1:=hz c hc
   obtain ⟨i,hi,rfl⟩:=List.getElem_of_mem hc
   have h1:=akd hn hsq (b:=af7 k l T C) (by simp[af7,hC]) (i:=i) (by omega)
   have h2:((sumZ n (fun j=>ent (afT k n S C) i j*ahV k n S l T C j):Int):Rat)=(((af7 k l T C).getD i 0*det n (afT k n S C):Int):Rat):=congrArg _ h1
   rw[agu,Rat.intCast_mul,aiT hi] at h2
   have e1:zg n (fun j=>((agd k S C[i] j:Int):Rat)*(((ahV k n S l T C j:Int):Rat)-((ag7 k n S C:Int):Rat)*z j))=zg n (fun j=>((ent (afT k n S C) i j*ahV k n S l T C j:Int):Rat))-((ag7 k n S C:Int):Rat)*zg n (fun j=>((agd k S C[i] j:Int):Rat)*z j):=by
    rw[← eJ,← sV]
    exact zu fun j hj=>by rw[ain hi hj,Rat.intCast_mul]; grind
   rw[e1,h2,hz1]
   show _*((ag7 k n S C:Int):Rat)-_=0
   grind) j hj
  grind
 by_cases c:ag7 k n S C<0
 ·refine ⟨by unfold afP; rw[if_pos c]; omega,fun j hj=>?_⟩
  unfold afP cx
  rw[if_pos c,if_pos c,Rat.intCast_neg,Rat.intCast_neg,key j hj]
  grind
 ·refine ⟨by unfold afP; rw[if_neg c]; omega,fun j hj=>?_⟩
  unfold afP cx
  rw[if_neg c,if_neg c,key j hj]
theorem ajB {x:Nat→Int} {d:Int} {z:Nat→Rat} (hd:0<d) (hx:∀ j,j<n→((x j:Int):Rat)=((d:Int):Rat)*z j) (hz:se k n S (qr l) (qr T) z):afZ k n S l T x d:=by
 have hd':(0:Rat)<((d:Int):Rat):=Rat.intCast_pos.2 hd
 refine ⟨fun i hi=>⟨?_,?_⟩,fun i hi=>?_⟩
 ·apply Rat.intCast_nonneg.1
  rw[hx i hi]
  exact Rat.mul_nonneg (Rat.le_of_lt hd') (hz.1 i hi).1
 ·apply Rat.intCast_le_intCast.1
  rw[hx i hi,Rat.intCast_mul]
  have:=Rat.mul_nonneg (Rat.le_of_lt hd') (show 0≤qr T i-z i by have:=(hz.1 i hi).2; grind)
  grind
 ·apply Rat.intCast_le_intCast.1
  rw[agu,Rat.intCast_mul]
  have e:zg n (fun j=>(((if S i j=true then x j else 0:Int)):Rat))=((d:Int):Rat)*zg n (fun j=>if S i j=true then z j else 0):=by
   rw[← eJ]
   exact zu fun j hj=>by
    by_cases c:S i j=true
    ·rw[if_pos c,if_pos c,hx j hj]
    ·rw[if_neg c,if_neg c]; grind
  rw[e]
  have:=Rat.mul_nonneg (Rat.le_of_lt hd') (show 0≤zg n (fun j=>if S i j=true then z j else 0)-qr l i by have:=hz.2 i hi; grind)
  grind
theorem ajx {x:Nat→Int} {d:Int} (hd:0<d) (h:afZ k n S l T x d):se k n S (qr l) (qr T) fun j=>((x j:Int):Rat)*(1/((d:Int):Rat)):=by
 have hd':(0:Rat)<((d:Int):Rat):=Rat.intCast_pos.2 hd
 have hi':=fK hd'
 refine ⟨fun i hi=>⟨?_,?_⟩,fun i hi=>?_⟩
 ·exact Rat.mul_nonneg (Rat.intCast_nonneg.2 (h.1 i hi).1) (Rat.le_of_lt hi')
 ·have h1:=Rat.intCast_le_intCast.2 (h.1 i hi).2
  rw[Rat.intCast_mul] at h1
  have h2:=Rat.mul_nonneg (show 0≤((d:Int):Rat)*qr T i-((x i:Int):Rat) by grind) (Rat.le_of_lt hi')
  have h3:(((d:Int):Rat)*qr T i-((x i:Int):Rat))*(1/((d:Int):Rat))=qr T i-((x i:Int):Rat)*(1/((d:Int):Rat)):=by grind
  grind
 ·have h1:=Rat.intCast_le_intCast.2 (h.2 i hi)
  rw[Rat.intCast_mul,agu] at h1
  have e:zg n (fun j=>if S i j=true then ((x j:Int):Rat)*(1/((d:Int):Rat)) else 0)=zg n (fun j=>(((if S i j=true then x j else 0:Int)):Rat))*(1/((d:Int):Rat)):=by
   rw[← cN]
   exact zu fun j hj=>by
    by_cases c:S i j=true
    ·rw[if_pos c,if_pos c]
    ·rw[if_neg c,if_neg c]; grind
  rw[e]
  have h2:=Rat.mul_nonneg (show 0≤zg n (fun j=>(((if S i j=true then x j else 0:Int)):Rat))-((d:Int):Rat)*qr l i by grind) (Rat.le_of_lt hi')
  have h3:(zg n (fun j=>(((if S i j=true then x j else 0:Int)):Rat))-((d:Int):Rat)*qr l i)*(1/((d:Int):Rat))=zg n (fun j=>(((if S i j=true then x j else 0:Int)):Rat))*(1/((d:Int):Rat))-qr l i:=by grind
  grind
end
theorem aiM {f:Nat→Int}:∀ n,sumZ (n+1) f=f 0+sumZ n fun j=>f (j+1)
 | 0=>by simp[sumZ]
 | n+1=>by
  show sumZ (n+1) f+f (n+1)=f 0+(sumZ n (fun j=>f (j+1))+f (n+1))
  rw[aiM n]; omega
theorem aiI:∀ x:List Int,x.sum=sumZ x.length (nth x)
 | []=>rfl
 | a::x=>by
  rw[List.sum_cons,List.length_cons,aiM,aiI x]
  rfl
theorem aiA {f g:Nat→Int}:∀ n,(∀ j,j<n→f j=g j)→sumZ n f=sumZ n g
 | 0,_=>rfl
 | n+1,h=>by show sumZ n f+f n=sumZ n g+g n; rw[aiA n fun j hj=>h j (by omega),h n (by omega)]
section
variable (k n:Nat) (S:Nat→Nat→Bool) (l T:Nat→Nat)
def ahs (C:List Nat) (b:Vx):Vx :=
 if afP k n S C=0∨¬ afZ k n S l T (cx k n S l T C) (afP k n S C) then b
 else if b.s=false∨(cxs k n S l T C).sum*b.d<b.x.sum*afP k n S C then ⟨cxs k n S l T C,afP k n S C,true⟩ else b
def af8:Nat→List Nat→Nat→Vx→Vx
 | 0,C,_,b=>ahs k n S l T C b
 | f+1,C,a,b=>(List.range' a (k+2*n-a)).foldl (fun b i=>af8 f (C++[i]) (i+1) b) b
def OkV (v:Vx):Prop:=v.s=true→(0<v.d∧v.d≤24)∧afZ k n S l T (nth v.x) v.d∧v.x.length=n
end
def Btr (v w:Vx):Prop:=v.s=true→w.s=true∧w.x.sum*v.d≤v.x.sum*w.d
section
variable {k n:Nat} {S:Nat→Nat→Bool} {l T:Nat→Nat} {C:List Nat} {u v w:Vx}
theorem Btr.refl:Btr v v:=fun h=>⟨h,Int.le_refl _⟩
theorem Btr.trans (hv:OkV k n S l T v) (hu:u.s=true→0<u.d) (hw:w.s=true→0<w.d) (h1:Btr u v) (h2:Btr v w):Btr u w:=fun h=>by
 obtain ⟨a,b⟩:=h1 h
 obtain ⟨c,d⟩:=h2 a
 refine ⟨c,?_⟩
 have p1:=(hv a).1.1
 have p2:=hu h
 have p3:=hw c
 have e1:=Int.mul_le_mul_of_nonneg_right d (Int.le_of_lt p2)
 have e2:=Int.mul_le_mul_of_nonneg_right b (Int.le_of_lt p3)
 have e3:w.x.sum*u.d*v.d≤u.x.sum*w.d*v.d:=by
  have a1:w.x.sum*v.d*u.d=w.x.sum*u.d*v.d:=by grind
  have a2:v.x.sum*w.d*u.d=v.x.sum*u.d*w.d:=by grind
  have a3:u.x.sum*v.d*w.d=u.x.sum*w.d*v.d:=by grind
  omega
 exact Int.le_of_mul_le_mul_right e3 p1
theorem aii:0≤afP k n S C:=by unfold afP; split<;>omega
theorem ahG (hC:C.length=n) {i j:Nat} (hi:i<n) (hj:j<n):(ent (afT k n S C) i j).natAbs≤1:=by
 rw[ain (by omega) hj]
 unfold agd
 split<;>split<;>decide
theorem aiW:n≤4→fac n≤24:=fun h=>by
 match n,h with
 | 0,_=>decide
 | 1,_=>decide
 | 2,_=>decide
 | 3,_=>decide
 | 4,_=>decide
theorem ajd (hn:n≤4) (hC:C.length=n):afP k n S C≤24:=by
 have h:=det_one n (m:=afT k n S C) fun i j hi hj=>ahG hC hi hj
 have h2:=aiW hn
 unfold afP ag7
 split<;>omega
theorem ahF:(cxs k n S l T C).length=n:=by simp[cxs]
theorem ahd {j:Nat} (hj:j<n):nth (cxs k n S l T C) j=cx k n S l T C j:=by simp[nth,cxs,List.getD_eq_getElem?_getD,hj]
theorem aht {x y:Nat→Int} {d:Int} (h:∀ j,j<n→x j=y j) (hs:afZ k n S l T x d):afZ k n S l T y d:=by
 refine ⟨fun i hi=>by rw[← h i hi]; exact hs.1 i hi,fun i hi=>?_⟩
 rw[aiA (g:=fun j=>if S i j=true then x j else 0) n fun j hj=>by rw[h j hj]]
 exact hs.2 i hi
theorem aj0 (hn:n≤4) (hC:C.length=n) (hb:OkV k n S l T v):OkV k n S l T (ahs k n S l T C v)∧Btr v (ahs k n S l T C v) ∧
  (0<afP k n S C→afZ k n S l T (cx k n S l T C) (afP k n S C)→Btr ⟨cxs k n S l T C,afP k n S C,true⟩ (ahs k n S l T C v)):=by
 unfold ahs
 by_cases c:afP k n S C=0∨¬ afZ k n S l T (cx k n S l T C) (afP k n S C)
 ·rw[if_pos c]
  exact ⟨hb,Btr.refl,fun h1 h2=>c.elim (fun c=>absurd c (by omega)) fun c=>absurd h2 c⟩
 ·rw[if_neg c]
  have c1:¬ afP k n S C=0:=fun h=>c (.inl h)
  have c2:afZ k n S l T (cx k n S l T C) (afP k n S C):=Classical.byContradiction fun h=>c (.inr h)
  have hp:0<afP k n S C:=by have:=aii (k:=k) (n:=n) (S:=S) (C:=C); omega
  by_cases q:v.s=false∨(cxs k n S l T C).sum*v.d<v.x.sum*afP k n S C
  ·rw[if_pos q]
   refine ⟨fun _=>⟨⟨hp,ajd hn hC⟩,aht (fun j hj=>(ahd hj).symm) c2,ahF⟩,fun h=>⟨rfl,?_⟩,fun _ _=>Btr.refl⟩
   rcases q with q | q
   ·rw[h] at q; cases q
   ·exact Int.le_of_lt q
  ·rw[if_neg q]
   refine ⟨hb,Btr.refl,fun _ _ _=>⟨?_,?_⟩⟩
   ·cases h:v.s
    ·exact absurd (.inl h) q
    ·rfl
   ·have:¬ (cxs k n S l T C).sum*v.d<v.x.sum*afP k n S C:=fun h=>q (.inr h)
    show v.x.sum*afP k n S C≤(cxs k n S l T C).sum*v.d
    omega
theorem aiH (hn:n≤4):∀ (f:Nat) (C:List Nat) (a:Nat) (b:Vx),C.length+f=n→OkV k n S l T b→OkV k n S l T (af8 k n S l T f C a b)∧Btr b (af8 k n S l T f C a b) ∧
  ∀ t:List Nat,t.length=f→t.Pairwise (·<·)→(∀ c∈t,a≤c∧c<k+2*n)→0<afP k n S (C++t)→afZ k n S l T (cx k n S l T (C++t)) (afP k n S (C++t))→Btr ⟨cxs k n S l T (C++t),afP k n S (C++t),true⟩ (af8 k n S l T f C a b)
 | 0,C,a,b,hC,hb=>by
  obtain ⟨h1,h2,h3⟩:=aj0 (C:=C) hn (by omega) hb
  refine ⟨h1,h2,fun t ht _ _=>?_⟩
  have:t=[]:=List.eq_nil_of_length_eq_zero ht
  subst this
  rw[List.append_nil]
  exact h3
 | f+1,C,a,b,hC,hb=>by
  have key:∀ q,OkV k n S l T ((List.range' a q).foldl (fun b i=>af8 k n S l T f (C++[i]) (i+1) b) b)∧Btr b ((List.range' a q).foldl (fun b i=>af8 k n S l T f (C++[i]) (i+1) b) b) ∧
    ∀ i,a≤i→i<a+q→∀ t:List Nat,t.length=f→t.Pairwise (·<·)→(∀ c∈t,i+1≤c∧c<k+2*n)→0<afP k n S (C++[i]++t)→afZ k n S l T (cx k n S l T (C++[i]++t)) (afP k n S (C++[i]++t))→Btr ⟨cxs k n S l T (C++[i]++t),afP k n S (C++[i]++t),true⟩ ((List.range' a q).foldl (fun b i=>af8 k n S l T f (C++[i]) (i+1) b) b):=fun q=>by
   induction q with
   | zero=>exact ⟨hb,Btr.refl,fun i h1 h2=>by omega⟩
   | succ q ih =>
    obtain ⟨i1,i2,i3⟩:=ih
    have e:(List.range' a (q+1)).foldl (fun b i=>af8 k n S l T f (C++[i]) (i+1) b) b=af8 k n S l T f (C++[a+q]) (a+q+1) ((List.range' a q).foldl (fun b i=>af8 k n S l T f (C++[i]) (i+1) b) b):=by
     rw[List.range'_concat,List.foldl_append]
     simp
    rw[e]
    generalize (List.range' a q).foldl (fun b i=>af8 k n S l T f (C++[i]) (i+1) b) b=B at *
    obtain ⟨j1,j2,j3⟩:=aiH hn f (C++[a+q]) (a+q+1) B (by simp; omega) i1
    refine ⟨j1,i2.trans i1 (fun h=>(hb h).1.1) (fun h=>(j1 h).1.1) j2,fun i h1 h2 t ht hp hc hd hs=>?_⟩
    by_cases e:i=a+q
    ·subst e
     exact j3 t ht hp hc hd hs
    ·exact (i3 i h1 (by omega) t ht hp hc hd hs).trans i1 (fun _=>hd) (fun h=>(j1 h).1.1) j2
  obtain ⟨k1,k2,k3⟩:=key (k+2*n-a)
  refine ⟨k1,k2,fun t ht hp hc hd hs=>?_⟩
  match t,ht with
  | i::t,ht =>
   obtain ⟨h1,h2⟩:=List.pairwise_cons.1 hp
   have hi:=hc i (by simp)
   have e:C++i::t=C++[i]++t:=by simp
   rw[e] at hd hs ⊢
   exact k3 i hi.1 (by omega) t (by simpa using ht) h2 (fun c hcm=>⟨h1 c hcm,(hc c (by simp[hcm])).2⟩) hd hs
theorem ajb (hn:n≤4) (hT:se k n S (qr l) (qr T) (qr T)) {v:Rat} (hv:∃ y,se k n S (qr l) (qr T) y∧zg n y=v) (hl:∀ y,se k n S (qr l) (qr T) y→v≤zg n y) :
  (af8 k n S l T n [] 0 ⟨[],0,false⟩).s=true∧OkV k n S l T (af8 k n S l T n [] 0 ⟨[],0,false⟩)∧(((af8 k n S l T n [] 0 ⟨[],0,false⟩).x.sum:Int):Rat)=v*(((af8 k n S l T n [] 0 ⟨[],0,false⟩).d:Int):Rat):=by
 obtain ⟨C,z,hC,hp,hlt,hz,he,ht,hm⟩:=akm hT
 obtain ⟨hd,hx⟩:=akc hn hC he ht
 have hs:=ajB hd hx hz
 obtain ⟨r1,_,r3⟩:=aiH (k:=k) (n:=n) (S:=S) (l:=l) (T:=T) hn n [] 0 ⟨[],0,false⟩ (by simp) (fun h=>by cases h)
 have h4:=r3 C hC hp (fun c hc=>⟨Nat.zero_le c,hlt c hc⟩)
 rw[List.nil_append] at h4
 have h5:=h4 hd hs rfl
 generalize af8 k n S l T n [] 0 ⟨[],0,false⟩=B at *
 obtain ⟨g1,g2⟩:=h5
 obtain ⟨⟨o1,_⟩,o2,o3⟩:=r1 g1
 refine ⟨g1,r1,?_⟩
 have hzv:zg n z=v:=by
  obtain ⟨y,hy,hyv⟩:=hv
  have a1:=hm y hy
  have a2:=hl z hz
  grind
 have hd':(0:Rat)<((afP k n S C:Int):Rat):=Rat.intCast_pos.2 hd
 have ho':(0:Rat)<((B.d:Int):Rat):=Rat.intCast_pos.2 o1
 have b1:=hl _ (ajx o1 o2)
 rw[cN,← agu] at b1
 have eB:sumZ n (nth B.x)=B.x.sum:=by rw[aiI,o3]
 rw[eB] at b1
 have eC:(((cxs k n S l T C).sum:Int):Rat)=((afP k n S C:Int):Rat)*v:=by
  rw[aiI,ahF,agu,← hzv,← eJ]
  exact zu fun j hj=>by rw[ahd hj,hx j hj]
 have g3:=Rat.intCast_le_intCast.2 g2
 simp only[Rat.intCast_mul] at g3
 rw[eC] at g3
 have b2:v*((B.d:Int):Rat)≤((B.x.sum:Int):Rat):=by
  have:=Rat.mul_nonneg (show 0≤((B.x.sum:Int):Rat)*(1/((B.d:Int):Rat))-v by grind) (Rat.le_of_lt ho')
  have e:(((B.x.sum:Int):Rat)*(1/((B.d:Int):Rat))-v)*((B.d:Int):Rat)=((B.x.sum:Int):Rat)-v*((B.d:Int):Rat):=by grind
  grind
 have b3:((B.x.sum:Int):Rat)≤v*((B.d:Int):Rat):=by
  rcases lt_or_le (v*((B.d:Int):Rat)) ((B.x.sum:Int):Rat) with h | h
  ·exfalso
   have:=Rat.mul_pos (show 0<((B.x.sum:Int):Rat)-v*((B.d:Int):Rat) by grind) hd'
   grind
  ·exact h
 grind
end
section
variable {k m:Nat} {mem:Nat→Nat→Bool} {l t:Nat→Nat}
def afO (t:Nat→Nat) (m:Nat):List Nat:=(List.range m).filter fun i=>decide (0<t i)
def afS (t:Nat→Nat) (m j:Nat):Nat:=(afO t m).getD j 0
abbrev plS (mem:Nat→Nat→Bool) (t:Nat→Nat) (m i j:Nat):Bool:=mem i (afS t m j)
abbrev plT (t:Nat→Nat) (m j:Nat):Nat:=t (afS t m j)
theorem ah2:afO t (m+1)=if 0<t m then afO t m++[m] else afO t m:=by
 unfold afO
 rw[List.range_succ,List.filter_append]
 by_cases h:0<t m
 ·rw[if_pos h]; simp[h]
 ·rw[if_neg h]; simp[h]
theorem ahL:(afO t m).length≤m:=by
 have:=List.length_filter_le (fun i=>decide (0<t i)) (List.range m)
 simpa [afO] using this
theorem ahr {f:Nat→Rat}:∀ m,(∀ i,i<m→¬ 0<t i→f i=0)→zg m f=zg (afO t m).length fun j=>f (afS t m j)
 | 0,_=>rfl
 | m+1,h=>by
  have ih:=ahr m fun i hi=>h i (by omega)
  show zg m f+f m=_
  rw[ih]
  unfold afS
  rw[ah2]
  by_cases c:0<t m
  ·rw[if_pos c,List.length_append,List.length_singleton]
   show _=zg (afO t m).length (fun j=>f ((afO t m++[m]).getD j 0))+f ((afO t m++[m]).getD (afO t m).length 0)
   rw[zu (g:=fun j=>f ((afO t m++[m]).getD j 0)) fun j hj=>by simp[List.getD_eq_getElem?_getD,List.getElem?_append_left hj]]
   simp
  ·rw[if_neg c,h m (by omega) c]
   grind
theorem ahf {j:Nat} (h:j<(afO t m).length):afS t m j=(afO t m)[j]:=by simp[afS,List.getD_eq_getElem?_getD,h]
theorem ah1 {j:Nat} (h:j<(afO t m).length):afS t m j<m∧0<t (afS t m j):=by
 have h1:(afO t m)[j]∈afO t m:=List.getElem_mem h
 rw[← ahf h] at h1
 have:=List.mem_filter.1 h1
 simpa using this
theorem aj8 {i j:Nat} (hi:i<(afO t m).length) (hj:j<(afO t m).length) (h:afS t m i=afS t m j):i=j:=by
 rw[ahf hi,ahf hj] at h
 have hn:(afO t m).Nodup:=List.nodup_range.filter _
 exact (List.getElem_inj hn).1 h
theorem akl {i:Nat} (hi:i<m) (h:0<t i):∃ j,j<(afO t m).length∧afS t m j=i:=by
 have h1:i∈afO t m:=List.mem_filter.2 ⟨List.mem_range.2 hi,by simpa using h⟩
 obtain ⟨j,hj,he⟩:=List.getElem_of_mem h1
 exact ⟨j,hj,by rw[ahf hj]; exact he⟩
theorem aji {y:Nat→Rat} (hy:se k m mem (qr l) (qr t) y):se k (afO t m).length (plS mem t m) (qr l) (qr (plT t m)) (fun j=>y (afS t m j))∧zg (afO t m).length (fun j=>y (afS t m j))=zg m y:=by
 have h0:∀ i,i<m→¬ 0<t i→y i=0:=fun i hi h=>by
  have h1:=hy.1 i hi
  have:t i=0:=by omega
  have h2:qr t i=0:=by show ((t i:Int):Rat)=0; rw[this]; rfl
  rw[h2] at h1
  grind
 refine ⟨⟨fun j hj=>hy.1 _ (ah1 hj).1,fun i hi=>?_⟩,(ahr m h0).symm⟩
 have:=hy.2 i hi
 rw[ahr (t:=t) m fun j hj h=>by rw[h0 j hj h]; split<;>rfl] at this
 exact this
def upP (t:Nat→Nat) (m:Nat) (y:Nat→Rat) (i:Nat):Rat:=zg (afO t m).length fun j=>if afS t m j=i then y j else 0
theorem ai7 {y:Nat→Rat} {j:Nat} (hj:j<(afO t m).length):upP t m y (afS t m j)=y j:=by
 unfold upP
 rw[xP (q:=j) hj fun i hi hne=>if_neg fun h=>hne (aj8 hi hj h),if_pos rfl]
theorem ajG {y:Nat→Rat} {i:Nat} (h:¬ 0<t i):upP t m y i=0:=zV fun j hj=>if_neg fun e=>h (by rw[← e]; exact (ah1 hj).2)
theorem ako {y:Nat→Rat} (hy:se k (afO t m).length (plS mem t m) (qr l) (qr (plT t m)) y):se k m mem (qr l) (qr t) (upP t m y)∧zg m (upP t m y)=zg (afO t m).length y:=by
 have h0:∀ i,i<m→¬ 0<t i→upP t m y i=0:=fun i _ h=>ajG h
 refine ⟨⟨fun i hi=>?_,fun i hi=>?_⟩,?_⟩
 ·by_cases c:0<t i
  ·obtain ⟨j,hj,rfl⟩:=akl hi c
   rw[ai7 hj]
   exact hy.1 j hj
  ·rw[ajG c]
   exact ⟨by grind,Rat.intCast_nonneg.2 (by omega)⟩
 ·rw[ahr (t:=t) m fun j hj h=>by rw[h0 j hj h]; split<;>rfl]
  rw[zu (g:=fun j=>if plS mem t m i j=true then y j else 0) fun j hj=>by rw[ai7 hj]]
  exact hy.2 i hi
 ·rw[ahr m h0]
  exact zu fun j hj=>ai7 hj
theorem ajM {v:Rat} (h1:∃ y,se k m mem (qr l) (qr t) y∧zg m y=v) (h2:∀ y,se k m mem (qr l) (qr t) y→v≤zg m y) :
  (∃ y,se k (afO t m).length (plS mem t m) (qr l) (qr (plT t m)) y∧zg (afO t m).length y=v)∧∀ y,se k (afO t m).length (plS mem t m) (qr l) (qr (plT t m)) y→v≤zg (afO t m).length y:=by
 obtain ⟨y,hy,e⟩:=h1
 obtain ⟨a,b⟩:=aji hy
 refine ⟨⟨_,a,by rw[b,e]⟩,fun y hy=>?_⟩
 obtain ⟨c,d⟩:=ako hy
 rw[← d]
 exact h2 _ c
end
end Go.LP

namespace Go.Proofs.Ytbgnkodhpbkdoaa
open Go Go.Am Go.LP
def znR (l:List Int):List (List AV):=l.map fun x=>[iv x]
abbrev znA (l:List Int):AV:=.list 1 .plain (znR l)
def mtR (M:List (List Int)):List (List AV):=M.map fun r=>[znA r]
abbrev mtA (M:List (List Int)):AV:=.list 1 .plain (mtR M)
theorem agR {tok sz by_:Nat} {s:St} {KS:St→Prop} {rows:List (List AV)} {m:Am.Mode} {x:List AV} (h0:0<sz) (h1:s.base+tok=tok) (h2:(rows.length+1)*by_≤140737488355328) (h3:rows.length+1≤9223372036854775807) (h4:lk s.sto tok=none)
  (hK:KS ((s.dg tok).put (some tok) (apc tok sz (rows++[x])))):xH sz by_ s (some tok) KS [apc tok sz rows,.list sz m [x]]:=by
 have e:∀ r:List (List AV),apc tok sz r=wA sz tok r:=fun r=>by
  unfold apc wA
  by_cases h:r=[]
  ·subst h; simp
  ·simp[h]
 rw[e,S9 h0 h1]
 exact ⟨h2,h3,h4,by rw[← e]; exact hK⟩
theorem ail {tok sz by_:Nat} {s:St} {KS:St→Prop} {rows:List (List AV)} {x:List AV} (h0:0<sz) (h1:s.base+tok=tok) (h2:(rows.length+1)*by_≤140737488355328) (h3:rows.length+1≤9223372036854775807) (h4:lk s.sto tok=none)
  (hr:x.all rf=true) (hK:KS ((s.dg tok).put (some tok) (apc tok sz (rows++[x.map strip])))):xH sz by_ s (some tok) KS [apc tok sz rows,.lit sz [x]]:=by
 have h:=agR (m:=.plain) (x:=x.map strip) h0 h1 h2 h3 h4 hK
 have e:xB [x]=true:=by simp only[xB,List.all_cons,hr,List.all_nil,Bool.and_self]
 have e2:zQ [x]=[x.map strip]:=rfl
 unfold apc at h ⊢
 split
 ·rename_i hc
  rw[if_pos hc] at h
  obtain ⟨_,h⟩:=h
  exact ⟨rfl,e,h⟩
 ·rename_i hc
  rw[if_neg hc] at h
  obtain ⟨_,h⟩:=h
  exact ⟨rfl,e,h⟩
section
variable {M:List (List Int)} {n k i j:Nat}
@[simp] theorem ahe:(mtR M).length=M.length:=by simp[mtR]
theorem ahq (h:i<(mtR M).length):(mtR M)[i]=[znA (M[i]'(by simpa using h))]:=by simp[mtR]
theorem ajg {N:List (List Int)}:mtR (M++N)=mtR M++mtR N:=by simp[mtR]
@[simp] theorem afU {l:List Int}:(znR l).length=l.length:=by simp[znR]
@[simp] theorem aku:znR []=[]:=rfl
theorem agy {l m:List Int}:znR (l++m)=znR l++znR m:=by simp[znR]
@[simp] theorem ai9 {l:List Int} {i:Nat} {h:i<(znR l).length}:(znR l)[i]=[iv (l[i]'(by simpa using h))]:=by simp[znR]
@[simp] theorem akv {l:List Int} {x:Nat}:zU x (znR l)=znR l:=by
 unfold zU znR
 rw[List.map_map]
 exact List.map_congr_left fun a _=>by simp
@[simp] theorem akx {l:List Int}:xB (znR l)=true:=by
 unfold xB znR
 simp
@[simp] theorem aky {l:List Int}:zQ (znR l)=znR l:=by
 unfold zQ znR
 rw[List.map_map]
 exact List.map_congr_left fun a _=>by simp
theorem aka {l:List Int} {i:Nat} {x:Int}:(znR l).set i [iv x]=znR (l.set i x):=by
 unfold znR
 rw[List.map_set]
@[simp] theorem akw {l:List Int}:znR l=[]↔l=[]:=by unfold znR; simp
theorem ai1 {l:List Int} (h:l≠[]):plc 1 (znR l)=znA l:=if_neg (by simpa [znR] using h)
theorem ai8 (x:Int):IntKind.i64.wrap x=x.bmod 18446744073709551616:=by
 unfold IntKind.wrap
 have h1:IntKind.i64.bits=64:=rfl
 have h2:IntKind.i64.signed=true:=rfl
 rw[h1,h2]
 rw[Int.bmod_def]
 simp only[Bool.true_and]
 have:=Int.emod_nonneg x (b:=18446744073709551616) (by decide)
 split<;>split<;>simp_all<;>omega
theorem aks (a b:Int):IntKind.i64.wrap (IntKind.i64.wrap a*IntKind.i64.wrap b)=IntKind.i64.wrap (a*b):=by
 simp only[ai8,Int.mul_bmod_bmod,Int.bmod_mul_bmod]
theorem akr (a b:Int):IntKind.i64.wrap (IntKind.i64.wrap a+IntKind.i64.wrap b)=IntKind.i64.wrap (a+b):=by
 simp only[ai8,Int.add_bmod_bmod,Int.bmod_add_bmod]
theorem ajE:IntKind.i64.wrap (-Dt.sgk k)=Dt.sgk (k+1):=by
 unfold Dt.sgk
 by_cases h:k%2=0
 ·rw[if_pos h,if_neg (by omega)]; rfl
 ·rw[if_neg h,if_pos (by omega)]; rfl
def agz (r:List Int) (k j:Nat):List Int:=(r.take j).eraseIdx k
theorem ajQ (r:List Int):(agz r k j).length≤j:=by
 have h1:=List.length_take_le j r
 have h2:=(List.eraseIdx_sublist (r.take j) k).length_le
 unfold agz
 omega
theorem ajz {r:List Int}:agz r k (k+1)=agz r k k:=by
 unfold agz
 rw[List.eraseIdx_eq_take_drop_succ,List.eraseIdx_eq_take_drop_succ,List.take_take,List.take_take]
 simp
 omega
theorem ajO {r:List Int} (hj:j<r.length) (h:j≠k):agz r k (j+1)=agz r k j++[r[j]]:=by
 unfold agz
 rw[List.take_add_one,show r[j]?=some r[j] by simp[hj]]
 simp only[Option.toList_some]
 by_cases c:k<j
 ·rw[List.eraseIdx_append_of_lt_length (by simp; omega)]
 ·rw[List.eraseIdx_append_of_length_le (by simp; omega),List.eraseIdx_of_length_le (l:=r.take j) (by simp; omega)]
  rw[List.eraseIdx_of_length_le (by simp; omega)]
theorem ajP {r:List Int} (h:r.length=n):agz r k n=r.eraseIdx k:=by unfold agz; rw[List.take_of_length_le (by omega)]
def dS (M:List (List Int)) (n k:Nat):Int:=Dt.sumZ k fun k=>Dt.sgk k*Dt.ent M 0 k*Dt.det n (Dt.cut k M)
noncomputable def aic (M:List (List Int)) (n k:Nat):St:={env:=[(0,mtA M),(3,iv (IntKind.i64.wrap (dS M n k))),(4,iv (Dt.sgk k)),(5,iv k)],sto:=[]}
noncomputable def aiu (M:List (List Int)) (n k i:Nat):St:={env:=[(0,mtA M),(3,iv (IntKind.i64.wrap (dS M n k))),(4,iv (Dt.sgk k)),(5,iv k),(6,apc 54 1 (mtR ((Dt.cut k M).take i))),(7,iv (i+1:Nat))],sto:=[]}
noncomputable def aid (M:List (List Int)) (n k i:Nat) (r:List Int) (j:Nat):St:={env:=[(0,mtA M),(3,iv (IntKind.i64.wrap (dS M n k))),(4,iv (Dt.sgk k)),(5,iv k),(6,apc 54 1 (mtR ((Dt.cut k M).take i))),(7,iv (i+1:Nat)),(8,apc 50 1 (znR (agz r k j))),(9,iv j)],sto:=[]}
theorem ake (h:Dt.Sq (n+1) M) (hk:k<n+1):Dt.Sq n (Dt.cut k M):=by
 refine ⟨by simp[Dt.cut,h.1],fun r hr=>?_⟩
 obtain ⟨r0,h0,rfl⟩:=List.mem_map.1 hr
 have:=h.2 r0 (List.mem_of_mem_tail h0)
 rw[List.length_eraseIdx,if_pos (by omega)]
 omega
theorem ajZ (hi:i+1<M.length):(Dt.cut k M)[i]?=some (M[i+1].eraseIdx k):=by
 unfold Dt.cut
 rw[List.getElem?_map,List.getElem?_tail,List.getElem?_eq_getElem hi]
 rfl
theorem ajn:∀ (n:Nat),n≤100→∀ {M:List (List Int)},Dt.Sq n M→zc Try.prog agq [mtA M] (iv (IntKind.i64.wrap (Dt.det n M)))
 | 0,_,M,h=>by
  have:M=[]:=List.eq_nil_of_length_eq_zero h.1
  subst this
  refine zG aik (by simp) ?_
  simp[ahw,ahz,mtR,Dt.det]
  rfl
 | n+1,hn,M,h=>by
  have ih:∀ {M:List (List Int)},Dt.Sq n M→zc Try.prog agq [mtA M] (iv (IntKind.i64.wrap (Dt.det n M))):=fun {M} hM=>ajn n (by omega) hM
  have hl:=h.1
  have hne:M≠[]:=fun e=>by rw[e] at hl; simp at hl
  refine zG aik (by simp) ?_
  simp[ahw,hne]
  have h0:0<M.length:=by omega
  have hr0:M[0].length=n+1:=h.2 _ (List.getElem_mem h0)
  refine zB (aic M n) (fun _=>True) (n+1) (by simp[aic,dS,Dt.sumZ,Dt.sgk]; rfl) trivial (fun k hk _=>?_) (fun _=>?_)
  ·have e:(k:Int)<M.length:=by omega
   have hk0:k<M[0].length:=by omega
   have w1:=zC (show k<4611686018427387904 by omega)
   have hent:Dt.ent M 0 k=M[0][k]:=by simp[Dt.ent,List.getD_eq_getElem?_getD,h0,hk0]
   have hS:dS M n (k+1)=dS M n k+Dt.sgk k*M[0][k]*Dt.det n (Dt.cut k M):=by rw[← hent]; rfl
   by_cases c0:M[0][k]=0
   ·have hS':dS M n (k+1)=dS M n k:=by rw[hS,c0]; simp
    simp[agw,aic,e,ahq,h0,hk0,c0,ag1,ag2,RV,w1,ajE,hS']
   ·simp[agw,aic,e,ahq,h0,hk0,c0]
    have hcs:=ake h hk
    have hcl:(Dt.cut k M).length=n:=hcs.1
    refine zB (aiu M n k) (fun _=>True) n (by simp[aiu,mtR,lr]) trivial (fun i hi _=>?_) (fun _=>?_)
    ·have e1:(i:Int)+1<M.length:=by omega
     have hi1:i+1<M.length:=by omega
     have hri:M[i+1].length=n+1:=h.2 _ (List.getElem_mem hi1)
     have w2:IntKind.i64.wrap ((i:Int)+1+1)=(i:Int)+1+1:=by rw[wrap64]<;>omega
     have p0:(0:Int)≤(i:Int)+1:=by omega
     have p1:((i:Int)+1).toNat=i+1:=by omega
     have hcg:=ajZ (k:=k) hi1
     obtain ⟨r,hr⟩:∃ r,M[i+1]=r:=⟨_,rfl⟩
     rw[hr] at hri hcg
     simp[ag3,aiu,e1]
     refine zB (aid M n k i r) (fun _=>True) (n+1) (by simp[aid,agz,lr]) trivial (fun j hj _=>?_) (fun _=>?_)
     ·have e2:(j:Int)<M.length:=by omega
      have hjr:j<r.length:=by omega
      have w3:=zC (show j<4611686018427387904 by omega)
      by_cases cj:j=k
      ·subst cj
       simp[agv,aid,e2,w3,ajz]
      ·have cj':¬ (j:Int)=k:=by omega
       have hrk:=ajQ (k:=k) (j:=j) r
       simp[agv,aid,e2,cj',ahq,hi1,e1,p0,p1,hr,hjr]
       refine agR (by decide) rfl ?_ ?_ (by simp) ?_
       ·simp only[afU]; omega
       ·simp only[afU]; omega
       have hro:znR (agz r k j)++[[iv r[j]]]=znR (agz r k (j+1)):=by rw[ajO hjr cj,agy]; rfl
       rw[hro]
       simp[w3,aid,af0 (show ¬ 54=50 by decide)]
     ·have hn1:¬ ((n:Int)+1<M.length):=by omega
      have hn2:(M.length:Int)≤(n:Int)+1:=by omega
      simp[-cellsOf,agv,aid,ahB,hn1,xM]
      have hrk:agz r k (n+1)=r.eraseIdx k:=ajP hri
      have hne2:r.eraseIdx k≠[]:=fun he=>by
       have:=List.length_eraseIdx (l:=r) (i:=k)
       rw[if_pos (by omega),he] at this
       simp at this
       omega
      have htl:((Dt.cut k M).take i).length≤100:=by simp; omega
      refine ail (by decide) rfl ?_ ?_ (by simp) (by simp) ?_
      ·simp only[ahe]; omega
      ·simp only[ahe]; omega
      have hro:mtR ((Dt.cut k M).take i)++[[apc 50 1 (znR (agz r k (n+1)))].map strip]=mtR ((Dt.cut k M).take (i+1)):=by
       rw[List.take_add_one,hcg,ajg,hrk]
       simp only[List.map_cons,List.map_nil,ac0,ai1 hne2]
       rfl
      rw[hro]
      simp[-cellsOf,af0 (show ¬ 50=54 by decide),ahC,w2,aiu]
    ·have hlI:(n:Int)+1=M.length:=by omega
     have htk:(Dt.cut k M).take n=Dt.cut k M:=List.take_of_length_le (by omega)
     have kd:=vM (ih hcs) (ajW (Ur (sz:=1) (rows:=mtR (Dt.cut k M)) afY))
     have hw:IntKind.i64.wrap (IntKind.i64.wrap (dS M n k)+IntKind.i64.wrap (IntKind.i64.wrap (Dt.sgk k*M[0][k])*IntKind.i64.wrap (Dt.det n (Dt.cut k M))))=IntKind.i64.wrap (dS M n (k+1)):=by rw[aks,akr,hS]
     simp[ag3,aiu,ahD,hlI,ahq,h0,hk0,htk]
     refine za kd (by simp) (by simp) ?_
     simp[hw,ag1,ag2,RV,w1,ajE,aic]
  ·have hd:Dt.det (n+1) M=dS M n (n+1):=rfl
   simp[agw,aic,hl,ahE,ahz,hd]
end
section
variable {M:List (List Int)} {b:List Int} {n k i j:Nat}
def nX (M:List (List Int)) (b:List Int) (n k:Nat):Int:=if Dt.det n M<0 then-Dt.det n (Dt.setC M k b) else Dt.det n (Dt.setC M k b)
def nDt (M:List (List Int)) (n:Nat):Int:=if Dt.det n M<0 then-Dt.det n M else Dt.det n M
def nXs (M:List (List Int)) (b:List Int) (n k:Nat):List Int:=(List.range k).map (nX M b n)
theorem aj9 (h:Dt.Sq n M) (hb:b.length=n):Dt.Sq n (Dt.setC M k b):=by
 refine ⟨by simp[Dt.setC,h.1,hb],fun r hr=>?_⟩
 obtain ⟨i,hi,rfl⟩:=List.getElem_of_mem hr
 simp only[Dt.setC,List.length_zipWith] at hi
 simp only[Dt.setC,List.getElem_zipWith,List.length_set]
 exact h.2 _ (List.getElem_mem _)
theorem ai2 (hi:i<M.length) (hb:i<b.length):(Dt.setC M k b)[i]?=some (M[i].set k b[i]):=by
 unfold Dt.setC
 rw[List.getElem?_zipWith,List.getElem?_eq_getElem hi,List.getElem?_eq_getElem hb]
theorem ahA {tok sz x:Nat} {e:zb} {rows:List (List AV)} (h:¬ tok=x):frz x e (apc tok sz rows)=apc tok sz rows:=by
 unfold apc
 split
 ·rfl
 ·show (if tok=x∧_ then _ else _)=_
  rw[if_neg fun h1=>h h1.1]
noncomputable def ahO (M:List (List Int)) (b:List Int) (n k:Nat):St:={env:=[(1,.ptr 1 0),(4,iv n),(5,iv (Dt.det n M)),(6,apc 56 1 (znR (nXs M b n k))),(7,iv k)],sto:=[(1,.var [mtA M,znA b])]}
noncomputable def aiv (M:List (List Int)) (b:List Int) (n k i:Nat):St:={env:=[(1,.ptr 1 0),(4,iv n),(5,iv (Dt.det n M)),(6,apc 56 1 (znR (nXs M b n k))),(7,iv k),(8,apc 46 1 (mtR ((Dt.setC M k b).take i))),(9,iv i)],sto:=[(1,.var [mtA M,znA b])]}
theorem akh (hn:n≤4) (h:Dt.Sq n M) (hb:b.length=n) (h1:(Dt.det n M).natAbs≤1000000000) (h2:∀ k,k<n→(Dt.det n (Dt.setC M k b)).natAbs≤1000000000) :
  zc Try.prog ags [.agg [mtA M,znA b]] (.tuple [znA (nXs M b n n),iv (nDt M n)]):=by
 have hl:=h.1
 have kd:=ajn n (by omega) h
 have hw:IntKind.i64.wrap (Dt.det n M)=Dt.det n M:=by rw[wrap64]<;>omega
 rw[hw] at kd
 refine uN ah7 (by simp) ?_
 simp[ag5]
 refine za kd (by simp) (by simp) ?_
 simp
 refine zB (ahO M b n) (fun _=>True) n (by simp[ahO,nXs,lr,hl]) trivial (fun k hk _=>?_) (fun _=>?_)
 ·have e:(k:Int)<n:=by omega
  have w1:=zC (show k<4611686018427387904 by omega)
  have hsq:=aj9 (k:=k) h hb
  simp[af1,ahO,e]
  refine zB (aiv M b n k) (fun _=>True) n (by simp[aiv,mtR,lr]) trivial (fun i hi _=>?_) (fun _=>?_)
  ·have e2:(i:Int)<n:=by omega
   have hi1:i<M.length:=by omega
   have hi2:(i:Int)<M.length:=by omega
   have hi3:i<b.length:=by omega
   have hi4:(i:Int)<b.length:=by omega
   have w2:=zC (show i<4611686018427387904 by omega)
   have hri:M[i].length=n:=h.2 _ (List.getElem_mem hi1)
   have hcg:=ai2 (k:=k) hi1 hi3
   obtain ⟨r,hr⟩:∃ r,M[i]=r:=⟨_,rfl⟩
   rw[hr] at hri hcg
   have hkr:k<r.length:=by omega
   have q1:r.length*8≤140737488355328:=by omega
   have q2:r.length≤9223372036854775807:=by omega
   have htk:(znR (r.set k b[i])).take r.length=znR (r.set k b[i]):=List.take_of_length_le (by simp)
   have hsp:splice [iv r[k]] 0 [iv b[i]]=[iv b[i]]:=rfl
   have htl:((Dt.setC M k b).take i).length≤4:=by simp; omega
   simp[agh,aiv,e2,hi1,hi2,hi3,hi4,ahq,hr,hkr,q1,q2,hsp,aka,af0 (show ¬ 56=34 by decide),af0 (show ¬ 46=34 by decide),xf,uf,ahA (show ¬ 56=34 by decide),ahA (show ¬ 46=34 by decide),htk,rQ,BE,qT,vr,xM]
   refine ail (by decide) rfl ?_ ?_ (by simp) (by simp) ?_
   ·simp only[ahe]; omega
   ·simp only[ahe]; omega
   have hro:mtR ((Dt.setC M k b).take i)++[[AV.list 1 Am.Mode.plain (znR (r.set k b[i]))].map strip]=mtR ((Dt.setC M k b).take (i+1)):=by
    rw[List.take_add_one,hcg,ajg]
    rfl
   rw[hro]
   simp[af0 (show ¬ 56=46 by decide),w2,aiv]
  ·have htk:(Dt.setC M k b).take n=Dt.setC M k b:=List.take_of_length_le (by rw[hsq.1]; omega)
   have hw2:IntKind.i64.wrap (Dt.det n (Dt.setC M k b))=Dt.det n (Dt.setC M k b):=by have:=h2 k hk; rw[wrap64]<;>omega
   have kd2:=ajn n (by omega) hsq
   rw[hw2] at kd2
   have kd3:=vM kd2 (ajW (Ur (sz:=1) (rows:=mtR (Dt.setC M k b)) afY))
   have hlx:(nXs M b n k).length=k:=by simp[nXs]
   have hxs:nXs M b n (k+1)=nXs M b n k++[nX M b n k]:=by simp[nXs,List.range_succ]
   have hx:nX M b n k=if Dt.det n M<0 then-Dt.det n (Dt.setC M k b) else Dt.det n (Dt.setC M k b):=rfl
   have hro:znR (nXs M b n k)++[[iv (nX M b n k)]]=znR (nXs M b n (k+1)):=by rw[hxs,agy]; rfl
   have hw3:IntKind.i64.wrap (-Dt.det n (Dt.setC M k b))=-Dt.det n (Dt.setC M k b):=by have:=h2 k hk; rw[wrap64]<;>omega
   simp[agh,aiv,agS,htk]
   refine za kd3 (by simp) (by simp) ?_
   by_cases c:Dt.det n M<0
   ·rw[if_pos c] at hx
    rw[hx] at hro
    simp[c,RV,hw3]
    refine agR (by decide) rfl ?_ ?_ (by simp) ?_
    ·simp only[afU,hlx]; omega
    ·simp only[afU,hlx]; omega
    rw[hro]
    simp[age,w1,ahO]
   ·rw[if_neg c] at hx
    rw[hx] at hro
    simp[c]
    refine agR (by decide) rfl ?_ ?_ (by simp) ?_
    ·simp only[afU,hlx]; omega
    ·simp only[afU,hlx]; omega
    rw[hro]
    simp[age,w1,ahO]
 ·have hw4:IntKind.i64.wrap (-Dt.det n M)=-Dt.det n M:=by rw[wrap64]<;>omega
  by_cases c:Dt.det n M<0
  ·have hd:nDt M n=- Dt.det n M:=if_pos c
   simp[af1,ahO,agf,c,RV,hw4,agt,hd]
   exact aje (yn (Ur afY) (yn AV.imp.refl ny))
  ·have hd:nDt M n=Dt.det n M:=if_neg c
   simp[af1,ahO,agf,c,agt,hd]
   exact aje (yn (Ur afY) (yn AV.imp.refl ny))
end
section
variable {x:List Int} {p l t:Nat→Nat} {n k i j:Nat} {d:Int}
theorem ai4 {l:List Int} {k:Nat} (h:k<l.length):(l.take (k+1)).sum=(l.take k).sum+l[k]:=by
 rw[List.take_add_one,show l[k]?=some l[k] by simp[h],List.sum_append]
 simp
theorem ahQ {l:List Int} {B:Int} (hb:∀ a∈l,0≤a∧a≤B):∀ k,k≤l.length→0≤(l.take k).sum∧(l.take k).sum≤B*k
 | 0,_=>by simp
 | k+1,h=>by
  have ih:=ahQ hb k (by omega)
  have:=hb l[k] (List.getElem_mem (by omega))
  rw[ai4 (by omega),Int.natCast_add,Int.mul_add]
  omega
noncomputable def aiP (x:List Int) (k:Nat):St:={env:=[(0,znA x),(3,iv (x.take k).sum),(4,iv k)],sto:=[]}
theorem ajk (hx:x.length≤1000) (hb:∀ a∈x,0≤a∧a≤1000000000):zc Try.prog af9 [znA x] (iv x.sum):=by
 refine zG aiN (by simp) ?_
 simp[ahR]
 refine zB (aiP x) (fun _=>True) x.length (by simp[aiP]) trivial (fun k hk _=>?_) (fun _=>?_)
 ·have e:(k:Int)<x.length:=by omega
  have w1:=zC (show k<4611686018427387904 by omega)
  have b1:=ahQ hb (k+1) (by omega)
  have hs:=ai4 hk
  have w2:IntKind.i64.wrap ((x.take k).sum+x[k])=(x.take (k+1)).sum:=by rw[← hs,wrap64]<;>omega
  simp[agN,aiP,e,hk,w1,w2]
 ·simp[agN,aiP,ahn,ahS]
def agx (p:Nat→Nat) (x:List Int) (i j:Nat):Int:=Dt.sumZ j fun j=>if MB p i j=true then Dt.nth x j else 0
noncomputable def aig (p l t:Nat→Nat) (k n:Nat) (x:List Int) (d:Int) (i:Nat):St:={env:=[(0,nN p l k),(1,nT t n),(2,znA x),(3,iv d),(9,iv i)],sto:=[]}
noncomputable def aiz (p l t:Nat→Nat) (k n:Nat) (x:List Int) (d:Int) (i:Nat):St:={env:=[(0,nN p l k),(1,nT t n),(2,znA x),(3,iv d),(10,iv i)],sto:=[]}
noncomputable def ahP (p l t:Nat→Nat) (k n:Nat) (x:List Int) (d:Int) (i j:Nat):St:={env:=[(0,nN p l k),(1,nT t n),(2,znA x),(3,iv d),(10,iv i),(11,iv (agx p x i j)),(12,iv j)],sto:=[]}
theorem ai0 (hb:∀ j,-1000000000≤Dt.nth x j∧Dt.nth x j≤1000000000):∀ j:Nat,-1000000000*(j:Int)≤agx p x i j∧agx p x i j≤1000000000*j
 | 0=>⟨Int.le_refl 0,Int.le_refl 0⟩
 | j+1=>by
  have ih:=ai0 hb j
  have:=hb j
  have e:agx p x i (j+1)=agx p x i j+if MB p i j=true then Dt.nth x j else 0:=rfl
  rw[e]
  split<;>omega
theorem ajC (hk:k≤152) (hm:n≤8) (hp:∀ j,j<k→p j<256) (hl:∀ j,j<k→l j≤8000000) (ht:∀ i,i<n→t i≤1000000) (hx:x.length=n) (hd:0≤d∧d≤1000) (hb:∀ j,-1000000000≤Dt.nth x j∧Dt.nth x j≤1000000000) :
  zc Try.prog afX [nN p l k,nT t n,znA x,iv d] (bv (decide (afZ k n (MB p) l t (Dt.nth x) d))):=by
 have hmul:∀ a:Nat,a≤8000000→0≤d*(a:Int)∧d*(a:Int)≤8000000000:=fun a ha=>by
  have h1:=Int.mul_le_mul hd.2 (show (a:Int)≤8000000 by omega) (by omega) (by omega)
  have h2:=Int.mul_nonneg hd.1 (show (0:Int)≤a by omega)
  omega
 refine zG aih (by simp) ?_
 simp[ahb]
 refine zB (aig p l t k n x d) (fun i=>∀ j,j<i→0≤Dt.nth x j∧Dt.nth x j≤d*t j) n (by simp[aig]) (fun j hj=>absurd hj (Nat.not_lt_zero j)) (fun i hi hI=>?_) (fun hI=>?_)
 ·have e:(i:Int)<n:=by omega
  have hix:i<x.length:=by omega
  have hix':(i:Int)<x.length:=by omega
  have w1:=zC (show i<4611686018427387904 by omega)
  have h1:=hmul (t i) (by have:=ht i hi; omega)
  have w2:IntKind.i64.wrap (d*(t i:Int))=d*(t i:Int):=by rw[wrap64]<;>omega
  have hnx:Dt.nth x i=x[i]:=by simp[Dt.nth,List.getD_eq_getElem?_getD,hix]
  by_cases c1:x[i]<0
  ·have hdec:decide (afZ k n (MB p) l t (Dt.nth x) d)=false:=decide_eq_false fun h=>by have:=(h.1 i hi).1; rw[hnx] at this; omega
   rw[hdec]
   simp[afW,aig,e,hix,hix',c1,af3]
  by_cases c2:d*(t i:Int)<x[i]
  ·have hdec:decide (afZ k n (MB p) l t (Dt.nth x) d)=false:=decide_eq_false fun h=>by have:=(h.1 i hi).2; rw[hnx] at this; omega
   rw[hdec]
   simp[afW,aig,e,hi,hix,hix',c1,c2,w2,af3]
  simp[afW,aig,e,hi,hix,hix',c1,c2,w2,w1]
  intro j hj
  by_cases ej:j=i
  ·subst ej; rw[hnx]; omega
  ·exact hI j (by omega)
 ·simp[afW,aig,agX]
  refine zB (aiz p l t k n x d) (fun i=>∀ r,r<i→d*l r≤agx p x r n) k (by simp[aiz]) (fun j hj=>absurd hj (Nat.not_lt_zero j)) (fun i hi hJ=>?_) (fun hJ=>?_)
  ·have e:(i:Int)<k:=by omega
   have w1:=zC (show i<4611686018427387904 by omega)
   simp[agm,aiz,e]
   refine zB (ahP p l t k n x d i) (fun _=>True) n (by simp[ahP,agx,Dt.sumZ]) trivial (fun j hj _=>?_) (fun _=>?_)
   ·have e2:(j:Int)<n:=by omega
    have hjx:j<x.length:=by omega
    have hjx':(j:Int)<x.length:=by omega
    have w2:=zC (show j<4611686018427387904 by omega)
    have hnx:Dt.nth x j=x[j]:=by simp[Dt.nth,List.getD_eq_getElem?_getD,hjx]
    have ep:agx p x i (j+1)=agx p x i j+if MB p i j=true then Dt.nth x j else 0:=rfl
    have kh:=CE (p:=p i) (m:=j) (hp i hi) (by omega)
    simp[af5,ahP,e2,hi,e]
    refine za kh (by simp) (by simp) ?_
    cases hbit:sm (p i) j
    ·rw[show MB p i j=false from hbit] at ep
     simp at ep
     simp[ep,w2,ahP]
    ·rw[show MB p i j=true from hbit] at ep
     simp[hnx] at ep
     have b1:=ai0 (p:=p) (i:=i) hb (j+1)
     have w3:IntKind.i64.wrap (agx p x i j+x[j])=agx p x i (j+1):=by rw[← ep,wrap64]<;>omega
     simp[hjx,hjx',w3,w2,ahP]
   ·have h1:=hmul (l i) (hl i hi)
    have w2:IntKind.i64.wrap (d*(l i:Int))=d*(l i:Int):=by rw[wrap64]<;>omega
    by_cases c:agx p x i n<d*(l i:Int)
    ·have hdec:decide (afZ k n (MB p) l t (Dt.nth x) d)=false:=decide_eq_false fun h=>by have:=h.2 i hi; unfold agx at c; omega
     rw[hdec]
     simp[af5,ahP,agl,hi,e,w2,c,af3]
    ·simp[af5,ahP,agl,hi,e,w2,c,agV,w1,aiz]
     intro r hr
     by_cases er:r=i
     ·subst er; omega
     ·exact hJ r (by omega)
  ·have hdec:decide (afZ k n (MB p) l t (Dt.nth x) d)=true:=decide_eq_true ⟨hI,hJ⟩
   rw[hdec]
   simp[agm,aiz,agW,af3]
end
theorem ah8 {d tok sz by_:Nat} {s:St} {KS:St→Prop} {rows xs:List (List AV)} {x:AV} (hx:∀ k:List (List AV)→Prop,k xs→y6 (lk s.sto) sz x k) (h0:0<sz) (h1:s.base+d=d) (ht:rows=[]→tok=d) (hne:xs≠[])
  (h2:(rows.length+xs.length)*by_≤140737488355328) (h3:rows.length+xs.length≤9223372036854775807) (h4:lk s.sto tok=none) (hK:KS ((s.dg tok).put (some d) (apc tok sz (rows++xs)))):xH sz by_ s (some d) KS [apc tok sz rows,x]:=by
 have h5:apc tok sz (rows++xs)=.list sz (.own tok) (rows++xs):=sf (by
  have:xs.length≠0:=fun h=>hne (List.eq_nil_of_length_eq_zero h)
  rw[List.length_append]; omega)
 rw[h5] at hK
 by_cases e:rows.length=0
 ·have e2:rows=[]:=List.eq_nil_of_length_eq_zero e
  have e3:=ht e2
  subst e3 e2
  rw[lr rfl]
  refine hx _ ?_
  simp only[h1]
  exact ⟨h0,h2,h3,.inl trivial,h4,hK⟩
 ·rw[sf e]
  refine hx _ ?_
  exact ⟨h0,h2,h3,rfl,h4,hK⟩
theorem ah4 {σ:Nat→Option zb} {sz:Nat} {m:Am.Mode} {xs:List (List AV)} (k:List (List AV)→Prop) (h:k xs):y6 σ sz (.list sz m xs) k:=⟨.inr rfl,h⟩
theorem ajT {σ:Nat→Option zb} {sz:Nat} {xs:List (List AV)} (hr:xB xs=true) (k:List (List AV)→Prop) (h:k (zQ xs)):y6 σ sz (.lit sz xs) k:=⟨rfl,hr,h⟩
section
variable {p l t:Nat→Nat} {n k i j c:Nat}
noncomputable def mtP (M:List (List Int)):List (List AV):=M.map fun r=>[plc 1 (znR r)]
noncomputable abbrev mtQ (M:List (List Int)):AV:=.list 1 .plain (mtP M)
@[simp] theorem ah9 {M:List (List Int)}:(mtP M).length=M.length:=by simp[mtP]
theorem aiF {M N:List (List Int)}:mtP (M++N)=mtP M++mtP N:=by simp[mtP]
def af6 (p:Nat→Nat) (k n c:Nat):List Int:=(List.range n).map (agd k (MB p) c)
def agi (p:Nat→Nat) (k n c:Nat):List (List Int):=(List.range c).map (af6 p k n)
def agj (l t:Nat→Nat) (k c:Nat):List Int:=(List.range c).map (agn k l t)
theorem ahW:agi p k n (c+1)=agi p k n c++[af6 p k n c]:=by simp[agi,List.range_succ]
theorem ahX:agj l t k (c+1)=agj l t k c++[agn k l t c]:=by simp[agj,List.range_succ]
@[simp] theorem ahH:(agi p k n c).length=c:=by simp[agi]
@[simp] theorem ahI:(agj l t k c).length=c:=by simp[agj]
@[simp] theorem aiS:(af6 p k n c).length=n:=by simp[af6]
def agA (p:Nat→Nat) (k n c j:Nat):List Int:=(af6 p k n c).take j
theorem aiL (hj:j<n):agA p k n c (j+1)=agA p k n c j++[agd k (MB p) c j]:=by
 unfold agA
 rw[List.take_add_one]
 simp[af6,hj]
theorem ajR:agA p k n c n=af6 p k n c:=List.take_of_length_le (by simp)
theorem ajS (hj:j≤n):(agA p k n c j).length=j:=by unfold agA; simp; omega
def tkC (p:Nat→Nat) (i:Nat):Nat:=if MB p i 0=true then 32 else 35
theorem aiB:tkC p i=32∨tkC p i=35:=by unfold tkC; split<;>simp
noncomputable def ait (p l t:Nat→Nat) (k n i:Nat):St:={env:=[(0,nN p l k),(1,nT t n),(4,.ptr 4 0),(5,.ptr 5 0),(6,iv i)],sto:=[(4,.var [E1,E1]),(5,.var [apc 40 1 (mtP (agi p k n i)),apc 50 1 (znR (agj l t k i))])]}
noncomputable def aia (p l t:Nat→Nat) (k n i j:Nat):St:={env:=[(0,nN p l k),(1,nT t n),(4,.ptr 4 0),(5,.ptr 5 0),(6,iv i),(7,apc (tkC p i) 1 (znR (agA p k n i j))),(8,iv j)],sto:=[(4,.var [E1,E1]),(5,.var [apc 40 1 (mtP (agi p k n i)),apc 50 1 (znR (agj l t k i))])]}
def tkA (k:Nat):Nat:=if k=0 then 69 else 40
def tkB (k:Nat):Nat:=if k=0 then 78 else 50
noncomputable def aib (p l t:Nat→Nat) (k n i:Nat):St:={env:=[(1,nT t n),(4,.ptr 4 0),(5,.ptr 5 0),(9,iv i)],sto:=[(4,.var [E1,E1]),(5,.var [apc (tkA k) 1 (mtP (agi p k n (k+2*i))),apc (tkB k) 1 (znR (agj l t k (k+2*i)))])]}
theorem aim {x:Int}:cellsOf (AV.val (Value.int IntKind.i64 x))=some [iv x]:=rfl
theorem ajl {cs:List AV}:cellsOf (.agg cs)=some cs:=rfl
theorem ajI {sz:Nat} {m:Am.Mode} {r:List (List AV)}:cellsOf (AV.list sz m r)=some [AV.list sz m r]:=rfl
theorem aj3 (_hi:i<n):(List.replicate n [iv 0]).set i [iv 1]=znR (af6 p k n (k+2*i)):=by
 refine List.ext_getElem (by simp) fun j h1 h2=>?_
 have hj:j<n:=by simpa using h2
 rw[List.getElem_set,ai9]
 have e:(af6 p k n (k+2*i))[j]'(by simpa using hj)=if i=j then 1 else 0:=by
  simp only[af6,List.getElem_map,List.getElem_range]
  unfold agd
  rw[if_neg (by omega),show (k+2*i-k)/2=i by omega]
 rw[e]
 by_cases c:i=j
 ·rw[if_pos c,if_pos c]
 ·rw[if_neg c,if_neg c]; simp
theorem ajU:af6 p k n (k+2*i+1)=af6 p k n (k+2*i):=List.map_congr_left fun j _=>by
 unfold agd
 rw[if_neg (show ¬ k+2*i+1<k by omega),if_neg (show ¬ k+2*i<k by omega),show (k+2*i+1-k)/2=(k+2*i-k)/2 by omega]
theorem ai5:tkA k=69∨tkA k=40:=by unfold tkA; split<;>simp
theorem ai6:tkB k=78∨tkB k=50:=by unfold tkB; split<;>simp
theorem akb (hk:k≤152) (hm:n≤8) (hp:∀ j,j<k→p j<256):zc Try.prog agr [nN p l k,nT t n] (.agg [mtQ (agi p k n (k+2*n)),znA (agj l t k (k+2*n))]):=by
 refine uN ahU (by simp) ?_
 simp[agY]
 refine zB (ait p l t k n) (fun _=>True) k (by simp[ait,agi,agj,mtP,lr]) trivial (fun i hi _=>?_) (fun _=>?_)
 ·have e:(i:Int)<k:=by omega
  have w1:=zC (show i<4611686018427387904 by omega)
  simp[agb,ait,e]
  refine zB (aia p l t k n i) (fun _=>True) n (by simp[aia,agA,lr]) trivial (fun j hj _=>?_) (fun _=>?_)
  ·have e2:(j:Int)<n:=by omega
   have w2:=zC (show j<4611686018427387904 by omega)
   have kh:=CE (p:=p i) (m:=j) (hp i hi) (by omega)
   have hrl:(znR (agA p k n i j)).length=j:=by rw[afU,ajS (by omega)]
   have hr0:agd k (MB p) i j=if sm (p i) j=true then 1 else 0:=if_pos hi
   have htk0:znR (agA p k n i j)=[]→j=0:=fun h=>by rw[h] at hrl; exact hrl.symm
   have t40:¬ 40=tkC p i:=by rcases aiB (p:=p) (i:=i) with h | h<;>omega
   have t50:¬ 50=tkC p i:=by rcases aiB (p:=p) (i:=i) with h | h<;>omega
   have hls:∀ (σ:List (Nat × zb)),lk σ 32=none→lk σ 35=none→lk σ (tkC p i)=none:=fun σ h1 h2=>by rcases aiB (p:=p) (i:=i) with h | h<;>rw[h]<;>assumption
   simp[aga,aia,e2,hi,e]
   refine za kh (by simp) (by simp) ?_
   cases hbit:sm (p i) j
   ·rw[hbit] at hr0
    have hro:znR (agA p k n i j)++[[iv 0]]=znR (agA p k n i (j+1)):=by rw[aiL hj,hr0,agy]; rfl
    have hzn:znR (agA p k n i j)=[]→tkC p i=35:=fun h=>by
     have:=htk0 h
     subst this
     exact if_neg (by show ¬ sm (p i) 0=true; rw[hbit]; simp)
    simp
    refine ah8 (fun k h=>ah4 k h) (by decide) rfl hzn (by simp) ?_ ?_ (hls _ (by simp) (by simp)) ?_
    ·rw[hrl]; simp; omega
    ·rw[hrl]; simp; omega
    rw[hro]
    simp[-cellsOf,af0 t40,af0 t50,w2,aia]
   ·rw[hbit] at hr0
    have hro:znR (agA p k n i j)++[[iv 1]]=znR (agA p k n i (j+1)):=by rw[aiL hj,hr0,agy]; rfl
    have hzn:znR (agA p k n i j)=[]→tkC p i=32:=fun h=>by
     have:=htk0 h
     subst this
     exact if_pos hbit
    simp
    refine ah8 (fun k h=>ah4 k h) (by decide) rfl hzn (by simp) ?_ ?_ (hls _ (by simp) (by simp)) ?_
    ·rw[hrl]; simp; omega
    ·rw[hrl]; simp; omega
    rw[hro]
    simp[-cellsOf,af0 t40,af0 t50,w2,aia]
  ·simp[-cellsOf,aga,aia,agC,xM,ajR]
   have t40:¬ tkC p i=40:=by rcases aiB (p:=p) (i:=i) with h | h<;>omega
   refine ail (by decide) rfl ?_ ?_ (by simp) (by simp) ?_
   ·simp only[ah9,ahH]; omega
   ·simp only[ah9,ahH]; omega
   have hro:mtP (agi p k n i)++[[apc (tkC p i) 1 (znR (af6 p k n i))].map strip]=mtP (agi p k n (i+1)):=by
    rw[ahW,aiF]
    simp only[List.map_cons,List.map_nil,ac0]
    rfl
   rw[hro]
   simp[-cellsOf,ac1,aim,af0 (show ¬ 50=40 by decide),af0 t40,hi,e]
   refine agR (by decide) rfl ?_ ?_ (by simp) ?_
   ·simp only[afU,ahI]; omega
   ·simp only[afU,ahI]; omega
   have hr0:agn k l t i=l i:=if_pos hi
   have hro2:znR (agj l t k i)++[[iv (l i)]]=znR (agj l t k (i+1)):=by rw[ahX,agy,hr0]; rfl
   rw[hro2]
   simp[-cellsOf,ac1,af0 (show ¬ 40=50 by decide),agD,w1,ait]
 ·simp[-cellsOf,agb,ait,agF]
  refine zB (aib p l t k n) (fun _=>True) n ?_ trivial (fun i hi _=>?_) (fun _=>?_)
  ·by_cases k0:k=0
   ·subst k0
    simp[aib,tkA,tkB,agi,agj,mtP,lr]
   ·simp[aib,tkA,tkB,k0]
  ·have e:(i:Int)<n:=by omega
   have w1:=zC (show i<4611686018427387904 by omega)
   have hb1:(n:Int)*8≤140737488355328:=by omega
   have hb2:(n:Int)≤9223372036854775807:=by omega
   have hrep:(List.replicate n [iv 0])[i]?=some [iv 0]:=by simp[hi]
   have hset:=aj3 (p:=p) (k:=k) hi
   have hsp:splice [iv 0] 0 [iv 1]=[iv 1]:=rfl
   have htk:(znR (af6 p k n (k+2*i))).take n=znR (af6 p k n (k+2*i)):=List.take_of_length_le (by simp)
   have a1:¬ tkA k=60:=by rcases ai5 (k:=k) with h | h<;>omega
   have a2:¬ tkB k=60:=by rcases ai6 (k:=k) with h | h<;>omega
   have a3:¬ tkB k=tkA k:=by rcases ai5 (k:=k) with h | h<;>rcases ai6 (k:=k) with h2 | h2<;>omega
   have a4:¬ tkA k=tkB k:=fun h=>a3 h.symm
   simp[-cellsOf,aim,ajI,agc,aib,e,eMk,hb1,hb2,hi,hsp,hset,xf,uf,Rr,qT,BE,vr,Zq,htk,ahA a1,ahA a2,xM]
   have hne:af6 p k n (k+2*i)≠[]:=fun h=>by
    have:=aiS (p:=p) (k:=k) (n:=n) (c:=k+2*i)
    rw[h] at this
    simp at this
    omega
   have e2:k+2*(i+1)=k+2*i+1+1:=by omega
   have hro:mtP (agi p k n (k+2*i))++[[znA (af6 p k n (k+2*i))],[znA (af6 p k n (k+2*i))]]=mtP (agi p k n (k+2*(i+1))):=by
    rw[e2,ahW,ahW,ajU,aiF,aiF,List.append_assoc]
    simp only[mtP,List.map_cons,List.map_nil,ai1 hne]
    rfl
   have hz1:(mtP (agi p k n (k+2*i)))=[]→tkA k=69:=fun h=>by
    have:=congrArg List.length h
    simp at this
    unfold tkA
    rw[if_pos (by omega)]
   have hz2:(znR (agj l t k (k+2*i)))=[]→tkB k=78:=fun h=>by
    have:=congrArg List.length h
    simp at this
    unfold tkB
    rw[if_pos (by omega)]
   have hls:∀ (σ:List (Nat × zb)) x,lk σ 69=none→lk σ 40=none→x=tkA k→lk σ x=none:=fun σ x h1 h2 h3=>by rw[h3]; rcases ai5 (k:=k) with h | h<;>rw[h]<;>assumption
   have hls2:∀ (σ:List (Nat × zb)) x,lk σ 78=none→lk σ 50=none→x=tkB k→lk σ x=none:=fun σ x h1 h2 h3=>by rw[h3]; rcases ai6 (k:=k) with h | h<;>rw[h]<;>assumption
   refine ah8 (xs:=[[znA (af6 p k n (k+2*i))],[znA (af6 p k n (k+2*i))]]) (fun k h=>ajT (by simp[xB]) k h) (by decide) rfl hz1 (by simp) ?_ ?_ (hls _ _ (by simp) (by simp) rfl) ?_
   ·simp only[ah9,ahH,List.length_cons,List.length_nil]; omega
   ·simp only[ah9,ahH,List.length_cons,List.length_nil]; omega
   rw[hro]
   have ei:(i:Int)<n:=e
   simp[-cellsOf,ac1,aim,af0 a3,e,hi]
   refine ah8 (fun k h=>ah4 k h) (by decide) rfl hz2 (by simp) ?_ ?_ (hls2 _ _ (by simp) (by simp) rfl) ?_
   ·simp only[afU,ahI,List.length_cons,List.length_nil]; omega
   ·simp only[afU,ahI,List.length_cons,List.length_nil]; omega
   have hr1:agn k l t (k+2*i)=0:=by unfold agn; rw[if_neg (by omega),if_pos (by omega)]
   have hr2:agn k l t (k+2*i+1)=t i:=by unfold agn; rw[if_neg (by omega),if_neg (by omega),show (k+2*i+1-k)/2=i by omega]
   have hro2:znR (agj l t k (k+2*i))++[[iv 0],[iv (t i)]]=znR (agj l t k (k+2*(i+1))):=by
    rw[e2,ahX,ahX,hr1,hr2,agy,agy,List.append_assoc]
    rfl
   rw[hro2]
   simp[-cellsOf,ac1,af0 a4,w1,aib]
  ·simp[-cellsOf,agc,aib,agE,ajl]
   simp[ag0]
   exact bu (yn (Ur afY) (yn (Ur afY) ny))
end
section
variable {p l t:Nat→Nat} {n k a:Nat} {C:List Nat} {v:Vx}
theorem aj1:nXs (afT k n (MB p) C) (af7 k l t C) n n=cxs k n (MB p) l t C:=rfl
theorem ajJ:nDt (afT k n (MB p) C) n=afP k n (MB p) C:=rfl
theorem ajy (hl:∀ j,j<k→l j≤8000000) (ht:∀ i,i<n→t i≤1000000) {c:Nat} (hc:c<k+2*n):(agn k l t c).natAbs≤8000000:=by
 unfold agn
 split
 ·rename_i h; have:=hl c h; omega
 ·split
  ·decide
  ·have:=ht ((c-k)/2) (by omega); omega
theorem aiK (hn:n≤4) (hl:∀ j,j<k→l j≤8000000) (ht:∀ i,i<n→t i≤1000000) (hC:C.length=n) (hc:∀ c∈C,c<k+2*n) (j:Nat):(Dt.det n (Dt.setC (afT k n (MB p) C) j (af7 k l t C))).natAbs≤192000000:=by
 have h:=Dt.det_col (B:=8000000) (by decide) n (m:=Dt.setC (afT k n (MB p) C) j (af7 k l t C)) (c:=j) fun i q hi hq=>by
  have h1:=ahG (k:=k) (S:=MB p) hC hi hq
  have hs:=ai2 (M:=afT k n (MB p) C) (b:=af7 k l t C) (k:=j) (i:=i) (by simp[afT]; omega) (by simp[af7]; omega)
  have h2:Dt.ent (Dt.setC (afT k n (MB p) C) j (af7 k l t C)) i q=if q=j then (af7 k l t C).getD i 0 else Dt.ent (afT k n (MB p) C) i q:=by
   unfold Dt.ent
   rw[List.getD_eq_getElem?_getD (l:=Dt.setC _ _ _),hs]
   simp only[Option.getD_some,List.getD_eq_getElem?_getD,List.getElem?_set]
   have hi1:i<(afT k n (MB p) C).length:=by simp[afT]; omega
   have hi2:i<(af7 k l t C).length:=by simp[af7]; omega
   have hrl:((afT k n (MB p) C)[i]).length=n:=(aiC (k:=k) (S:=MB p) hC).2 _ (List.getElem_mem hi1)
   rw[List.getElem?_eq_getElem hi1,List.getElem?_eq_getElem hi2]
   by_cases e:q=j
   ·subst e; rw[if_pos rfl,if_pos rfl,hrl,if_pos hq]
   ·rw[if_neg (fun h=>e h.symm),if_neg e]; rfl
  rw[h2]
  by_cases e:q=j
  ·rw[if_pos e,if_pos e,aiT (by omega)]
   exact ajy hl ht (hc _ (List.getElem_mem _))
  ·rw[if_neg e,if_neg e]; exact h1
 have h2:=aiW hn
 have:=Nat.mul_le_mul h2 (Nat.le_refl 8000000)
 omega
noncomputable abbrev vxA (v:Vx):AV:=.agg [znA v.x,iv v.d,bv v.s]
noncomputable abbrev aiQ (p l t:Nat→Nat) (k n:Nat):List AV:=[mtQ (agi p k n (k+2*n)),znA (agj l t k (k+2*n))]
noncomputable abbrev aiR (p l t:Nat→Nat) (k n:Nat) (C:List Nat):List AV:=[mtA (afT k n (MB p) C),znA (af7 k l t C)]
theorem akg (hk:k≤152) (hn:n≤4) (hp:∀ j,j<k→p j<256) (hl:∀ j,j<k→l j≤8000000) (ht:∀ i,i<n→t i≤1000000) (hC:C.length=n) (hc:∀ c∈C,c<k+2*n) (hv:OkV k n (MB p) l t v) :
  zc Try.prog agp [nN p l k,nT t n,.agg (aiQ p l t k n),.agg (aiR p l t k n C),iv a,vxA v] (vxA (ahs k n (MB p) l t C v)):=by
 have hsq:=aiC (k:=k) (S:=MB p) hC
 have kn:=akh (b:=af7 k l t C) hn hsq (by simp[af7,hC]) (by
  have h:=Dt.det_one n (m:=afT k n (MB p) C) fun i j hi hj=>ahG hC hi hj
  have:=aiW hn
  omega) (fun j _=>by have:=aiK hn hl ht hC hc (p:=p) j; omega)
 rw[aj1,ajJ] at kn
 have hcl:(afT k n (MB p) C).length=n:=hsq.1
 have hd0:=aii (k:=k) (n:=n) (S:=MB p) (C:=C)
 have hd1:=ajd (k:=k) (S:=MB p) hn hC
 have hXb:∀ j,-1000000000≤Dt.nth (cxs k n (MB p) l t C) j∧Dt.nth (cxs k n (MB p) l t C) j≤1000000000:=fun j=>by
  by_cases hj:j<n
  ·rw[ahd hj]
   have:=aiK hn hl ht hC hc (p:=p) j
   unfold cx ahV
   split<;>omega
  ·have:Dt.nth (cxs k n (MB p) l t C) j=0:=by
    unfold Dt.nth
    rw[List.getD_eq_getElem?_getD,List.getElem?_eq_none (by rw[ahF]; omega)]
    rfl
   omega
 have ks:=ajC (x:=cxs k n (MB p) l t C) (d:=afP k n (MB p) C) hk (by omega) hp hl ht ahF ⟨hd0,by omega⟩ hXb
 have hdec:decide (afZ k n (MB p) l t (Dt.nth (cxs k n (MB p) l t C)) (afP k n (MB p) C))=decide (afZ k n (MB p) l t (cx k n (MB p) l t C) (afP k n (MB p) C)) :=
  decide_eq_decide.2 ⟨aht fun j hj=>ahd hj,aht fun j hj=>(ahd hj).symm⟩
 rw[hdec] at ks
 have tot:∀ (x:List Int) (d:Int),x.length=n→0<d→d≤24→afZ k n (MB p) l t (Dt.nth x) d→zc Try.prog af9 [znA x] (iv x.sum)∧0≤x.sum∧x.sum≤96000000:=fun x d hx h0 h1 hs=>by
  have hb:∀ a∈x,0≤a∧a≤24000000:=fun a ha=>by
   obtain ⟨j,hj,rfl⟩:=List.getElem_of_mem ha
   have h2:=hs.1 j (by omega)
   have h3:Dt.nth x j=x[j]:=by simp[Dt.nth,List.getD_eq_getElem?_getD,hj]
   rw[h3] at h2
   have h4:=Int.mul_le_mul h1 (show (t j:Int)≤1000000 by have:=ht j (by omega); omega) (by omega) (by omega)
   omega
  have h5:=ahQ hb x.length (Nat.le_refl _)
  rw[List.take_length,hx] at h5
  exact ⟨ajk (by omega) fun a ha=>by have:=hb a ha; omega,by omega,by omega⟩
 have prod:∀ s d:Int,0≤s→s≤96000000→0≤d→d≤24→IntKind.i64.wrap (s*d)=s*d:=fun s d h1 h2 h3 h4=>by
  have h5:=Int.mul_le_mul h2 h4 h3 (by omega)
  have h6:=Int.mul_nonneg h1 h3
  rw[wrap64]<;>omega
 have hleaf:ahs k n (MB p) l t C v=if afP k n (MB p) C=0∨¬ afZ k n (MB p) l t (cx k n (MB p) l t C) (afP k n (MB p) C) then v else if v.s=false∨(cxs k n (MB p) l t C).sum*v.d<v.x.sum*afP k n (MB p) C then ⟨cxs k n (MB p) l t C,afP k n (MB p) C,true⟩ else v:=rfl
 generalize ahs k n (MB p) l t C v=R at *
 have hsat:afZ k n (MB p) l t (cx k n (MB p) l t C) (afP k n (MB p) C)→afZ k n (MB p) l t (Dt.nth (cxs k n (MB p) l t C)) (afP k n (MB p) C):=aht fun j hj=>(ahd hj).symm
 have hXl:=ahF (k:=k) (n:=n) (S:=MB p) (l:=l) (T:=t) (C:=C)
 have ks2:∀ b:Bool,decide (afZ k n (MB p) l t (cx k n (MB p) l t C) (afP k n (MB p) C))=b→zc Try.prog afX [nN p l k,nT t n,znA (cxs k n (MB p) l t C),iv (afP k n (MB p) C)] (bv b):=fun b h=>by rw[← h]; exact ks
 obtain ⟨X,hX⟩:∃ X,cxs k n (MB p) l t C=X:=⟨_,rfl⟩
 obtain ⟨d,hd⟩:∃ d,afP k n (MB p) C=d:=⟨_,rfl⟩
 rw[hX,hd] at hleaf hsat ks2 kn
 rw[hX] at hXl
 rw[hd] at hd0 hd1
 refine zG ahT (by simp) ?_
 simp[ag6,hcl]
 refine za kn (by simp) (by simp) ?_
 by_cases c1:d=0
 ·rw[if_pos (.inl c1)] at hleaf
  subst hleaf
  simp[c1,splice,af2]
 by_cases c2:afZ k n (MB p) l t (cx k n (MB p) l t C) d
 rotate_left
 ·rw[if_pos (.inr c2)] at hleaf
  subst hleaf
  simp[c1]
  refine za (ks2 false (by simpa using c2)) (by simp) (by simp) ?_
  simp[splice,af2]
 rw[if_neg (fun h=>h.elim c1 fun h=>h c2)] at hleaf
 simp[c1]
 refine za (ks2 true (by simpa using c2)) (by simp) (by simp) ?_
 obtain ⟨kt1,kb1,kb2⟩:=tot X d hXl (by omega) hd1 (hsat c2)
 cases c3:v.s
 ·rw[if_pos (.inl c3)] at hleaf
  subst hleaf
  simp[splice,af2]
 obtain ⟨⟨o1,o2⟩,o3,o4⟩:=hv c3
 obtain ⟨kt2,kb3,kb4⟩:=tot v.x v.d o4 o1 o2 o3
 have p1:=prod X.sum v.d kb1 kb2 (by omega) o2
 have p2:=prod v.x.sum d kb3 kb4 hd0 hd1
 simp
 refine za kt1 (by simp) (by simp) ?_
 simp
 refine za kt2 (by simp) (by simp) ?_
 by_cases c4:X.sum*v.d<v.x.sum*d
 ·rw[if_pos (.inr c4)] at hleaf
  subst hleaf
  simp[c4,p1,p2,splice,af2]
 ·rw[if_neg (fun h=>h.elim (fun h=>by rw[c3] at h; cases h) c4)] at hleaf
  subst hleaf
  simp[c4,p1,p2,c3,splice,af2]
theorem ajt {c q:Nat} (h:q<(mtP (agi p k n c)).length):(mtP (agi p k n c))[q]=[plc 1 (znR (af6 p k n q))]:=by simp[mtP,agi]
theorem aiJ {c q:Nat} (h:q<(agj l t k c).length):(agj l t k c)[q]=agn k l t q:=by simp[agj]
theorem aj4 {tok d sz by_:Nat} {s:St} {KS:St→Prop} {rows xs ys:List (List AV)} (h0:0<sz) (hr:xB xs=true) (h2:(rows.length+(zQ xs).length)*by_≤140737488355328) (h3:rows.length+(zQ xs).length≤9223372036854775807) (h4:lk s.sto tok=none) (hy:rows++zQ xs=ys)
  (hK:KS ((s.dg tok).put (some d) (.list sz (.own tok) ys))):xH sz by_ s (some d) KS [.list sz (.own tok) rows,.lit sz xs]:=by
 subst hy
 exact ⟨rfl,hr,h0,h2,h3,rfl,h4,hK⟩
theorem ajw {r:List Int} {x:Nat}:dg x (AV.lit 1 [[znA r]])=AV.lit 1 [[znA r]]:=rfl
def srK (k n:Nat) (S:Nat→Nat→Bool) (l t:Nat→Nat) (f:Nat) (C:List Nat) (a:Nat) (v:Vx) (i:Nat):Vx:=(List.range' a i).foldl (fun b i=>af8 k n S l t f (C++[i]) (i+1) b) v
theorem ai3 {S:Nat→Nat→Bool} {f i:Nat}:srK k n S l t f C a v (i+1)=af8 k n S l t f (C++[a+i]) (a+i+1) (srK k n S l t f C a v i):=by
 unfold srK
 rw[List.range'_concat,List.foldl_append]
 simp
theorem ajF {S:Nat→Nat→Bool} {f:Nat} (hn:n≤4) (hC:C.length+1+f=n) (hv:OkV k n S l t v):∀ i,OkV k n S l t (srK k n S l t f C a v i)
 | 0=>hv
 | i+1=>by rw[ai3]; exact (aiH hn f (C++[a+i]) (a+i+1) _ (by simp; omega) (ajF hn hC hv i)).1
noncomputable def aip (p l t:Nat→Nat) (k n f:Nat) (C:List Nat) (a:Nat) (v:Vx) (i:Nat):St :=
 {env:=[(0,nN p l k),(1,nT t n),(8,.ptr 8 0),(9,.ptr 9 0),(11,.ptr 11 0),(12,.ptr 12 0),(15,iv (a+i:Nat))],
  sto:=[(8,.var (aiQ p l t k n)),(9,.var (aiR p l t k n C)),(11,.var [znA (srK k n (MB p) l t f C a v i).x,iv (srK k n (MB p) l t f C a v i).d,bv (srK k n (MB p) l t f C a v i).s]),(12,.var [E1,iv 0,bv false])]}
theorem ajf (hk:k≤152) (hn:n≤4) (hp:∀ j,j<k→p j<256) (hl:∀ j,j<k→l j≤8000000) (ht:∀ i,i<n→t i≤1000000):∀ (f:Nat) (C:List Nat) (a:Nat) (v:Vx),C.length+f=n→a≤1000→(∀ c∈C,c<k+2*n)→OkV k n (MB p) l t v →
  zc Try.prog agp [nN p l k,nT t n,.agg (aiQ p l t k n),.agg (aiR p l t k n C),iv a,vxA v] (vxA (af8 k n (MB p) l t f C a v))
 | 0,C,a,v,hC,_,hc,hv=>akg hk hn hp hl ht (by omega) hc hv
 | f+1,C,a,v,hC,ha,hc,hv=>by
  have ih:=ajf hk hn hp hl ht f
  have hres:af8 k n (MB p) l t (f+1) C a v=srK k n (MB p) l t f C a v (k+2*n-a):=rfl
  have hcl:(afT k n (MB p) C).length=C.length:=by simp[afT]
  have hne:¬ (C.length:Int)=n:=by omega
  rw[hres]
  refine zG ahT (by simp) ?_
  simp[ag6,hcl,hne]
  refine zB (aip p l t k n f C a v) (fun _=>True) (k+2*n-a) (by simp[aip,srK]) trivial (fun i hi _=>?_) (fun _=>?_)
  ·have hov:=ajF (k:=k) (S:=MB p) (l:=l) (t:=t) (v:=v) (C:=C) (a:=a) (f:=f) hn (by omega) hv i
   have hsu:=ai3 (k:=k) (n:=n) (S:=MB p) (l:=l) (t:=t) (f:=f) (C:=C) (a:=a) (v:=v) (i:=i)
   obtain ⟨q,hq⟩:∃ q,a+i=q:=⟨_,rfl⟩
   have hq1:a+(i+1)=q+1:=by omega
   have hqn:q<k+2*n:=by omega
   have hqi:(q:Int)<(k:Int)+2*n:=by omega
   have hl4:C.length≤4:=by omega
   have z1:C.length*24≤140737488355328:=by omega
   have z2:(C.length+1)*24≤140737488355328:=by omega
   have z3:C.length*8≤140737488355328:=by omega
   have z4:(C.length+1)*8≤140737488355328:=by omega
   have z5:C.length≤9223372036854775807:=by omega
   have z6:C.length+1≤9223372036854775807:=by omega
   have z7:C.length≤9223372036854775806:=by omega
   have w1:=zC (show q<4611686018427387904 by omega)
   have hne:af6 p k n q≠[]:=fun h=>by
    have:=aiS (p:=p) (k:=k) (n:=n) (c:=q)
    rw[h] at this
    simp at this
    omega
   have hM:mtR (afT k n (MB p) C)++[[znA (af6 p k n q)]]=mtR (afT k n (MB p) (C++[q])):=by simp[mtR,afT,af6]
   have hR:znR (af7 k l t C)++[[iv (agn k l t q)]]=znR (af7 k l t (C++[q])):=by simp[znR,af7]
   have hcr:(af7 k l t C).length=C.length:=by simp[af7]
   have kih:=ih (C++[q]) (q+1) (srK k n (MB p) l t f C a v i) (by simp; omega) (by omega) (fun c hcm=>by
    rcases List.mem_append.1 hcm with h | h
    ·exact hc c h
    ·simp at h; omega) hov
   rw[hq] at hsu
   rw[← hsu] at kih
   obtain ⟨b2,hb2⟩:∃ b2,srK k n (MB p) l t f C a v (i+1)=b2:=⟨_,rfl⟩
   rw[hb2] at kih
   have hs1:aip p l t k n f C a v (i+1)={env:=[(0,nN p l k),(1,nT t n),(8,.ptr 8 0),(9,.ptr 9 0),(11,.ptr 11 0),(12,.ptr 12 0),(15,iv (q+1:Nat))],sto:=[(8,.var (aiQ p l t k n)),(9,.var (aiR p l t k n C)),(11,.var [znA b2.x,iv b2.d,bv b2.s]),(12,.var [E1,iv 0,bv false])]}:=by unfold aip; rw[hb2,hq1]
   have hs0:aip p l t k n f C a v i={env:=[(0,nN p l k),(1,nT t n),(8,.ptr 8 0),(9,.ptr 9 0),(11,.ptr 11 0),(12,.ptr 12 0),(15,iv q)],sto:=[(8,.var (aiQ p l t k n)),(9,.var (aiR p l t k n C)),(11,.var [znA (srK k n (MB p) l t f C a v i).x,iv (srK k n (MB p) l t f C a v i).d,bv (srK k n (MB p) l t f C a v i).s]),(12,.var [E1,iv 0,bv false])]}:=by unfold aip; rw[hq]
   rw[hs0]
   generalize srK k n (MB p) l t f C a v i=b at *
   simp[agM,hqi,hqn,xM,ajt,aiJ,ai1 hne,hcl,z1,z5,ajw]
   refine aj4 (by decide) (by simp[xB]) ?_ ?_ (by simp) hM ?_
   ·simp only[ahe,hcl,zQ,List.map_cons,List.map_nil,List.length_cons,List.length_nil]; omega
   ·simp only[ahe,hcl,zQ,List.map_cons,List.map_nil,List.length_cons,List.length_nil]; omega
   simp[aiJ,hqi,hqn,hcr,z3,z4,z5,z6,ajw,hR,w1]
   refine za kih (by simp) (by simp) ?_
   simp[splice,w1,hs1]
  ·have hfin:¬ ((a:Int)+((k+2*n-a:Nat):Int)<(k:Int)+2*n):=by omega
   simp[agM,aip,ahm,hfin,splice,af2]
end
theorem ajX {n d:Int} (h1:0≤n) (h2:n<9223372036854775808) (h3:0<d) (h4:d<9223372036854775808):zc Try.prog XL [iv n,iv d] (.tuple [fq ((n:Rat)*(1/(d:Rat))),iv 0]):=by
 have k:=B3 (n:=n) (d:=d) (by omega) h2 (by omega) h4 (by omega)
 have e1:decide (n<0)=false:=decide_eq_false (by omega)
 have e2:decide (d<0)=false:=decide_eq_false (by omega)
 rw[e1,e2,sD (by omega),w9] at k
 have e3:mkRat (sg (false != false) n.natAbs) d.natAbs=(n:Rat)*(1/(d:Rat)):=by
  obtain ⟨a,rfl⟩:∃ a:Nat,n=a:=⟨n.toNat,by omega⟩
  obtain ⟨b,rfl⟩:∃ b:Nat,d=b:=⟨d.toNat,by omega⟩
  have e4:sg (false != false) (a:Int).natAbs=(a:Int):=by simp[sg]
  rw[e4,Int.natAbs_natCast,Rat.mkRat_eq_div]
  have e5:(((b:Nat):Int):Rat)=((b:Nat):Rat):=rfl
  rw[e5]
  grind
 rw[e3] at k
 exact k
def pw2 (j:Nat):Nat:=2^j
def agB (f:Nat→Bool):Nat→Nat
 | 0=>0
 | j+1=>agB f j+if f j=true then 2^j else 0
theorem aiG {f:Nat→Bool}:∀ j,agB f j<2^j
 | 0=>Nat.lt_succ_self 0
 | j+1=>by
  have:=aiG (f:=f) j
  rw[Nat.pow_succ]
  unfold agB
  split<;>omega
theorem ajV {f:Nat→Bool} {n j:Nat} (hn:n≤4) (hj:j<n):sm (agB f n) j=f j:=by
 have key:∀ a b c d:Bool,∀ n,n≤4→∀ j,j<n→sm (agB (fun i=>[a,b,c,d].getD i false) n) j=[a,b,c,d].getD j false:=by decide
 have hc:∀ q,q≤4→agB f q=agB (fun i=>[f 0,f 1,f 2,f 3].getD i false) q:=fun q hq=>by
  match q,hq with
  | 0,_=>rfl
  | 1,_=>rfl
  | 2,_=>rfl
  | 3,_=>rfl
  | 4,_=>rfl
 rw[hc n hn,key _ _ _ _ n hn j hj]
 match j,(show j<4 by omega) with
 | 0,_=>rfl
 | 1,_=>rfl
 | 2,_=>rfl
 | 3,_=>rfl
theorem ahK {k n:Nat} {S S':Nat→Nat→Bool} {l t y:Nat→Rat} (h:∀ i j,i<k→j<n→S i j=S' i j) (hp:se k n S l t y):se k n S' l t y :=
 ⟨hp.1,fun i hi=>by rw[← zu (f:=fun j=>if S i j=true then y j else 0) fun j hj=>by rw[h i j hi hj]]; exact hp.2 i hi⟩
section
variable {p l t:Nat→Nat} {k m i j:Nat}
def pqB (p t:Nat→Nat) (m i:Nat):Nat:=agB (fun j=>MB p i (afS t m j)) (afO t m).length
def plI (t:Nat→Nat) (i:Nat):List Int:=(afO t i).map fun j:Nat=>(j:Int)
def plL (t:Nat→Nat) (i:Nat):List Int:=(afO t i).map fun j:Nat=>(t j:Int)
theorem agU:(plI t m).length=(afO t m).length:=by simp[plI]
theorem aj7:(plL t m).length=(afO t m).length:=by simp[plL]
theorem ajh (h:j<(plI t m).length):(plI t m)[j]=(afS t m j:Int):=by
 rw[ahf (by rw[← agU]; exact h)]
 simp[plI]
theorem aj6:znR (plL t m)=agO (fun i=>(plT t m i:Int)) (afO t m).length:=by
 refine List.ext_getElem (by simp[plL]) fun j h1 h2=>?_
 rw[ai9,ac8]
 have hj:j<(afO t m).length:=by simpa [plL] using h1
 simp only[plL,List.getElem_map,plT,ahf hj]
def ah0 (t:Nat→Nat) (m:Nat) (x:List Int) (d:Int):Nat→Nat→Rat
 | 0=>fun _=>0
 | i+1=>upd (ah0 t m x d i) (afS t m i) ((Dt.nth x i:Rat)*(1/(d:Rat)))
abbrev zt5:List AV:=[bv false,zK,zK,zK,zK]
noncomputable def aie (p l t:Nat→Nat) (k m i:Nat):St:={env:=[(0,nN p l k),(1,nT t m),(4,.ptr 4 0),(7,apc 46 1 (znR (plI t i))),(8,apc 53 1 (znR (plL t i))),(9,iv i)],sto:=[(4,.var zt5)]}
noncomputable def aiw (p l t:Nat→Nat) (k m i:Nat):St:={env:=[(0,nN p l k),(1,nT t m),(4,.ptr 4 0),(7,apc 46 1 (znR (plI t m))),(8,apc 53 1 (znR (plL t m))),(10,apc 90 2 (ry (fun i=>(pqB p t m i:Int)) (fun i=>(l i:Int)) i)),(11,iv i)],sto:=[(4,.var zt5)]}
noncomputable def aif (p l t:Nat→Nat) (k m i j:Nat):St:={env:=[(0,nN p l k),(1,nT t m),(4,.ptr 4 0),(7,apc 46 1 (znR (plI t m))),(8,apc 53 1 (znR (plL t m))),(10,apc 90 2 (ry (fun i=>(pqB p t m i:Int)) (fun i=>(l i:Int)) i)),(11,iv i),(12,iv (agB (fun j=>MB p i (afS t m j)) j)),(13,iv (pw2 j)),(14,iv j)],sto:=[(4,.var zt5)]}
theorem ajq {p l t:Nat→Int} (hk:k<2305843009213693952) (hm:m<2305843009213693952) (he:¬ sh p l k t m=0):zc Try.prog ago [nL p l k,iL t m] (.tuple [.agg zt5,iv (sh p l k t m)]):=by
 have kf:=X8 (p:=p) (l:=l) (t:=t) hk hm
 generalize sh p l k t m=e at *
 refine zG ag9 (by simp) ?_
 simp[agG]
 refine za kf (by simp) (by simp) ?_
 simp[he,splice,agH]
theorem znt (t:Nat→Nat) (m:Nat):znR ((List.range m).map fun i=>(t i:Int))=agO (fun i=>(t i:Int)) m:=by
 unfold znR agO mR
 rw[List.map_map]
 rfl
theorem ajY (h:j<m):Dt.nth ((List.range m).map fun i=>(t i:Int)) j=t j:=by simp[Dt.nth,List.getD_eq_getElem?_getD,h]
theorem aiZ:afZ k m (MB p) l t (Dt.nth ((List.range m).map fun i=>(t i:Int))) 1↔se k m (MB p) (ZR l) (ZR t) (ZR t):=by
 have e:∀ j,j<m→((Dt.nth ((List.range m).map fun i=>(t i:Int)) j:Int):Rat)=((1:Int):Rat)*ZR t j:=fun j hj=>by rw[ajY hj]; unfold ZR; grind
 constructor
 ·intro h
  have h1:=ajx (by decide) h
  refine ⟨fun i hi=>⟨?_,?_⟩,fun i hi=>?_⟩
  ·exact zr0
  ·exact Rat.le_refl
  ·have:=h1.2 i hi
   rw[zu (g:=fun j=>if MB p i j=true then ZR t j else 0) fun j hj=>by
    dsimp only
    rw[e j hj]
    split
    ·grind
    ·rfl] at this
   exact this
 ·exact fun h=>ajB (by decide) e h
theorem ah5 (hk:k≤152) (hm:m≤8) (hp:∀ j,j<k→p j<256) (hl:∀ j,j<k→l j≤8000000) (ht:∀ i,i<m→t i≤1000000) :
  zc Try.prog afX [nN p l k,nT t m,nT t m,iv 1] (bv (decide (afZ k m (MB p) l t (Dt.nth ((List.range m).map fun i=>(t i:Int))) 1))):=by
 have h:=ajC (x:=(List.range m).map fun i=>(t i:Int)) (d:=1) hk hm hp hl ht (by simp) (by decide) (fun j=>by
  by_cases hj:j<m
  ·rw[ajY hj]; have:=ht j hj; omega
  ·have:Dt.nth ((List.range m).map fun i=>(t i:Int)) j=0:=by
    unfold Dt.nth
    rw[List.getD_eq_getElem?_getD,List.getElem?_eq_none (by simp; omega)]
    rfl
   omega)
 have e:znA ((List.range m).map fun i=>(t i:Int))=nT t m:=congrArg (AV.list 1 .plain) (znt t m)
 rw[e] at h
 exact h
theorem aja (hk:k≤152) (hm:m≤8) (hp:∀ j,j<k→p j<256) (hl:∀ j,j<k→l j≤8000000) (ht:∀ i,i<m→t i≤1000000) (he:sh (fun j=>p j) (fun j=>l j) k (fun i=>t i) m=0) (hn:¬ se k m (MB p) (ZR l) (ZR t) (ZR t)) :
  zc Try.prog ago [nN p l k,nT t m] (.tuple [.agg zt5,iv 6]):=by
 have kf:=X8 (p:=fun j=>(p j:Int)) (l:=fun j=>(l j:Int)) (t:=fun i=>(t i:Int)) (k:=k) (m:=m) (by omega) (by omega)
 rw[he] at kf
 have ks:=ah5 hk hm hp hl ht
 rw[decide_eq_false (fun h=>hn (aiZ.1 h))] at ks
 refine zG ag9 (by simp) ?_
 simp[agG]
 refine za kf (by simp) (by simp) ?_
 simp
 refine za ks (by simp) (by simp) ?_
 simp[splice,agH]
end
section
variable {p l t:Nat→Nat} {k m i j:Nat} {v:Rat}
theorem ajK:plI t (i+1)=if 0<t i then plI t i++[(i:Int)] else plI t i:=by
 unfold plI; rw[ah2]; split<;>simp
theorem ajL:plL t (i+1)=if 0<t i then plL t i++[(t i:Int)] else plL t i:=by
 unfold plL; rw[ah2]; split<;>simp
theorem akj:(plI t i).length≤i:=by rw[agU]; exact ahL
theorem akk:(plL t i).length≤i:=by rw[aj7]; exact ahL
noncomputable def aix (_p _l t:Nat→Nat) (_k m:Nat) (b:Vx) (i:Nat):St:={env:=[(1,nT t m),(4,.ptr 4 0),(7,apc 46 1 (znR (plI t m))),(15,.ptr 15 0),(16,.ptr 16 0),(17,iv i)],sto:=[(4,.var zt5),(15,.var [znA b.x,iv b.d,bv b.s]),(101,.arr 3 (fZ (fun _=>0) i m)),(16,.var [bv false,zK,zK,.sl 101 3 0 m,zK])]}
noncomputable def aiy (t:Nat→Nat) (m:Nat) (b:Vx) (i:Nat):St:={env:=[(4,.ptr 4 0),(7,apc 46 1 (znR (plI t m))),(15,.ptr 15 0),(16,.ptr 16 0),(18,iv i)],sto:=[(4,.var zt5),(15,.var [znA b.x,iv b.d,bv b.s]),(101,.arr 3 (fR (ah0 t m b.x b.d i) m)),(16,.var [bv false,zK,zK,.sl 101 3 0 m,zK])]}
theorem ajA (hk:k≤152) (hm:m≤4) (hp:∀ j,j<k→p j<256) (hl:∀ j,j<k→l j≤8000000) (ht:∀ i,i<m→t i≤1000000) (he:sh (fun j=>p j) (fun j=>l j) k (fun i=>t i) m=0) (hn:se k m (MB p) (ZR l) (ZR t) (ZR t))
  {b:Vx} (hb:af8 k (afO t m).length (MB (pqB p t m)) l (plT t m) (afO t m).length [] 0 ⟨[],0,false⟩=b) (hbs:b.s=true) (hbo:OkV k (afO t m).length (MB (pqB p t m)) l (plT t m) b) (hbv:((b.x.sum:Int):Rat)=v*((b.d:Int):Rat)) :
  zc Try.prog ago [nN p l k,nT t m] (.tuple [.agg [f0 v,f1 v,f2 v,fL (ah0 t m b.x b.d (afO t m).length) m,zK],iv 0]):=by
 have kf:=X8 (p:=fun j=>(p j:Int)) (l:=fun j=>(l j:Int)) (t:=fun i=>(t i:Int)) (k:=k) (m:=m) (by omega) (by omega)
 rw[he] at kf
 have ks:=ah5 hk (by omega) hp hl ht
 rw[decide_eq_true (aiZ.2 hn)] at ks
 have hnm:(afO t m).length≤m:=ahL
 have hpq:∀ j,j<k→pqB p t m j<256:=fun j _=>by
  have h1:=aiG (f:=fun q=>MB p j (afS t m q)) (afO t m).length
  have h2:2^(afO t m).length≤2^4:=Nat.pow_le_pow_right (by decide) (by omega)
  unfold pqB
  omega
 have htT:∀ i,i<(afO t m).length→plT t m i≤1000000:=fun i hi=>ht _ (ah1 hi).1
 have kc:=akb (p:=pqB p t m) (l:=l) (t:=plT t m) (n:=(afO t m).length) hk (by omega) hpq
 have kl:=ajf (p:=pqB p t m) (l:=l) (t:=plT t m) (n:=(afO t m).length) hk (by omega) hpq hl htT (afO t m).length [] 0 ⟨[],0,false⟩ (by simp) (by omega) (fun c hc=>by cases hc) (fun h=>by cases h)
 rw[hb] at kl
 obtain ⟨⟨o1,o2⟩,o3,o4⟩:=hbo hbs
 have hxb:∀ a∈b.x,0≤a∧a≤24000000:=fun a ha=>by
  obtain ⟨j,hj,rfl⟩:=List.getElem_of_mem ha
  have h2:=o3.1 j (by omega)
  have h3:Dt.nth b.x j=b.x[j]:=by simp[Dt.nth,List.getD_eq_getElem?_getD,hj]
  rw[h3] at h2
  have h4:=Int.mul_le_mul o2 (show (plT t m j:Int)≤1000000 by have:=htT j (by omega); omega) (by omega) (by omega)
  omega
 have hsum:=ahQ hxb b.x.length (Nat.le_refl _)
 rw[List.take_length,o4] at hsum
 have kt:=ajk (x:=b.x) (by omega) (fun a ha=>by have:=hxb a ha; omega)
 have kw:=ajX (n:=b.x.sum) (d:=b.d) (by omega) (by omega) o1 (by omega)
 have hv:((b.x.sum:Int):Rat)*(1/((b.d:Int):Rat))=v:=by
  have hd':(0:Rat)<((b.d:Int):Rat):=Rat.intCast_pos.2 o1
  rw[hbv]; grind
 rw[hv] at kw
 refine zG ag9 (by simp) ?_
 simp[agG]
 refine za kf (by simp) (by simp) ?_
 simp
 refine za ks (by simp) (by simp) ?_
 simp
 refine zB (aie p l t k m) (fun _=>True) m (by simp[aie,plI,plL,afO,lr]) trivial (fun i hi _=>?_) (fun _=>?_)
 ·have e:(i:Int)<m:=by omega
  have w1:=zC (show i<4611686018427387904 by omega)
  have h1:=akj (t:=t) (i:=i)
  have h2:=akk (t:=t) (i:=i)
  have e1:=ajK (t:=t) (i:=i)
  have e2:=ajL (t:=t) (i:=i)
  by_cases c:0<t i
  ·have c':(0:Int)<t i:=by omega
   rw[if_pos c] at e1 e2
   have hr1:znR (plI t i)++[[iv i]]=znR (plI t (i+1)):=by rw[e1,agy]; rfl
   have hr2:znR (plL t i)++[[iv (t i)]]=znR (plL t (i+1)):=by rw[e2,agy]; rfl
   simp[agk,aie,e,hi,c]
   refine agR (by decide) rfl ?_ ?_ (by simp) ?_
   ·simp only[afU]; omega
   ·simp only[afU]; omega
   rw[hr1]
   simp[af0 (show ¬ 53=46 by decide),e,hi]
   refine agR (by decide) rfl ?_ ?_ (by simp) ?_
   ·simp only[afU]; omega
   ·simp only[afU]; omega
   rw[hr2]
   simp[af0 (show ¬ 46=53 by decide),w1,aie]
  ·have c':¬ (0:Int)<t i:=by omega
   rw[if_neg c] at e1 e2
   simp[agk,aie,e,hi,c,w1,e1,e2]
 ·simp[agk,aie,aha]
  refine zB (aiw p l t k m) (fun _=>True) k (by simp[aiw,ry,mR,lr]) trivial (fun i hi _=>?_) (fun _=>?_)
  ·have e:(i:Int)<k:=by omega
   have w1:=zC (show i<4611686018427387904 by omega)
   simp[agJ,aiw,e]
   refine zB (aif p l t k m i) (fun _=>True) (afO t m).length (by simp[aif,agB,pw2]) trivial (fun j hj _=>?_) (fun _=>?_)
   ·have e2:(j:Int)<(afO t m).length:=by omega
    have hjI:j<(znR (plI t m)).length:=by rw[afU,agU]; exact hj
    have hpl:=ah1 hj
    have kh:=CE (p:=p i) (m:=afS t m j) (hp i hi) (by omega)
    simp[-nZ,ac5,-qL,aij hjI,air,agI,aif,e2,agU,hi,ajh]
    refine za kh (by simp) (by simp) ?_
    have hB:pw2 j≤8∧pw2 (j+1)=2*pw2 j:=by
     have h1:2^j≤2^3:=Nat.pow_le_pow_right (by decide) (by omega)
     exact ⟨h1,by unfold pw2; rw[Nat.pow_succ,Nat.mul_comm]⟩
    have hS:agB (fun j=>MB p i (afS t m j)) j<pw2 j:=aiG j
    have hS2:agB (fun j=>MB p i (afS t m j)) (j+1)=agB (fun j=>MB p i (afS t m j)) j+if sm (p i) (afS t m j)=true then pw2 j else 0:=rfl
    have w2:=zC (show j<4611686018427387904 by omega)
    have w3:IntKind.i64.wrap (2*(pw2 j:Int))=(pw2 (j+1):Nat):=by rw[wrap64]<;>omega
    cases hbit:sm (p i) (afS t m j)
    ·rw[hbit] at hS2
     simp only[Bool.false_eq_true,if_false,Nat.add_zero] at hS2
     simp[aif,hS2,w2,w3]
    ·rw[hbit] at hS2
     simp only[if_true] at hS2
     have w4:IntKind.i64.wrap ((agB (fun j=>MB p i (afS t m j)) j:Int)+(pw2 j:Int))=(agB (fun j=>MB p i (afS t m j)) (j+1):Nat):=by rw[hS2,wrap64]<;>omega
     simp[aif,w4,w2,w3]
   ·simp[-nZ,ac5,agI,aif,agU,ahh,hi,e]
    refine agR (by decide) rfl ?_ ?_ (by simp) ?_
    ·simp only[ac9]; omega
    ·simp only[ac9]; omega
    have hro:ry (fun i=>(pqB p t m i:Int)) (fun i=>(l i:Int)) i++[[iv (agB (fun j=>MB p i (afS t m j)) (afO t m).length),iv (l i)]]=ry (fun i=>(pqB p t m i:Int)) (fun i=>(l i:Int)) (i+1):=by
     unfold ry
     rw[bF]
     rfl
    rw[hro]
    simp[af0 (show ¬ 46=90 by decide),af0 (show ¬ 53=90 by decide),ahi,w1,aiw]
  ·have kc2:=vM kc (YI (Ur (sz:=2) (rows:=ry (fun i=>(pqB p t m i:Int)) (fun i=>(l i:Int)) k) afY) (Ur (sz:=1) (rows:=agO (fun i=>(plT t m i:Int)) (afO t m).length) afY))
   have kl2:=vM kl (yn (Ur (sz:=2) (rows:=ry (fun i=>(pqB p t m i:Int)) (fun i=>(l i:Int)) k) afY) (yn (Ur (sz:=1) (rows:=agO (fun i=>(plT t m i:Int)) (afO t m).length) afY) (yn AV.imp.refl (yn (bu (yn (x:=E1) (AV.imp_nil rfl) (yn (x:=E1) (AV.imp_nil rfl) ny))) (yn AV.imp.refl (yn (bu (yn (x:=E1) (AV.imp_nil rfl) (yn AV.imp.refl (yn AV.imp.refl ny)))) ny))))))
   have hpz:=aj6 (t:=t) (m:=m)
   have hb1:(m:Int)*56≤140737488355328:=by omega
   have hb2:(m:Int)≤9223372036854775807:=by omega
   simp[agJ,aiw,ahl,hpz]
   refine za kc2 (by simp) (.inl (by unfold apc; split<;>split<;>rfl)) ?_
   simp
   refine za kl2 (by simp) (.inl (by unfold apc; split<;>split<;>rfl)) ?_
   have hz0:List.replicate m [bv false,E1,E1]=fZ (fun _=>0) 0 m:=nn
   simp[eMk,hb1,hb2,splice,v3,hz0]
   refine zB (aix p l t k m b) (fun _=>True) m (by simp[aix]) trivial (fun i hi _=>?_) (fun _=>?_)
   ·have e:(i:Int)<m:=by omega
    have w1:=zC (show i<4611686018427387904 by omega)
    have kz:=mo (n:=0) (by omega)
    simp[agK,aix,e]
    refine za kz (by simp) (by simp) ?_
    have hset:(fZ (fun _=>(0:Rat)) i m).set i (fr 0)=fZ (fun _=>0) (i+1) m:=kD hi
    simp[hi,e,hset,w1,aix]
   ·simp[agK,aix,ahk]
    refine zB (aiy t m b) (fun _=>True) (afO t m).length (by simp[aiy,ah0,nk]) trivial (fun i hi _=>?_) (fun _=>?_)
    ·have e:(i:Int)<(afO t m).length:=by omega
     have w1:=zC (show i<4611686018427387904 by omega)
     have hjI:i<(znR (plI t m)).length:=by rw[afU,agU]; exact hi
     have hpl:=ah1 hi
     have hix:i<b.x.length:=by omega
     have hix':(i:Int)<b.x.length:=by omega
     have hxi:=hxb b.x[i] (List.getElem_mem hix)
     have kx:=ajX (n:=b.x[i]) (d:=b.d) (by omega) (by omega) o1 (by omega)
     simp[-nZ,ac5,-qL,aij hjI,air,agL,aiy,e,agU,ajh,hix]
     refine za kx (by simp) (by simp) ?_
     have hnx:Dt.nth b.x i=b.x[i]:=by simp[Dt.nth,List.getD_eq_getElem?_getD,hix]
     have hset:(fR (ah0 t m b.x b.d i) m).set (afS t m i) (fr ((b.x[i]:Rat)*(1/(b.d:Rat))))=fR (ah0 t m b.x b.d (i+1)) m:=by
      rw[tu]
      show _=fR (upd (ah0 t m b.x b.d i) (afS t m i) ((Dt.nth b.x i:Rat)*(1/(b.d:Rat)))) m
      rw[hnx]
     have hp1:(afS t m i:Int)<m:=by omega
     have hp2:=hpl.1
     generalize (b.x[i]:Rat)*(1/(b.d:Rat))=qv at *
     simp[hp1,hp2,hset,w1,aiy]
    ·simp[-nZ,ac5,agU,agL,aiy,ahj,xf,uf,Rr,qT,BE,vr,Zq,ahA (show ¬ 46=101 by decide)]
     refine za kt (by simp) (by simp) ?_
     simp
     refine za kw (by simp) (by simp) ?_
     simp[ahc,agH]
end
section
variable {k m:Nat}
theorem akn {p l t:Nat→Int}:zc Try.prog ahu [nL p l k,iL t m] (bv (decide (m≤4∧k≤5))):=by
 refine zG ajc (by simp) ?_
 by_cases h1:m≤4
 ·have h1':(m:Int)≤4:=by omega
  have e:((k:Int)≤5)↔k≤5:=by omega
  simp[ahv,h1,h1',ahy,e]
 ·have h1':¬ (m:Int)≤4:=by omega
  simp[ahv,h1,h1',ahy]
theorem ajs {p l t:Nat→Nat} {v:Rat} (hm:m≤4) (hn:se k m (MB p) (ZR l) (ZR t) (ZR t)) (h1:∃ y,se k m (MB p) (ZR l) (ZR t) y∧zg m y=v) (h2:∀ y,se k m (MB p) (ZR l) (ZR t) y→v≤zg m y) :
  ∃ b,af8 k (afO t m).length (MB (pqB p t m)) l (plT t m) (afO t m).length [] 0 ⟨[],0,false⟩=b∧b.s=true∧OkV k (afO t m).length (MB (pqB p t m)) l (plT t m) b∧((b.x.sum:Int):Rat)=v*((b.d:Int):Rat):=by
 have hnm:(afO t m).length≤4:=Nat.le_trans ahL hm
 have hS:∀ i j,i<k→j<(afO t m).length→plS (MB p) t m i j=MB (pqB p t m) i j:=fun i j _ hj=>(ajV (f:=fun j=>MB p i (afS t m j)) hnm hj).symm
 have hS':∀ i j,i<k→j<(afO t m).length→MB (pqB p t m) i j=plS (MB p) t m i j:=fun i j hi hj=>(hS i j hi hj).symm
 obtain ⟨⟨y,hy,e⟩,hl⟩:=ajM h1 h2
 have hT:=(aji hn).1
 obtain ⟨r1,r2,r3⟩:=ajb (k:=k) (n:=(afO t m).length) (S:=MB (pqB p t m)) (l:=l) (T:=plT t m) (v:=v) hnm (ahK hS hT) ⟨y,ahK hS hy,e⟩ fun y hy=>hl y (ahK hS' hy)
 exact ⟨_,rfl,r1,r2,r3⟩
theorem aiX {p l t:Nat→Int} (hk:k<2305843009213693952) (hm:m<2305843009213693952):zc Try.prog af4 [nL p l k,iL t m] (bv true):=by
 have kw:=akn (p:=p) (l:=l) (t:=t) (k:=k) (m:=m)
 by_cases q:m≤4∧k≤5
 rotate_left
 ·rw[decide_eq_false q] at kw
  refine zG afV (by simp) ?_
  simp[afQ]
  refine za kw (by simp) (by simp) ?_
  simp
  refine za (xs:=[]) (args:=[]) gk rfl (.inl rfl) ?_
  simp[afR]
 rw[decide_eq_true q] at kw
 by_cases he:sh p l k t m=0
 rotate_left
 ·have k1:=Y1 hk hm he
  have k2:=ajq hk hm he
  generalize sh p l k t m=e at *
  refine zG afV (by simp) ?_
  simp[afQ]
  refine za kw (by simp) (by simp) ?_
  simp
  refine za k1 (by simp) (by simp) ?_
  simp
  refine za k2 (by simp) (by simp) ?_
  simp[he]
  refine za (xs:=[]) (args:=[]) gk rfl (.inl rfl) ?_
  simp[afR]
 obtain ⟨pn,ln,tn,e1,e2,g1,g2,g3,g4,g5⟩:=EV he
 have g3':∀ j,j<k→pn j<256:=fun j hj=>bK g1 (g3 j hj)
 rw[e1,e2] at kw ⊢
 have he':sh (fun j=>(pn j:Int)) (fun j=>(ln j:Int)) k (fun i=>(tn i:Int)) m=0:=Zf g2 g1 g3 g4 g5
 obtain ⟨r,hr,hs⟩:=fU g2 g1 g3 g4 g5
 rcases hr with ⟨x,y,v,ho,rfl⟩ | ⟨x,ray,hu,rfl⟩
 ·obtain ⟨c1,_⟩:=Y8 g2 g1 g3 g4 g5 ho
  have c1:=vM c1 (bz AV.imp.refl AV.imp.refl (UU (X:=x)))
  obtain ⟨o1,o2,o3⟩:=f5 (fun i _=>zr0) ho.1
  have hP:=Gb o1 (fun i _=>zr0)
  obtain ⟨b,hb,hbs,hbo,hbv⟩:=ajs q.1 hP ⟨y,o1,o2⟩ fun z hz=>by rw[← o3]; exact SP (fun j _=>ho.1.x0 j) hz
  have kr:=ajA g2 q.1 g3' g4 g5 he' hP hb hbs hbo hbv
  have kp:=NW (a:=f0 v) (b:=f1 v) (c:=f2 v) (s1:=3) (m1:=.plain) (r1:=fR y m) (s2:=3) (m2:=.full) (r2:=fR x k) (fun z hz=>by rcases JK.1 hz with rfl | rfl | rfl<;>simp) rfl rfl
  obtain ⟨g7,g8⟩:=Jo g1
  have ksf:=Xg (q:=v) (show grow 23 m≤137438953472 by omega) ho.2.2.2
  generalize ah0 tn m b.x b.d (afO tn m).length=w at *
  refine zG afV (by simp) ?_
  simp[afQ]
  refine za kw (by simp) (by simp) ?_
  simp
  refine za hs (by simp) (by simp) ?_
  simp
  refine za kr (by simp) (by simp) ?_
  simp
  rw[decide_eq_true rfl] at ksf
  refine za ksf (by simp) (by simp) ?_
  simp
  refine za kp (by simp) (by simp) ?_
  simp
  refine za c1 (by simp) (by simp) ?_
  simp
  refine za (xs:=[]) (args:=[]) gk rfl (.inl rfl) ?_
  simp[afR]
 ·have hnp:¬ se k m (MB pn) (ZR ln) (ZR tn) (ZR tn):=fun h=>Q6 hu h
  have kr:=aja g2 g1 g3' g4 g5 he' hnp
  refine zG afV (by simp) ?_
  simp[afQ]
  refine za kw (by simp) (by simp) ?_
  simp
  refine za hs (by simp) (by simp) ?_
  simp
  refine za kr (by simp) (by simp) ?_
  simp
  refine za (xs:=[]) (args:=[]) gk rfl (.inl rfl) ?_
  simp[afR]
end
theorem minrevenueMinimal_contract (xs:List AV) (h:Ya [.slice Q5,.slice (.int .i64)] xs):zc Try.prog af4 xs (bv true):=by
 obtain ⟨x,y,rfl,h1,h2⟩:=Ki h
 obtain ⟨p,l,k,e1,hk⟩:=EW h1
 obtain ⟨t,m,e2,hm⟩:=Ud h2
 cases e1
 cases e2
 exact aiX hk hm
end Go.Proofs.Ytbgnkodhpbkdoaa
