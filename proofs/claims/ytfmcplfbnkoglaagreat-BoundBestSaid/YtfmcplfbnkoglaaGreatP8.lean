/- What the proof rests on, part 8: PB Q0 Q1 Q2 Q3 Q4 Q5 Q6 Q7 IM PD QD N1 N2 N3c Dig2 N4f N5 Dig3 Dig4 N6 N7 N8 N9 N10 Dig5 N11 N6b N12 N13 N14 F1 F3f F5 FR PE. -/
import Derived.Test.YtfmcplfbnkoglaaGreatP7
set_option maxRecDepth 100000
set_option maxHeartbeats 4000000
namespace Go.Pb
structure Of where
 b:Int
 w:Nat→Int
 v:Int
structure Pb where
 sup:Nat→Int
 opn:Nat→Int
 cls:Nat→Int
 cl:List Int
 of:List Of
def uj {α:Type} (f:α→Int) (l:List α) (k:Nat):Int:=((l.take k).map f).sum
section
variable {α:Type} {f g:α→Int} {l:List α} {k:Nat} {o:α}
theorem aS:uj f l 0=0:=rfl
theorem mb (h:l[k]?=some o):l.take (k+1)=l.take k++[o]:=by rw[List.take_add_one,h]; rfl
theorem ft (h:l[k]?=some o):uj f l (k+1)=uj f l k+f o:=by
 unfold uj
 rw[mb h,List.map_append,List.sum_append]
 simp
theorem cq:uj f l l.length=(l.map f).sum:=by simp[uj]
theorem nW {a b:Int} (h:∀ o∈l,a≤f o∧f o≤b):∀ k,k≤l.length→a*k≤uj f l k∧uj f l k≤b*k
 | 0,_=>by simp[uj]
 | k+1,hk=>by
  have hk':k<l.length:=by omega
  have hg:l[k]?=some l[k]:=by simp[hk']
  obtain ⟨h1,h2⟩:=nW h k (by omega)
  obtain ⟨h3,h4⟩:=h l[k] (List.getElem_mem hk')
  rw[ft hg,Int.natCast_add,Int.mul_add,Int.mul_add]
  omega
theorem RX {a b:Int} (h:∀ o∈l,a≤f o∧f o≤b):a*l.length≤(l.map f).sum∧(l.map f).sum≤b*l.length:=by
 have:=nW h l.length (Nat.le_refl _)
 rwa [cq] at this
end
def okB (w:Nat→Int):Prop:=∀ j,j<6→0≤w j∧w j≤4
instance (w:Nat→Int):Decidable (okB w):=by unfold okB; exact inferInstance
def lm (w:Nat→Int):Prop:=∀ j,j<6→w j=0
instance (w:Nat→Int):Decidable (lm w):=by unfold lm; exact inferInstance
def eqB (w u:Nat→Int):Prop:=∀ j,j<6→w j=u j
instance (w u:Nat→Int):Decidable (eqB w u):=by unfold eqB; exact inferInstance
def leB (w u:Nat→Int):Prop:=∀ j,j<6→w j≤u j
instance (w u:Nat→Int):Decidable (leB w u):=by unfold leB; exact inferInstance
def Pb.clOf (P:Pb) (b:Int):Int:=P.cl.getD b.toNat 0
def Pb.rows (P:Pb):Nat:=P.cl.length+12
def Pb.coef (P:Pb) (r:Nat) (o:Of):Int :=
 if r<P.cl.length then (if o.b=r then 1 else 0)
 else if r<P.cl.length+6 then o.w (r-P.cl.length)
 else if P.cls (r-P.cl.length-6)=0∨P.cls (r-P.cl.length-6)=P.clOf o.b then 0 else o.w (r-P.cl.length-6)
def Pb.bnd (P:Pb) (r:Nat):Int :=
 if r<P.cl.length then 1 else if r<P.cl.length+6 then P.sup (r-P.cl.length) else P.opn (r-P.cl.length-6)
def Pb.fits (P:Pb) (l:List Of):Prop:=∀ r,r<P.rows→(l.map (P.coef r)).sum≤P.bnd r
instance (P:Pb) (l:List Of):Decidable (P.fits l):=by unfold Pb.fits; exact inferInstance
def Pb.okC (P:Pb) (j:Nat):Prop:=0≤P.cls j∧P.cls j≤4∧0≤P.opn j∧P.opn j≤P.sup j∧(P.cls j=0→P.opn j=P.sup j)
instance (P:Pb) (j:Nat):Decidable (P.okC j):=by unfold Pb.okC; exact inferInstance
def Pb.okCs (P:Pb):Prop:=∀ j,j<6→P.okC j
instance (P:Pb):Decidable P.okCs:=Nat.decidableBallLT 6 fun j _=>P.okC j
def nV (c:Int):Prop:=0≤c∧c≤4
instance (c:Int):Decidable (nV c):=by unfold nV; exact inferInstance
def Pb.frameE (P:Pb):Int :=
 if ¬ okB P.sup then 4 else if ¬ P.okCs then 4 else if 8<P.cl.length∨160<P.of.length then 3 else if ∀ c∈P.cl,nV c then 0 else 4
def sS (n:Nat) (o:Of):Int:=if o.b<0∨(n:Int)≤o.b then 6 else if o.v<1∨1000000<o.v then 4 else if okB o.w then 0 else 4
def Pb.offE (P:Pb) (o:Of):Int:=if sS P.cl.length o≠0 then sS P.cl.length o else if lm o.w then 4 else if P.fits [o] then 0 else 14
def qC (o o':Of):Prop:=o.b=o'.b∧eqB o.w o'.w
instance (o o':Of):Decidable (qC o o'):=by unfold qC; exact inferInstance
def Pb.offI (P:Pb) (i:Nat) (o:Of):Int:=if P.offE o≠0 then P.offE o else if ∃ o'∈P.of.take i,qC o' o then 7 else 0
def Pb.chkL (P:Pb):Nat→Int
 | 0=>0
 | i+1=>if P.chkL i=0 then (match P.of[i]? with | some o=>P.offI i o | none=>0) else P.chkL i
def Pb.chk (P:Pb):Int:=if P.frameE=0 then P.chkL P.of.length else P.frameE
section
variable {P:Pb}
theorem Rf {i:Nat} (h:P.chkL i≠0):∀ d,P.chkL (i+d)=P.chkL i
 | 0=>rfl
 | d+1=>by
  have:=Rf h d
  rw[← Nat.add_assoc,Pb.chkL,this,if_neg h]
theorem kS {i k:Nat} {o:Of} (h0:P.chkL i=0) (hi:P.of[i]?=some o) (he:P.offI i o≠0) (hk:i<k):P.chkL k=P.offI i o:=by
 have h1:P.chkL (i+1)=P.offI i o:=by rw[Pb.chkL,if_pos h0,hi]
 have h2:=Rf (P:=P) (i:=i+1) (by rw[h1]; exact he) (k-(i+1))
 rw[show i+1+(k-(i+1))=k by omega] at h2
 rw[h2,h1]
theorem Re {i:Nat} {o:Of} (h0:P.chkL i=0) (hi:P.of[i]?=some o) (he:P.offI i o=0):P.chkL (i+1)=0:=by rw[Pb.chkL,if_pos h0,hi]; exact he
theorem GQ {k:Nat} (h:P.chkL k=0):∀ i o,i<k→P.of[i]?=some o→P.offI i o=0:=by
 induction k with
 | zero=>intro i o hi; omega
 | succ k ih =>
  have hk:P.chkL k=0:=by
   rw[Pb.chkL] at h
   split at h
   ·rename_i h0; exact h0
   ·exact h
  intro i o hi ho
  by_cases e:i=k
  ·subst e
   rw[Pb.chkL,if_pos hk,ho] at h
   exact h
  ·exact ih hk i o (by omega) ho
structure Pb.Good (P:Pb):Prop where
 sup:okB P.sup
 set:P.okCs
 n:P.cl.length≤8
 k:P.of.length≤160
 cl:∀ c∈P.cl,nV c
 off:∀ o∈P.of,P.offE o=0
 new:∀ (i l:Nat) o o',l<i→P.of[i]?=some o→P.of[l]?=some o'→¬ qC o' o
theorem uS (h:P.chk=0):P.Good:=by
 unfold Pb.chk at h
 split at h
 ·rename_i hf
  unfold Pb.frameE at hf
  split at hf
  ·cases hf
  ·rename_i h1
   split at hf
   ·cases hf
   ·rename_i h2
    split at hf
    ·cases hf
    ·rename_i h3
     split at hf
     ·rename_i h4
      have hz:=GQ h
      refine ⟨Decidable.not_not.1 h1,Decidable.not_not.1 h2,by omega,by omega,h4,fun o ho=>?_,fun i l o o' hl hi hlo hs=>?_⟩
      ·obtain ⟨i,hi,rfl⟩:=List.getElem_of_mem ho
       have:=hz i P.of[i] hi (by simp[hi])
       unfold Pb.offI at this
       split at this
       ·exact this
       ·rename_i h5; exact Decidable.not_not.1 h5
      ·have hi':i<P.of.length:=(List.getElem?_eq_some_iff.1 hi).1
       have:=hz i o hi' hi
       unfold Pb.offI at this
       split at this
       ·rename_i h5; exact h5 this
       ·rw[if_pos ⟨o',List.mem_of_getElem? (i:=l) (by rw[List.getElem?_take,if_pos hl]; exact hlo),hs⟩] at this
        cases this
     ·cases hf
 ·rename_i hf; exact absurd h hf
theorem yU {o:Of} (h:P.offE o=0):sS P.cl.length o=0∧¬ lm o.w∧P.fits [o]:=by
 unfold Pb.offE at h
 split at h
 ·rename_i h1; exact absurd h h1
 ·rename_i h1
  split at h
  ·cases h
  ·rename_i h2
   split at h
   ·rename_i h3; exact ⟨Decidable.not_not.1 h1,h2,h3⟩
   ·cases h
theorem xC {n:Nat} {o:Of} (h:sS n o=0):(0≤o.b∧o.b<n)∧(1≤o.v∧o.v≤1000000)∧okB o.w:=by
 unfold sS at h
 split at h
 ·cases h
 ·rename_i h1
  split at h
  ·cases h
  ·rename_i h2
   split at h
   ·rename_i h3; exact ⟨by omega,by omega,h3⟩
   ·cases h
theorem uq {r:Nat} {o:Of} (hw:okB o.w) (hr:r<P.rows):0≤P.coef r o∧P.coef r o≤4:=by
 unfold Pb.rows at hr
 unfold Pb.coef
 split
 ·split<;>omega
 ·split
  ·exact hw _ (by omega)
  ·split
   ·omega
   ·exact hw _ (by omega)
end
end Go.Pb

namespace Go.Proofs.YtfmcplfbnkoglaaGreat
open Go Go.Am Go.Pb
def bI (w:Nat→Int):List Int:=[w 0,w 1,w 2,w 3,w 4,w 5]
@[irreducible] def bC (w:Nat→Int):List AV:=(bI w).map iv
theorem vN (w:Nat→Int):bC w=[iv (w 0),iv (w 1),iv (w 2),iv (w 3),iv (w 4),iv (w 5)]:=by unfold bC; rfl
section
variable {w u:Nat→Int} {k l a b M:Nat} {e:ze}
@[simp] theorem acY:(bC w).length=6:=by rw[vN]; rfl
@[simp] theorem aev:(bC w).all rf=true:=by rw[vN]; rfl
theorem acZ {x:AV} (h:x∈bC w):∃ n,x=iv n:=by
 unfold bC at h
 obtain ⟨n,_,rfl⟩:=List.mem_map.1 h
 exact ⟨n,rfl⟩
@[simp] theorem afz:(∀ x,x∈bC w→rf x=true)=True:=eq_true fun x h=>by obtain ⟨n,rfl⟩:=acZ h; rfl
@[simp] theorem D5:(bC w).map strip=bC w:=by rw[vN]; rfl
@[simp] theorem ah8:(bC w).map (dg l)=bC w:=by rw[vN]; simp
@[simp] theorem ahj:xg k (bC w)=false:=by rw[vN]; simp
theorem QN (h:k<6):(bC w)[k]?=some (iv (w k)):=by
 rw[vN]
 match k,h with
 | 0,_=>rfl
 | 1,_=>rfl
 | 2,_=>rfl
 | 3,_=>rfl
 | 4,_=>rfl
 | 5,_=>rfl
 | n+6,h=>omega
@[simp] theorem agJ {h:k<(bC w).length}:(bC w)[k]=iv (w k):=by
 have h2:k<6:=by simpa using h
 have:=QN (w:=w) h2
 rw[List.getElem?_eq_getElem h] at this
 exact Option.some.inj this
@[simp] theorem afH:zH (bC w) 0 (some 6)=some (.agg (bC w)):=by rw[uH acY aev,D5]
theorem aw (h:k<6):zH (bC w) k none=some (iv (w k)):=by
 simp[zH,QN h]
theorem Xk (h:k<6):vu (bC w) k none=some (iv (w k)):=by
 simp[vu,QN h]
@[simp] theorem nv:j6 6 (bC w)=true:=by unfold bC; rw[UE]; rfl
@[simp] theorem ags:ca (bC w)=bI w:=by unfold bC; exact aE _
theorem Qr:(bI w=bI u)↔eqB w u:=by
 unfold bI eqB
 constructor
 ·intro h j hj
  simp only[List.cons.injEq,and_true] at h
  obtain ⟨h0,h1,h2,h3,h4,h5⟩:=h
  match j,hj with
  | 0,_=>exact h0
  | 1,_=>exact h1
  | 2,_=>exact h2
  | 3,_=>exact h3
  | 4,_=>exact h4
  | 5,_=>exact h5
  | n+6,h=>omega
 ·intro h
  rw[h 0 (by omega),h 1 (by omega),h 2 (by omega),h 3 (by omega),h 4 (by omega),h 5 (by omega)]
end
@[irreducible] def oC (o:Of):List AV:=iv o.b::(bC o.w++[iv o.v])
theorem rc (o:Of):oC o=[iv o.b,iv (o.w 0),iv (o.w 1),iv (o.w 2),iv (o.w 3),iv (o.w 4),iv (o.w 5),iv o.v]:=by unfold oC; rw[vN]; rfl
section
variable {o:Of} {k l:Nat}
@[simp] theorem adH:(oC o).length=8:=by rw[rc]; rfl
@[simp] theorem aab:(oC o).all rf=true:=by rw[rc]; rfl
@[simp] theorem afR:(∀ x,x∈oC o→rf x=true)=True:=eq_true fun x h=>List.all_eq_true.1 aab x h
@[simp] theorem Bl:(oC o).map strip=oC o:=by rw[rc]; rfl
@[simp] theorem aiK:(oC o).map (dg l)=oC o:=by rw[rc]; simp
@[simp] theorem ahU:xg k (oC o)=false:=by rw[rc]; simp
@[simp] theorem agy:(oC o)[0]?=some (iv o.b):=by rw[rc]; rfl
@[simp] theorem agz:(oC o)[7]?=some (iv o.v):=by rw[rc]; rfl
@[simp] theorem aiI {h:0<(oC o).length}:(oC o)[0]=iv o.b:=by have:=agy (o:=o); rw[List.getElem?_eq_getElem h] at this; exact Option.some.inj this
@[simp] theorem aiJ {h:7<(oC o).length}:(oC o)[7]=iv o.v:=by have:=agz (o:=o); rw[List.getElem?_eq_getElem h] at this; exact Option.some.inj this
theorem F2 (h:k<6):(oC o)[1+k]?=some (iv (o.w k)):=by
 rw[rc]
 match k,h with
 | 0,_=>rfl
 | 1,_=>rfl
 | 2,_=>rfl
 | 3,_=>rfl
 | 4,_=>rfl
 | 5,_=>rfl
 | n+6,h=>omega
@[simp] theorem afO:zH (oC o) 0 (some 8)=some (.agg (oC o)):=by rw[uH adH aab,Bl]
@[simp] theorem aeM:zH (oC o) 0 none=some (iv o.b):=by simp[zH]
@[simp] theorem aeN:zH (oC o) 7 none=some (iv o.v):=by simp[zH]
@[simp] theorem aeP:zH (oC o) 1 (some 6)=some (.agg (bC o.w)):=by rw[rc,vN]; rfl
theorem dY (h:k<6):zH (oC o) (1+k) none=some (iv (o.w k)):=by simp[zH,F2 h]
end
def clR (l:List Int):List (List AV):=l.map fun c=>[iv c]
abbrev clA (l:List Int):AV:=.list 1 .plain (clR l)
def ofR (l:List Of):List (List AV):=l.map oC
abbrev ofA (l:List Of):AV:=.list 8 .plain (ofR l)
section
variable {l:List Int} {L:List Of} {k:Nat} {c:Int} {o:Of}
@[simp] theorem jh:(clR l).length=l.length:=by simp[clR]
@[simp] theorem ahn:xk (clR l)=true:=by simp[clR,xk]
@[simp] theorem aho:zP (clR l)=clR l:=by simp[clR,zP]
@[simp] theorem jm:(ofR L).length=L.length:=by simp[ofR]
@[simp] theorem ahX:xk (ofR L)=true:=by simp[ofR,xk]
@[simp] theorem ahY:zP (ofR L)=ofR L:=by simp[ofR,zP]
end
@[irreducible] def pbX (P:Pb) (c o:AV):List AV:=bC P.sup++bC P.opn++bC P.cls++[c,o]
theorem xB (P:Pb) (c o:AV):pbX P c o=[iv (P.sup 0),iv (P.sup 1),iv (P.sup 2),iv (P.sup 3),iv (P.sup 4),iv (P.sup 5),iv (P.opn 0),iv (P.opn 1),iv (P.opn 2),iv (P.opn 3),iv (P.opn 4),iv (P.opn 5),
  iv (P.cls 0),iv (P.cls 1),iv (P.cls 2),iv (P.cls 3),iv (P.cls 4),iv (P.cls 5),c,o]:=by unfold pbX; rw[vN,vN,vN]; rfl
abbrev pbC (P:Pb):List AV:=pbX P (clA P.cl) (ofA P.of)
section
variable {P:Pb} {c o:AV} {k l:Nat}
@[simp] theorem abC:(pbX P c o).length=20:=by rw[xB]; rfl
theorem adR (hc:rf c=true) (ho:rf o=true):(pbX P c o).all rf=true:=by rw[xB]; simp[hc,ho]
@[simp] theorem Eq:(pbC P).all rf=true:=adR rfl rfl
@[simp] theorem ae8:(∀ x,x∈pbC P→rf x=true)=True:=eq_true fun x h=>List.all_eq_true.1 Eq x h
@[simp] theorem Er:(pbX P c o).map strip=pbX P (strip c) (strip o):=by rw[xB,xB]; rfl
@[simp] theorem ah0:(pbX P c o).map (dg l)=pbX P (dg l c) (dg l o):=by rw[xB,xB]; simp
@[simp] theorem aha:xg k (pbX P c o)=(zT k c||zT k o):=by rw[xB]; simp[xg]
@[simp] theorem aeR:zH (pbC P) 0 (some 20)=some (.agg (pbC P)):=by rw[uH abC Eq,Er]; rfl
@[simp] theorem aeV:zH (pbX P c o) 0 (some 6)=some (.agg (bC P.sup)):=by rw[xB,vN]; rfl
@[simp] theorem aeQ:zH (pbX P c o) 6 (some 6)=some (.agg (bC P.opn)):=by rw[xB,vN]; rfl
@[simp] theorem aeL:zH (pbX P c o) 12 (some 6)=some (.agg (bC P.cls)):=by rw[xB,vN]; rfl
@[simp] theorem adO:(pbX P c o)[18]?=some c:=by rw[xB]; rfl
@[simp] theorem adP:(pbX P c o)[19]?=some o:=by rw[xB]; rfl
@[simp] theorem afF:zH (pbX P c o) 18 none=some c:=by rw[xB]; rfl
@[simp] theorem afG:zH (pbX P c o) 19 none=some o:=by rw[xB]; rfl
@[simp] theorem ag8 {h:18<(pbX P c o).length}:(pbX P c o)[18]=c:=by have:=adO (P:=P) (c:=c) (o:=o); rw[List.getElem?_eq_getElem h] at this; exact Option.some.inj this
@[simp] theorem ag9 {h:19<(pbX P c o).length}:(pbX P c o)[19]=o:=by have:=adP (P:=P) (c:=c) (o:=o); rw[List.getElem?_eq_getElem h] at this; exact Option.some.inj this
theorem wm (h:k<6):zH (pbX P c o) k none=some (iv (P.sup k)):=by
 rw[xB]
 match k,h with
 | 0,_=>rfl
 | 1,_=>rfl
 | 2,_=>rfl
 | 3,_=>rfl
 | 4,_=>rfl
 | 5,_=>rfl
 | n+6,h=>omega
theorem yk (h:k<6):zH (pbX P c o) (6+k) none=some (iv (P.opn k)):=by
 rw[xB]
 match k,h with
 | 0,_=>rfl
 | 1,_=>rfl
 | 2,_=>rfl
 | 3,_=>rfl
 | 4,_=>rfl
 | 5,_=>rfl
 | n+6,h=>omega
theorem ye (h:k<6):zH (pbX P c o) (12+k) none=some (iv (P.cls k)):=by
 rw[xB]
 match k,h with
 | 0,_=>rfl
 | 1,_=>rfl
 | 2,_=>rfl
 | 3,_=>rfl
 | 4,_=>rfl
 | 5,_=>rfl
 | n+6,h=>omega
theorem BH (h:k<6):(pbX P c o)[k]?=some (iv (P.sup k)):=by have:=wm (P:=P) (c:=c) (o:=o) h; simpa [zH] using this
theorem BG (h:k<6):(pbX P c o)[6+k]?=some (iv (P.opn k)):=by have:=yk (P:=P) (c:=c) (o:=o) h; simpa [zH] using this
theorem Xl (h:k<6):(pbX P c o)[12+k]?=some (iv (P.cls k)):=by have:=ye (P:=P) (c:=c) (o:=o) h; simpa [zH] using this
@[simp] theorem afV {x:AV}:splice (pbX P c o) 18 [x]=pbX P x o:=by rw[xB,xB]; rfl
@[simp] theorem afW {x:AV}:splice (pbX P c o) 19 [x]=pbX P c x:=by rw[xB,xB]; rfl
end
def SA (w:Nat→Int) (k:Nat):St:={env:=[(5,.agg (bC w)),(6,iv k)],sto:=[]}
theorem QP {w:Nat→Int}:zd Tryz.prog qa [.agg (bC w)] (iv (if okB w then 0 else 4)):=by
 refine zC SX (by simp) ?_
 simp[eO]
 refine zl (SA w) (fun i=>∀ j,j<i→0≤w j∧w j≤4) 6 (by simp[SA]) (fun j hj=>by omega) (fun i hi hI=>?_) (fun hI=>?_)
 ·have e:(i:Int)<6:=by omega
  have w1:=zm (k:=i) (by omega)
  by_cases c1:w i<0
  ·rw[if_neg fun h=>by have:=h i hi; omega]
   simp[vK,SA,e,Xk hi,c1,qB]
  ·by_cases c2:4<w i
   ·rw[if_neg fun h=>by have:=h i hi; omega]
    simp[vK,SA,e,Xk hi,c1,c2,qB]
   ·simp[vK,SA,e,Xk hi,c1,c2,w1]
    exact fun j hj=>by
     by_cases e:j=i
     ·subst e; omega
     ·exact hI j (by omega)
 ·rw[if_pos (show okB w from hI)]
  simp[vK,SA,kK,qB]
section
variable {P:Pb} {r n:Nat} {o:Of}
theorem Q5 (h:0≤o.b∧o.b<P.cl.length):∃ b:Nat,o.b=b∧b<P.cl.length∧P.cl[b]?=some (P.clOf o.b):=by
 refine ⟨o.b.toNat,by omega,by omega,?_⟩
 unfold Pb.clOf
 have h2:o.b.toNat<P.cl.length:=by omega
 rw[List.getD_eq_getElem?_getD,List.getElem?_eq_getElem h2]
 rfl
@[simp] theorem age {l:List Int} {b:Nat} {h:b<(clR l).length}:(clR l)[b]=[iv (l[b]'(by simpa using h))]:=by simp[clR]
theorem Ut (hn:P.cl.length≤1000) (hb:0≤o.b∧o.b<P.cl.length) (hr:r<P.rows):zd Tryz.prog yr [.agg (pbC P),iv r,.agg (oC o)] (iv (P.coef r o)):=by
 unfold Pb.rows at hr
 obtain ⟨n,hn'⟩:∃ n,P.cl.length=n:=⟨_,rfl⟩
 have w1:IntKind.i64.wrap ((r:Int)-n)=(r:Int)-n:=by rw[wrap64]<;>omega
 refine zC df (by simp) ?_
 unfold Pb.coef
 rw[hn'] at hr hb hn ⊢
 by_cases h1:r<n
 ·rw[if_pos h1]
  have c1:((r:Int)-n)<0:=by omega
  by_cases h2:o.b=r
  ·rw[if_pos h2]
   simp[yH,hn',w1,c1,h2,yM]
  ·rw[if_neg h2]
   simp[yH,hn',w1,c1,h2,yM]
 ·rw[if_neg h1]
  have c1:¬ ((r:Int)-n)<0:=by omega
  obtain ⟨k,hk⟩:∃ k,r=n+k:=⟨r-n,by omega⟩
  have e1:(r:Int)-n=k:=by omega
  have e2:r-n=k:=by omega
  rw[e1] at w1 c1
  by_cases h2:k<6
  ·rw[if_pos (by omega),e2]
   have c2:(k:Int)<6:=by omega
   simp[yH,hn',e1,w1,c1,c2,F2 h2,yM]
  ·obtain ⟨j,hj0⟩:∃ j,k=6+j:=⟨k-6,by omega⟩
   rw[if_neg (by omega),e2,show k-6=j by omega]
   have c2:¬ (k:Int)<6:=by omega
   have hj:j<6:=by omega
   have hj':(j:Int)<6:=by omega
   have e3:(k:Int)-6=j:=by omega
   have w2:IntKind.i64.wrap (j:Int)=j:=by rw[wrap64]<;>omega
   obtain ⟨b,hb1,hb2,hb3⟩:=Q5 (P:=P) (o:=o) (by rw[hn']; exact hb)
   have hbn:(b:Int)<n:=by omega
   have hbn':b<n:=by omega
   have hc:P.cl[b]?=some (P.clOf (b:Int)):=by rw[← hb1]; exact hb3
   have hE:P.cl[b]=P.clOf (b:Int):=by rw[List.getElem?_eq_getElem hb2] at hc; exact Option.some.inj hc
   rw[hb1]
   by_cases h3:P.cls j=0
   ·rw[if_pos (.inl h3)]
    simp[yH,hn',e1,w1,c1,c2,e3,w2,hj',Xl hj,h3,yM]
   ·by_cases h4:P.cls j=P.clOf (b:Int)
    ·rw[if_pos (.inr h4)]
     rw[h4] at h3
     simp[yH,hn',e1,w1,c1,c2,e3,w2,hj',Xl hj,h3,hb1,hbn,hbn',hE,h4,yM]
    ·rw[if_neg (by intro h; exact h.elim h3 h4)]
     simp[yH,hn',e1,w1,c1,c2,e3,w2,hj',Xl hj,h3,hb1,hbn,hbn',hE,h4,dY hj,yM]
end
section
variable {P:Pb} {r n:Nat} {o:Of} {L:List Of}
theorem Nz (hn:P.cl.length≤1000):zd Tryz.prog x5 [.agg (pbC P)] (iv P.rows):=by
 refine zC di (by simp) ?_
 have w1:IntKind.i64.wrap ((P.cl.length:Int)+12)=(P.cl.length:Int)+12:=by rw[wrap64]<;>omega
 have e:((P.rows:Nat):Int)=(P.cl.length:Int)+12:=by unfold Pb.rows; omega
 rw[e]
 simp[p9,w1,ny]
theorem TQ (hn:P.cl.length≤1000) (hr:r<P.rows):zd Tryz.prog xS [.agg (pbC P),iv r] (iv (P.bnd r)):=by
 unfold Pb.rows at hr
 obtain ⟨n,hn'⟩:∃ n,P.cl.length=n:=⟨_,rfl⟩
 have w1:IntKind.i64.wrap ((r:Int)-n)=(r:Int)-n:=by rw[wrap64]<;>omega
 refine zC ez (by simp) ?_
 unfold Pb.bnd
 rw[hn'] at hr hn ⊢
 by_cases h1:r<n
 ·rw[if_pos h1]
  have c1:((r:Int)-n)<0:=by omega
  simp[wT,hn',w1,c1,wV]
 ·rw[if_neg h1]
  have c1:¬ ((r:Int)-n)<0:=by omega
  obtain ⟨k,hk⟩:∃ k,r=n+k:=⟨r-n,by omega⟩
  have e1:(r:Int)-n=k:=by omega
  have e2:r-n=k:=by omega
  rw[e1] at w1 c1
  by_cases h2:k<6
  ·rw[if_pos (by omega),e2]
   have c2:(k:Int)<6:=by omega
   simp[wT,hn',e1,w1,c1,c2,BH h2,wV]
  ·obtain ⟨j,hj0⟩:∃ j,k=6+j:=⟨k-6,by omega⟩
   rw[if_neg (by omega),e2,show k-6=j by omega]
   have c2:¬ (k:Int)<6:=by omega
   have hj:j<6:=by omega
   have hj':(j:Int)<6:=by omega
   have e3:(k:Int)-6=j:=by omega
   have w2:IntKind.i64.wrap (j:Int)=j:=by rw[wrap64]<;>omega
   simp[wT,hn',e1,w1,c1,c2,e3,w2,hj',BG hj,wV]
end
def NK (P:Pb) (L:List Of) (r:Nat):St:={env:=[(1,ofA L),(2,.ptr 2 0),(5,.fn (.func yr) []),(11,iv P.rows),(12,iv r)],sto:=[(2,.var (pbC P))]}
def Ti (P:Pb) (L:List Of) (r k:Nat):St :=
 {env:=[(1,ofA L),(2,.ptr 2 0),(5,.fn (.func yr) []),(6,iv r),(7,iv (uj (P.coef r) L k)),(11,iv P.rows),(12,iv r),(15,ofA L),(16,iv L.length),(17,iv k)],sto:=[(2,.var (pbC P))]}
@[simp] theorem agA {l:List Of} {b:Nat} {h:b<(ofR l).length}:(ofR l)[b]=oC (l[b]'(by simpa using h)):=by simp[ofR]
section
variable {P:Pb} {r n:Nat} {o:Of} {L:List Of}
theorem Fu (hn:P.cl.length≤1000) (hL:L.length≤1000) (hb:∀ o∈L,0≤o.b∧o.b<P.cl.length) (hw:∀ o∈L,okB o.w):zd Tryz.prog vj [.agg (pbC P),ofA L] (bv (decide (P.fits L))):=by
 have hok:yZ Tryz.prog yr=true:=by kernel_rfl
 have hR:P.rows≤1012:=by unfold Pb.rows; omega
 refine zC dh (by simp) ?_
 simp[p8]
 refine za (Nz hn) (by simp) (by simp) ?_
 simp
 refine zl (NK P L) (fun r=>∀ q,q<r→(L.map (P.coef q)).sum≤P.bnd q) P.rows (by simp[NK]) (fun q hq=>by omega) (fun r hr hI=>?_) (fun hI=>?_)
 ·have e:(r:Int)<P.rows:=by omega
  have w1:=zm (k:=r) (by omega)
  simp[vY,NK,e]
  refine zl (Ti P L r) (fun _=>True) L.length (by simp[Ti,aS]) trivial (fun k hk _=>?_) (fun _=>?_)
  ·have e':(k:Int)<L.length:=by omega
   have hg:L[k]?=some L[k]:=by simp[hk]
   have hm:L[k]∈L:=List.getElem_mem hk
   have w2:=zm (k:=k) (by omega)
   obtain ⟨p1,p2⟩:=nW (f:=P.coef r) (fun o ho=>uq (P:=P) (hw o ho) hr) k (by omega)
   obtain ⟨p3,p4⟩:=uq (P:=P) (hw _ hm) hr
   have w3:IntKind.i64.wrap (uj (P.coef r) L k+P.coef r L[k])=uj (P.coef r) L k+P.coef r L[k]:=by rw[wrap64]<;>omega
   have hs:=ft (f:=P.coef r) hg
   simp[vX,Ti,e',hk,hok]
   refine za (Ut hn (hb _ hm) hr) (by simp) (by simp) ?_
   simp[w2,w3,hs,Ti]
  ·have hall:uj (P.coef r) L L.length=(L.map (P.coef r)).sum:=cq
   simp[vX,Ti,ru]
   refine za (TQ hn hr) (by simp) (by simp) ?_
   by_cases hc:P.bnd r<(L.map (P.coef r)).sum
   ·have hf:¬ P.fits L:=fun h=>by have:=h r hr; omega
    simp[hall,hc,hf,tA]
   ·simp[hall,hc,rx,w1,NK]
    exact fun q hq=>by
     by_cases eq:q=r
     ·subst eq; omega
     ·exact hI q (by omega)
 ·have hf:P.fits L:=hI
  simp[vY,NK,hf,ry,tA]
end
section
variable {P:Pb} {r n:Nat} {o:Of} {L:List Of}
theorem Ar:zd Tryz.prog pG [iv n,.agg (oC o)] (iv (sS n o)):=by
 refine zC XR (by simp) ?_
 unfold sS
 by_cases c1:o.b<0
 ·rw[if_pos (.inl c1)]
  simp[wM,c1,wQ]
 ·by_cases c2:(n:Int)≤o.b
  ·rw[if_pos (.inr c2)]
   simp[wM,c1,c2,wQ]
  ·rw[if_neg (by omega)]
   by_cases c3:o.v<1
   ·rw[if_pos (.inl c3)]
    simp[wM,c1,c2,c3,wQ]
   ·by_cases c4:1000000<o.v
    ·rw[if_pos (.inr c4)]
     simp[wM,c1,c2,c3,c4,wQ]
    ·rw[if_neg (by omega)]
     simp[wM,c1,c2,c3,c4]
     refine za (QP (w:=o.w)) (by simp) (by simp) ?_
     simp[wQ]
theorem PF {f:FuncId} {x y y' r:AV} (h:zd Tryz.prog f [x,y'] r) (hy:AV.imp y y'):zd Tryz.prog f [x,y] r:=fun I vs w h1 h2 h3 =>
 h I vs w h1 h2 fun i a hi=>by
  match i,hi with
  | 0,hi=>exact h3 0 a hi
  | 1,hi=>simp at hi; subst hi; exact hy _ _ _ (h3 1 y rfl)
  | i+2,hi=>simp at hi
theorem Lf:[iv 0,iv 0,iv 0,iv 0,iv 0,iv 0]=bC (fun _=>0):=by rw[vN]
theorem abs (hn:P.cl.length≤1000):zd Tryz.prog uP [.agg (pbC P),.agg (oC o)] (iv (P.offE o)):=by
 have hk:kds Tryz.prog Op.maxDepth wo=some (List.replicate 6 (.i .i64)):=by kernel_rfl
 have hg:Tryz.prog.eqGuardType Tryz.prog.depth wo=false:=by kernel_rfl
 have hA:agT Tryz.prog wo=true:=by kernel_rfl
 have hz:decide (bI o.w=bI (fun _=>0))=decide (lm o.w):=by
  rw[decide_eq_decide,Qr]
  exact Iff.rfl
 refine zC eB (by simp) ?_
 simp[qU]
 refine za (Ar (n:=P.cl.length) (o:=o)) (by simp) (by simp) ?_
 unfold Pb.offE
 by_cases c1:sS P.cl.length o=0
 ·obtain ⟨hb,_,hw⟩:=xC c1
  rw[if_neg (fun h=>h c1)]
  simp[c1,Lf]
  rw[kz hk hg hA nv nv]
  by_cases c2:lm o.w
  ·rw[if_pos c2]
   simp[hz,c2,xV]
  ·rw[if_neg c2]
   simp[hz,c2]
   have hf:=Fu (P:=P) (L:=[o]) hn (by simp) (fun x hx=>by rw[List.mem_singleton.1 hx]; exact hb) (fun x hx=>by rw[List.mem_singleton.1 hx]; exact hw)
   refine za (PF hf (vF (rows:=[oC o]))) (by simp) (by simp) ?_
   by_cases c3:P.fits [o]
   ·simp[c3,xV]
   ·simp[c3,xV]
 ·rw[if_pos c1]
  simp[c1,xV]
end
section
variable {P:Pb} {r n:Nat} {o:Of} {L:List Of}
def pE (P:Pb) (k:Nat):St:={env:=[(1,.ptr 1 0),(16,iv k)],sto:=[(1,.var (pbC P))]}
def Z8 (P:Pb) (k:Nat):St:={env:=[(76,clA P.cl),(77,iv P.cl.length),(78,iv k)],sto:=[]}
theorem frC (P:Pb) (h:∀ i,(hi:i<P.cl.length)→nV P.cl[i]):∀ c∈P.cl,nV c:=fun c hc=>by
 obtain ⟨i,hi,rfl⟩:=List.getElem_of_mem hc
 exact h i hi
theorem aaZ:zd Tryz.prog uO [.agg (pbC P)] (iv P.frameE):=by
 refine zC eA (by simp) ?_
 simp[qT]
 refine za (QP (w:=P.sup)) (by simp) (by simp) ?_
 unfold Pb.frameE
 by_cases c1:okB P.sup
 ·rw[if_neg (fun h=>h c1)]
  simp[c1]
  refine zl (pE P) (fun r=>∀ q,q<r→P.okC q) 6 (by simp[pE]) (fun q hq=>by omega) (fun k hk hI=>?_) (fun hI=>?_)
  ·have e:(k:Int)<6:=by omega
   have w1:=zm (k:=k) (by omega)
   by_cases d:P.okC k
   ·have d':=d
    unfold Pb.okC at d'
    obtain ⟨d1,d2,d3,d4,d5⟩:=d'
    have b1:¬ P.cls k<0:=by omega
    have b2:¬ 4<P.cls k:=by omega
    have b3:¬ P.opn k<0:=by omega
    have b4:¬ P.sup k<P.opn k:=by omega
    have hx:∀ q,q<k+1→P.okC q:=fun q hq=>by
     by_cases eq:q=k
     ·subst eq; exact d
     ·exact hI q (by omega)
    by_cases b5:P.cls k=0
    ·have b6:=d5 b5
     rw[b5] at b1 b2
     rw[b6] at b3 b4
     simp[zV,pE,e,yk hk,ye hk,wm hk,b3,b5,b6,w1]
     exact hx
    ·simp[zV,pE,e,yk hk,ye hk,wm hk,b1,b2,b3,b4,b5,w1]
     exact hx
   ·rw[if_neg (show ¬ P.okCs from fun h=>d (h k hk))]
    by_cases b1:P.cls k<0
    ·simp[zV,pE,e,yk hk,ye hk,b1,zY]
    ·by_cases b2:4<P.cls k
     ·simp[zV,pE,e,yk hk,ye hk,b1,b2,zY]
     ·by_cases b3:P.opn k<0
      ·simp[zV,pE,e,yk hk,ye hk,b1,b2,b3,zY]
      ·by_cases b4:P.sup k<P.opn k
       ·simp[zV,pE,e,yk hk,ye hk,wm hk,b1,b2,b3,b4,zY]
       ·have b5:P.cls k=0∧¬ P.opn k=P.sup k:=by
         unfold Pb.okC at d
         by_cases b5:P.cls k=0
         ·exact ⟨b5,fun h=>d ⟨by omega,by omega,by omega,by omega,fun _=>h⟩⟩
         ·exact absurd (⟨by omega,by omega,by omega,by omega,fun h=>absurd h b5⟩) d
        simp[zV,pE,e,yk hk,ye hk,wm hk,b3,b4,b5,zY]
  ·have hs:P.okCs:=hI
   rw[if_pos hs]
   by_cases f1:8<P.cl.length
   ·have f1':(8:Int)<P.cl.length:=by omega
    rw[if_pos (.inl f1)]
    simp[zV,pE,wh,f1',zY]
   ·have f1':¬ (8:Int)<P.cl.length:=by omega
    by_cases f2:160<P.of.length
    ·have f2':(160:Int)<P.of.length:=by omega
     rw[if_pos (.inr f2)]
     simp[zV,pE,wh,f1',f2',zY]
    ·have f2':¬ (160:Int)<P.of.length:=by omega
     rw[if_neg (by omega)]
     simp[zV,pE,wh,f1',f2']
     refine zl (Z8 P) (fun r=>∀ q,q<r→(hq:q<P.cl.length)→nV P.cl[q]) P.cl.length (by simp[Z8]) (fun q hq=>by omega) (fun k hk hI=>?_) (fun hI=>?_)
     ·have e:(k:Int)<P.cl.length:=by omega
      have w1:=zm (k:=k) (by omega)
      by_cases d:nV P.cl[k]
      ·have d':=d
       unfold nV at d'
       have b1:¬ P.cl[k]<0:=by omega
       have b2:¬ 4<P.cl[k]:=by omega
       simp[xh,Z8,e,hk,b1,b2,w1]
       exact fun q hq hl=>by
        by_cases eq:q=k
        ·subst eq; exact d
        ·exact hI q (by omega) hl
      ·rw[if_neg (fun h=>d (h _ (List.getElem_mem hk)))]
       unfold nV at d
       by_cases b1:P.cl[k]<0
       ·simp[xh,Z8,e,hk,b1,zY]
       ·have b2:4<P.cl[k]:=by omega
        simp[xh,Z8,e,hk,b1,b2,zY]
     ·have hc:=frC P fun i hi=>hI i hi hi
      rw[if_pos hc]
      simp[xh,Z8,s5,zY]
 ·rw[if_pos c1]
  simp[c1,zY]
end
theorem agv {k:List Int} (h:k.length=7):∃ a b c d e f g,k=[a,b,c,d,e,f,g]:=by
 match k,h with
 | [a,b,c,d,e,f,g],_=>exact ⟨a,b,c,d,e,f,g,rfl⟩
theorem adA (b:Bool) (a0 a1 a2 a3 a4 a5 a6:Int):zr Tryz.prog (Instr.checkKey b 10000 pm (vG [a0,a1,a2,a3,a4,a5,a6]))=some ():=by kernel_rfl
theorem LY {t:TypeId}:kj Tryz.prog t pm 7 where
 kd:=Sb
 ag:=by kernel_rfl
 chk:=fun b k h=>by
  obtain ⟨a0,a1,a2,a3,a4,a5,a6,rfl⟩:=agv h
  exact adA b a0 a1 a2 a3 a4 a5 a6
def kB (o:Of):List Int:=o.b::bI o.w
theorem Xc {o:Of}:(kB o).length=7:=rfl
theorem LX {o u:Of}:kB o=kB u↔qC o u:=by
 unfold kB qC
 rw[List.cons.injEq,Qr]
def tc (L:List Of):rh:=L.map fun o=>(kB o,.bool true)
theorem U8 {L:List Of}:fi 7 (tc L):=fun x hx=>by
 obtain ⟨o,_,rfl⟩:=List.mem_map.1 hx
 exact Xc
theorem cC {o:Of}:∀ {L:List Of},wx (kB o) (tc L)=if ∃ u∈L,qC u o then some (.bool true) else none
 | []=>by simp[tc,wx]
 | u::L=>by
  have ih:=cC (o:=o) (L:=L)
  unfold tc at ih ⊢
  rw[List.map_cons,wx,ih]
  by_cases h:kB o=kB u
  ·rw[if_pos h,if_pos ⟨u,by simp,LX.1 h.symm⟩]
  ·rw[if_neg h]
   by_cases h2:∃ u∈L,qC u o
   ·obtain ⟨x,h3,h4⟩:=h2
    rw[if_pos ⟨x,h3,h4⟩,if_pos ⟨x,by simp[h3],h4⟩]
   ·rw[if_neg h2,if_neg]
    rintro ⟨x,h3,h4⟩
    rcases List.mem_cons.1 h3 with rfl | h3
    ·exact h (LX.2 h4).symm
    ·exact h2 ⟨x,h3,h4⟩
@[irreducible] def kC (o:Of):List AV:=(kB o).map iv
theorem ZP (o:Of):kC o=[iv o.b,iv (o.w 0),iv (o.w 1),iv (o.w 2),iv (o.w 3),iv (o.w 4),iv (o.w 5)]:=by unfold kC; rfl
section
variable {o:Of} {k l:Nat}
@[simp] theorem adz:(kC o).length=7:=by rw[ZP]; rfl
@[simp] theorem A9:(kC o).all rf=true:=by rw[ZP]; rfl
@[simp] theorem afQ:(∀ x,x∈kC o→rf x=true)=True:=eq_true fun x h=>List.all_eq_true.1 A9 x h
@[simp] theorem C2:(kC o).map strip=kC o:=by rw[ZP]; rfl
@[simp] theorem aiE:(kC o).map (dg l)=kC o:=by rw[ZP]; simp
@[simp] theorem ahQ:xg k (kC o)=false:=by rw[ZP]; simp
@[simp] theorem afM:zH (kC o) 0 (some 7)=some (.agg (kC o)):=by rw[uH adz A9,C2]
@[simp] theorem agu:splice [AV.val (Value.int IntKind.i64 o.b),AV.val (Value.int IntKind.i64 0),AV.val (Value.int IntKind.i64 0),AV.val (Value.int IntKind.i64 0),AV.val (Value.int IntKind.i64 0),AV.val (Value.int IntKind.i64 0),AV.val (Value.int IntKind.i64 0)] 1 (bC o.w)=kC o:=by
 rw[ZP,vN]; rfl
end
noncomputable def boolT:TypeId:=match Tryz.prog.underlying y7 with
 | some (.map _ e)=>e
 | _=>0
theorem ckM:Tryz.prog.underlying y7=some (.map pm boolT):=by kernel_rfl
theorem ckZ:zr Tryz.prog (zeroValue boolT)=some (.bool false):=by kernel_rfl
theorem adD {σ:Nat→Option ze} {K:AV→Option ze→Prop} {L:List Of} {o:Of} {c:Nat} (hs:σ 17=some (.map (rS (tc L)) c)) :
  ur Tryz.prog y7 false σ [.mp 17,.agg (kC o)] K=K (bv (decide (∃ u∈L,qC u o))) none:=by
 have e:kC o=(kB o).map iv:=by unfold kC; rfl
 rw[e,Pg LY ckM ckZ hs Xc U8,cC]
 by_cases h:∃ u∈L,qC u o
 ·rw[if_pos h,decide_eq_true h]; rfl
 ·rw[if_neg h,decide_eq_false h]; rfl
theorem afn {s:St} {KS:St→Prop} {L:List Of} {o:Of} (hs:lk s.sto 17=some (.map (rS (tc L)) (tc L).length)) (hn:¬ ∃ u∈L,qC u o) :
  tq Tryz.prog y7 s none KS [.mp 17,.agg (kC o),.val (.bool true)]=KS {s with sto:=pt s.sto 17 (.map (rS (tc (L++[o]))) (tc (L++[o])).length)}:=by
 have e:kC o=(kB o).map iv:=by unfold kC; rfl
 have e2:mX (kB o) (.bool true) (tc L)=tc (L++[o]):=by
  rw[a9 (by rw[cC,if_neg hn])]
  simp[tc]
 rw[e,Pi LY ckM hs Xc U8 rfl,e2]
 simp
section
variable {P:Pb} {r n:Nat} {o:Of} {L:List Of}
def Th (P:Pb) (k:Nat):St:={env:=[(3,.ptr 3 0),(5,.mp 17),(19,ofA P.of),(20,iv P.of.length),(21,iv k)],sto:=[(3,.var (pbC P)),(17,.map (rS (tc (P.of.take k))) (tc (P.of.take k)).length)]}
theorem TW (hn:P.cl.length≤1000) (hk:P.of.length≤1000000):zd Tryz.prog uy [.agg (pbC P)] (iv P.chk):=by
 refine zC TA (by simp) ?_
 simp[gQ]
 refine za (aaZ (P:=P)) (by simp) (by simp) ?_
 unfold Pb.chk
 by_cases c1:P.frameE=0
 ·rw[if_pos c1]
  simp[c1]
  refine zl (Th P) (fun k=>P.chkL k=0) P.of.length (by simp[Th,tc,rS,ub]) rfl (fun k hk' hI=>?_) (fun hI=>?_)
  ·have e:(k:Int)<P.of.length:=by omega
   have hg:P.of[k]?=some P.of[k]:=by simp[hk']
   have w1:=zm (k:=k) (by omega)
   obtain ⟨o,ho⟩:∃ o,P.of[k]=o:=⟨_,rfl⟩
   rw[ho] at hg
   simp[rF,Th,e,hk',ho]
   refine za (abs (P:=P) (o:=o) hn) (by simp) (by simp) ?_
   by_cases d:P.offE o=0
   ·simp[d]
    rw[adD (L:=P.of.take k) (c:=(tc (P.of.take k)).length) (by simp)]
    by_cases d2:∃ u∈P.of.take k,qC u o
    ·have hi:P.offI k o=7:=by unfold Pb.offI; rw[if_neg (fun h=>h d),if_pos d2]
     rw[kS hI hg (by rw[hi]; decide) hk',hi]
     rw[decide_eq_true d2]
     simp[uJ]
    ·have hi:P.offI k o=0:=by unfold Pb.offI; rw[if_neg (fun h=>h d),if_neg d2]
     have hx:=Re hI hg hi
     rw[decide_eq_false d2]
     simp
     rw[afn (L:=P.of.take k) (by simp) d2,← mb hg]
     simp[w1,hx,Th]
   ·have hi:P.offI k o=P.offE o:=by unfold Pb.offI; rw[if_pos d]
    rw[kS hI hg (by rw[hi]; exact d) hk',hi]
    simp[d,uJ]
  ·rw[hI]
   simp[rF,Th,lw,uJ]
 ·rw[if_neg c1]
  simp[c1,uJ]
end
abbrev z8:AV:=.list 0 .full []
theorem aD {sz:Nat} {m:Am.Mode} {rows:List (List AV)} (h:stm m=m):AV.imp (.list sz m rows) (.list sz .plain rows):=by
 cases m with
 | plain=>exact AV.imp.refl
 | full=>exact vF
 | own l=>cases h
def mJ (xs ys:List AV):Prop:=xs.length=ys.length∧∀ (i:Nat) x y,xs[i]?=some x→ys[i]?=some y→AV.imp x y
theorem mK:mJ [] []:=⟨rfl,fun i x y h=>by simp at h⟩
theorem yQ {x y:AV} {xs ys:List AV} (h:AV.imp x y) (hs:mJ xs ys):mJ (x::xs) (y::ys) :=
 ⟨by simp[hs.1],fun i a b ha hb=>by
  cases i with
  | zero=>simp only[List.getElem?_cons_zero,Option.some.injEq] at ha hb; subst ha hb; exact h
  | succ i=>simp only[List.getElem?_cons_succ] at ha hb; exact hs.2 i a b ha hb⟩
theorem Rn {xs:List AV}:mJ xs xs:=⟨rfl,fun i x y h h'=>by rw[h] at h'; cases h'; exact AV.imp.refl⟩
theorem tt {α:Type} {l:List α} {i:Nat} (h:i<l.length):l[i]?=some l[i]:=by simp[h]
theorem LQ {xs ys:List AV} (h:mJ xs ys):AV.imp (.agg xs) (.agg ys):=fun I w v hv=>by
 cases hv with
 | agg _ vs hs h1 hc =>
  refine .agg _ vs (by rw[hs,h.1]) h1 fun i c hi=>?_
  have:i<xs.length:=by rw[h.1]; exact (List.getElem?_eq_some_iff.1 hi).1
  exact h.2 i _ c (tt this) hi _ _ _ (hc i _ (tt this))
theorem aa7 {xs ys:List AV} (h:mJ xs ys):AV.imp (.tuple xs) (.tuple ys):=fun I w v hv=>by
 cases hv with
 | tuple _ vs hs hc =>
  refine .tuple _ vs (by rw[hs,h.1]) fun i c hi=>?_
  have:i<xs.length:=by rw[h.1]; exact (List.getElem?_eq_some_iff.1 hi).1
  exact h.2 i _ c (tt this) hi _ _ _ (hc i _ (tt this))
def CZ (xs ys:List (List AV)):Prop:=xs.length=ys.length∧∀ (i:Nat) x y,xs[i]?=some x→ys[i]?=some y→mJ x y
theorem PG {sz:Nat} {m:Am.Mode} {xs ys:List (List AV)} (hm:stm m=m) (h:CZ xs ys):AV.imp (.list sz m xs) (.list sz .plain ys):=fun I w v hv=>by
 have hv:=aD hm I w v hv
 cases hv with
 | listNil _ _ a cap _ _ =>
  have:ys=[]:=List.eq_nil_of_length_eq_zero (by rw[← h.1]; rfl)
  subst this
  exact .listNil _ _ _ _ (fun h=>by cases h) (fun _ h=>by cases h)
 | list _ _ _ b o cap g hcap hm' ho hrow hcell hc =>
  have get:∀ (i:Nat) r,ys[i]?=some r→∃ r0,xs[i]?=some r0∧mJ r0 r:=fun i r hi=>by
   have:i<xs.length:=by rw[h.1]; exact (List.getElem?_eq_some_iff.1 hi).1
   exact ⟨xs[i],tt this,h.2 i _ r (tt this) hi⟩
  rw[h.1]
  refine .list _ _ _ b o cap g (by rw[← h.1]; exact hcap) (fun h=>by cases h) (fun _ h=>by cases h) (fun i r hi=>?_) (fun i r j c hi hj=>?_) fun i r j c hi hj=>?_
  ·obtain ⟨r0,h1,h2⟩:=get i r hi
   rw[← h2.1]; exact hrow i r0 h1
  ·obtain ⟨r0,h1,h2⟩:=get i r hi
   have hj0:j<r0.length:=by rw[h2.1]; exact (List.getElem?_eq_some_iff.1 hj).1
   exact hcell i r0 j _ h1 (tt hj0)
  ·obtain ⟨r0,h1,h2⟩:=get i r hi
   have hj0:j<r0.length:=by rw[h2.1]; exact (List.getElem?_eq_some_iff.1 hj).1
   exact h2.2 j _ c (tt hj0) hj _ _ _ (hc i r0 j _ h1 (tt hj0))
noncomputable def apc (tok sz:Nat) (rows:List (List AV)):AV:=if rows.length=0 then z8 else .list sz (.own tok) rows
noncomputable def plc (sz:Nat) (rows:List (List AV)):AV:=if rows.length=0 then z8 else .list sz .plain rows
section
variable {tok sz l k:Nat} {rows:List (List AV)}
theorem Lc (h:rows.length=0):apc tok sz rows=z8:=if_pos h
theorem DU (h:¬ rows.length=0):apc tok sz rows=.list sz (.own tok) rows:=if_neg h
@[simp] theorem ahi:rf (apc tok sz rows)=true:=by unfold apc; split<;>rfl
@[simp] theorem afy:strip (apc tok sz rows)=plc sz rows:=by unfold apc plc; split<;>rfl
@[simp] theorem afA:cellsOf (apc tok sz rows)=some [apc tok sz rows]:=by unfold apc; split<;>rfl
@[simp] theorem agG {σ:Nat→Option ze}:wB σ (apc tok sz rows)=some (plc sz rows):=by unfold apc plc; split<;>rfl
@[simp] theorem agb:zT k (apc tok sz rows)=false:=by unfold apc; split<;>rfl
theorem bQ (h:¬ tok=l):dg l (apc tok sz rows)=apc tok sz rows:=by
 unfold apc
 split
 ·simp
 ·simp only[dg]; rw[if_neg h]
@[simp] theorem afB:cellsOf (plc sz rows)=some [plc sz rows]:=by unfold plc; split<;>rfl
@[simp] theorem ah2:rf (plc sz rows)=true:=by unfold plc; split<;>rfl
@[simp] theorem afX:strip (plc sz rows)=plc sz rows:=by unfold plc; split<;>rfl
@[simp] theorem ah1:dg l (plc sz rows)=plc sz rows:=by unfold plc; split<;>simp
@[simp] theorem agD:zT k (plc sz rows)=false:=by unfold plc; split<;>rfl
theorem qy {rows':List (List AV)} (h:CZ rows rows'):AV.imp (plc sz rows) (.list sz .plain rows'):=by
 unfold plc
 split
 ·rename_i h0
  have:rows'=[]:=List.eq_nil_of_length_eq_zero (by rw[← h.1]; exact h0)
  subst this
  exact AV.imp_nil rfl
 ·exact PG rfl h
end
@[simp] theorem afE {tok sz:Nat} {rows:List (List AV)} {K:AV→Option ze→Prop}:qo false K (apc tok sz rows)=K (.val (.int .i64 rows.length)) none:=by
 unfold apc; split
 ·rename_i h; rw[h]; simp[qo]
 ·simp[qo]
theorem ee {tok sz i:Nat} {rows:List (List AV)} {K:AV→Option ze→Prop} (h:i<rows.length):y9 sz [apc tok sz rows,iv i] K=K (.ro rows[i]) none:=by
 have h0:¬ rows.length=0:=by omega
 rw[DU h0]
 have h1:(i:Int)<rows.length:=by omega
 simp[y9,h1,h]
theorem xY {sz i:Nat} {m:Am.Mode} {rows:List (List AV)} {K:AV→Option ze→Prop} (h:i<rows.length):y9 sz [.list sz m rows,iv i] K=K (.ro rows[i]) none:=by
 have h1:(i:Int)<rows.length:=by omega
 simp[y9,h1,h]
theorem tJ {rows:List (List AV)}:CZ rows rows:=⟨rfl,fun i x y h h'=>by rw[h] at h'; cases h'; exact Rn⟩
theorem Dm {f:FuncId} {args:List AV} {r r':AV} (h:zd Tryz.prog f args r) (hr:AV.imp r r'):zd Tryz.prog f args r':=fun I vs w h1 h2 h3 =>
 Calls.mono (h I vs w h1 h2 h3) fun _ _ ⟨v,e,hb,hv⟩=>⟨v,e,hb,hr _ _ _ hv⟩
theorem d9 {f:FuncId} {xs ys:List AV} {r:AV} (h:zd Tryz.prog f ys r) (hi:mJ xs ys):zd Tryz.prog f xs r:=fun I vs w h1 h2 h3 =>
 h I vs w h1 (by rw[h2,hi.1]) fun i y hy=>by
  have hx:i<xs.length:=by rw[hi.1]; exact (List.getElem?_eq_some_iff.1 hy).1
  exact hi.2 i _ y (tt hx) hy _ _ _ (h3 i _ (tt hx))
theorem A7 {a a' b b':AV} (h:AV.imp a a') (h2:AV.imp b b'):mJ [a,b] [a',b']:=yQ h (yQ h2 mK)
theorem A8 {a a' b b' c c':AV} (h:AV.imp a a') (h2:AV.imp b b') (h3:AV.imp c c'):mJ [a,b,c] [a',b',c']:=yQ h (yQ h2 (yQ h3 mK))
end Go.Proofs.YtfmcplfbnkoglaaGreat

namespace Go.Pb
def Pb.at (P:Pb) (i:Int):Of:=P.of.getD i.toNat ⟨0,fun _=>0,0⟩
def Pb.pick (P:Pb) (ch:List Int):List Of:=ch.map P.at
def prv (ch:List Int):Nat→Int
 | 0=>-1
 | k+1=>ch.getD k 0
def okI (n:Nat) (ch:List Int) (k:Nat):Prop:=prv ch k<ch.getD k 0∧ch.getD k 0<n
instance (n:Nat) (ch:List Int) (k:Nat):Decidable (okI n ch k):=inferInstanceAs (Decidable (prv ch k<ch.getD k 0∧ch.getD k 0<n))
def okP (n:Nat) (ch:List Int):Prop:=∀ k,k<ch.length→okI n ch k
instance (n:Nat) (ch:List Int):Decidable (okP n ch):=Nat.decidableBallLT ch.length fun k _=>okI n ch k
section
variable {P:Pb} {n k:Nat} {ch:List Int}
theorem Ex (h:∀ q,q<k→okI n ch q):(k:Int)-1≤prv ch k:=by
 induction k with
 | zero=>simp[prv]
 | succ k ih =>
  have h1:=ih fun q hq=>h q (by omega)
  have h2:=(h k (by omega)).1
  simp only[prv]
  omega
theorem Kc (h:okP n ch):ch.length≤n:=by
 cases e:ch.length with
 | zero=>omega
 | succ k =>
  have h1:=Ex (k:=k) (n:=n) (ch:=ch) fun q hq=>h q (by omega)
  have h2:=h k (by omega)
  unfold okI at h2
  omega
theorem Kb (h:∀ q,q<k→okI n ch q) (hk:okI n ch k):∃ b:Nat,ch.getD k 0=b∧b<n:=by
 have h1:=Ex h
 have h2:=hk
 unfold okI at h2
 exact ⟨(ch.getD k 0).toNat,by omega,by omega⟩
theorem BJ (h:okP P.of.length ch):∀ o∈P.pick ch,o∈P.of:=fun o ho=>by
 obtain ⟨i,hi,rfl⟩:=List.mem_map.1 ho
 obtain ⟨k,hk,rfl⟩:=List.getElem_of_mem hi
 obtain ⟨b,hb,hbn⟩:=Kb (fun q hq=>h q (by omega)) (h k hk)
 have e:ch.getD k 0=ch[k]:=by rw[List.getD_eq_getElem?_getD,List.getElem?_eq_getElem hk]; rfl
 unfold Pb.at
 rw[← e,hb,Int.toNat_natCast,List.getD_eq_getElem?_getD,List.getElem?_eq_getElem hbn]
 exact List.getElem_mem hbn
theorem gd:(P.pick ch).length=ch.length:=by simp[Pb.pick]
end
def ints (l:List Nat):List Int:=l.map fun i:Nat=>(i:Int)
theorem Bo {n:Nat} {l:List Nat} (h1:l.Pairwise (·<·)) (h2:∀ j∈l,j<n):okP n (ints l):=fun k hk=>by
 have hk':k<l.length:=by simpa [ints] using hk
 have e:∀ k,(hk:k<l.length)→(ints l).getD k 0=(l[k]:Int):=fun k hk=>by simp[ints,hk]
 refine ⟨?_,by rw[e k hk']; have:=h2 _ (List.getElem_mem hk'); omega⟩
 cases k with
 | zero=>rw[e 0 hk']; simp only[prv]; omega
 | succ k =>
  simp only[prv]
  rw[e _ hk',e k (by omega)]
  have:=List.pairwise_iff_getElem.1 h1 k (k+1) (by omega) hk' (by omega)
  omega
end Go.Pb

namespace Go.Proofs.YtfmcplfbnkoglaaGreat
open Go Go.Am Go.Pb
@[simp] theorem agN:clR []=[]:=rfl
@[simp] theorem ag5:ofR []=[]:=rfl
@[simp] theorem aga {tok sz:Nat}:apc tok sz []=z8:=Lc rfl
section
variable {P:Pb} {r n:Nat} {o:Of} {L:List Of} {ch:List Int}
theorem getD_lt {l:List Int} {k:Nat} (h:k<l.length):l.getD k 0=l[k]:=by rw[List.getD_eq_getElem?_getD,List.getElem?_eq_getElem h]; rfl
theorem aeu {b:Nat} (h:b<P.of.length):P.at (b:Int)=P.of[b]:=by unfold Pb.at; rw[Int.toNat_natCast,List.getD_eq_getElem?_getD,List.getElem?_eq_getElem h]; rfl
theorem Et {k:Nat} (h:k<ch.length):P.pick (ch.take (k+1))=P.pick (ch.take k)++[P.at ch[k]]:=by
 unfold Pb.pick
 rw[mb (o:=ch[k]) (by simp[h]),List.map_append]
 rfl
theorem L8 {L M:List Of}:ofR (L++M)=ofR L++ofR M:=by simp[ofR]
theorem sK {tok sz by_:Nat} {s:St} {KS:St→Prop} {rows:List (List AV)} {m:Am.Mode} {x:List AV} (h0:0<sz) (h1:s.base+tok=tok) (h2:(rows.length+1)*by_≤140737488355328) (h3:rows.length+1≤9223372036854775807) (h4:lk s.sto tok=none)
  (hK:KS ((s.dg tok).put (some tok) (apc tok sz (rows++[x])))):wc sz by_ s (some tok) KS [apc tok sz rows,.list sz m [x]]:=by
 have e:∀ r:List (List AV),apc tok sz r=wk sz tok r:=fun r=>by
  unfold apc wk
  by_cases h:r=[]
  ·subst h; simp
  ·simp[h]
 rw[e,ai h0 h1]
 exact ⟨h2,h3,h4,by rw[← e]; exact hK⟩
end
open Go.Dig
def NT (m:Am.Mode) (a:List Nat) (k:Nat):St:={env:=[(0,nl m a),(3,iv ((a.length-k:Nat):Int))],sto:=[]}
theorem yX {m:Am.Mode} {a:List Nat} (ha:ok a) (hn:a.length<1099511627776):zd Tryz.prog xv [nl m a] (nD (val a)):=by
 obtain ⟨h1,h2,h3,h4⟩:=aF ha
 refine wR AN (by simp) ?_
 simp[QX]
 generalize hT:(zf (val a)).length=T at h1 h2 h3 h4
 refine aas (NT m a) (a.length-T) ?_ (fun k hk=>?_) ?_
 ·simp[NT]
 ·have hp:0<a.length-k:=by omega
  have hp2:k<a.length:=by omega
  have w:IntKind.i64.wrap (((a.length-k:Nat):Int)-1)=((a.length-(k+1):Nat):Int):=by rw[wrap64]<;>omega
  have hlt:a.length-(k+1)<a.length:=by omega
  have hz:=h2 (a.length-(k+1)) hlt (by omega)
  simp[m8,NT,hp,w,hlt,hz]
 ·have e:a.length-(a.length-T)=T:=by omega
  rcases T with _ | T
  ·have h5:zf (val a)=[]:=by rw[← h4]; rfl
   simp[m8,NT,fW,Xq]
   rw[show nD (val a)=.list 1 .plain [] by simp only[nD,nl,zE,h5,List.map_nil]]
   exact vF
  ·have w:IntKind.i64.wrap (((T+1:Nat):Int)-1)=(T:Int):=by rw[wrap64]<;>omega
   have hz:=h3 (by omega) (by omega)
   simp only[Nat.add_sub_cancel] at hz
   have hlt:T<a.length:=by omega
   have ht:List.take (T+1) (zE a)=zE (zf (val a)):=by rw[← h4]; simp
   have en:((T:Int)+1).toNat=T+1:=by omega
   have e0:(0:Int)≤(T:Int)+1:=by omega
   have e1:(T:Int)+1≤a.length:=by omega
   simp at w
   simp[m8,NT,e,w,hlt,hz,e0,e1,en,fW,Xq]
   first | (rw[ht]; exact vF) | (simp only[← List.map_take]; rw[h4]; exact vF)
theorem Mf (n:Int):IntKind.u64.wrap n=n%18446744073709551616:=by simp[IntKind.wrap,IntKind.bits,IntKind.signed]
abbrev z7 (n:Nat):AV:=.val (.int .u64 (n:Int))
theorem cD (n:Nat):(n:Int).fdiv (2^min 32 IntKind.u64.bits)=((n/B:Nat):Int):=by
 have:min 32 IntKind.u64.bits=32:=rfl
 rw[this,Int.fdiv_eq_ediv_of_nonneg _ (by decide),z5]
 rfl
theorem xa {a:List Nat} {k d:Nat}:(zE a).set k [uv d]=zE (a.set k d):=by simp[List.map_set]
theorem r7 {b:List Nat} {k:Nat} (h:b.length≤k):val (b.take k)=val b:=by rw[List.take_of_length_le h]
theorem YQ {a:List Nat} (h:ok a) (k:Nat):val (a.take k)<B^k:=yS (ut h k) (by simp; omega)
def low (a b:List Nat) (k:Nat):Nat:=val (a.take k)+val (b.take k)
def car (a b:List Nat) (k:Nat):Nat:=low a b k/B^k
theorem Up {a b:List Nat} (ha:ok a) (hb:ok b) (k:Nat):car a b k≤1:=by
 have h1:=YQ ha k
 have h2:=YQ hb k
 have:low a b k<2*B^k:=by unfold low; omega
 have:=Nat.div_lt_of_lt_mul (Nat.mul_comm 2 _▸this)
 unfold car
 omega
theorem YZ {a b:List Nat}:car a b 0=0:=by simp[car,low,val]
theorem Rv {a b:List Nat} {k t R:Nat} (h:low a b (k+1)=low a b k+B^k*t) (hs:val a+val b=low a b (k+1)+B^(k+1)*R) :
  (val a+val b)/B^k%B=(car a b k+t)%B∧car a b (k+1)=(car a b k+t)/B:=by
 constructor
 ·rw[hs,h,gZ]; rfl
 ·unfold car; rw[h,gY]
theorem C6 (a b:List Nat) (k:Nat) (ha:k≤a.length) (hb:k≤b.length∨b.length≤k):∃ R,val a+val b=low a b k+B^k*R:=by
 have e1:=vS a k
 rw[Nat.min_eq_left ha] at e1
 rcases hb with hb | hb
 ·have e2:=vS b k
  rw[Nat.min_eq_left hb] at e2
  exact ⟨val (a.drop k)+val (b.drop k),by unfold low; rw[Nat.mul_add]; omega⟩
 ·exact ⟨val (a.drop k),by unfold low; rw[r7 hb]; omega⟩
theorem TO {a b:List Nat} {k:Nat} (hk:k<a.length) (hb:k<b.length∨b.length≤k):∃ t,t=car a b k+(a[k]+(b[k]?.getD 0))∧(val a+val b)/B^k%B=t%B∧car a b (k+1)=t/B:=by
 refine ⟨_,rfl,?_⟩
 obtain ⟨R,hR⟩:=C6 a b (k+1) (by omega) (by omega)
 rcases hb with hb | hb
 ·rw[List.getElem?_eq_getElem hb,Option.getD_some]
  exact Rv (by unfold low; rw[xD hk,xD hb,Nat.mul_add]; omega) hR
 ·rw[List.getElem?_eq_none hb,Option.getD_none]
  exact Rv (by unfold low; rw[xD hk,r7 hb,r7 (show b.length≤k+1 by omega)]; simp; omega) hR
def lj (m1 m2:Am.Mode) (a b:List Nat) (k:Nat):St :=
 {env:=[(0,nl m1 a),(1,nl m2 b),(5,.sl 19 1 0 (a.length+1)),(6,z7 (car a b k)),(21,iv a.length),(22,iv k)],sto:=[(19,.arr 1 (zE (ww (a.length+1) k (val a+val b))))]}
theorem QJ {m1 m2:Am.Mode} {a b:List Nat} (ha:ok a) (hb:ok b) (hl:b.length≤a.length) (hn:a.length<1099511627775) :
  awp Tryz.prog (.loop nJ) (lj m1 m2 a b 0) (wZ 0 (rX Tryz.prog dz (cy Sn (nD (val a+val b))))):=by
 have hS:val a+val b<B^(a.length+1):=by
  have h1:=vh ha
  have h2:=yS hb hl
  rw[Nat.pow_succ,z5] at *
  omega
 refine zl (lj m1 m2 a b) (fun _=>True) a.length (by simp[lj]) trivial (fun k hk _=>?_) (fun _=>?_)
 ·have e:(k:Int)<a.length:=by omega
  have hc:=Up ha hb k
  have hak:=xA ha hk
  have hfl:=fe (n:=a.length+1) (k:=k) (S:=val a+val b) (by omega)
  have hfk:k<(ww (a.length+1) k (val a+val b)).length:=by omega
  have hset:=ff (n:=a.length+1) (k:=k) (S:=val a+val b) (by omega)
  have e1:IntKind.u64.wrap ((a[k]:Nat):Int)=(a[k]:Nat):=w64 (by rw[z5] at hak; omega)
  obtain ⟨t,ht,g1,g2⟩:=TO (a:=a) (b:=b) hk (by omega)
  rw[g1] at hset
  obtain ⟨d,hd⟩:∃ d,t%B=d:=⟨_,rfl⟩
  obtain ⟨q,hq⟩:∃ q,t/B=q:=⟨_,rfl⟩
  have f1:IntKind.u32.wrap (t:Int)=(d:Int):=by rw[w32,hd]
  have f2:(t:Int).fdiv (2^min 32 IntKind.u64.bits)=(q:Int):=by rw[cD,hq]
  rw[hd] at hset
  have hset':(zE (ww (a.length+1) k (val a+val b))).set k [uv d]=zE (ww (a.length+1) (k+1) (val a+val b)):=by rw[xa,hset]
  rw[hq] at g2
  rw[z5] at hak
  have e4:IntKind.u64.wrap ((a[k]:Int)+(car a b k:Int))=((a[k]:Int)+(car a b k:Int)):=by rw[vJ]<;>omega
  by_cases hkb:k<b.length
  ·have e2:(k:Int)<b.length:=by omega
   have hbk:=xA hb hkb
   rw[z5] at hbk
   rw[List.getElem?_eq_getElem hkb,Option.getD_some] at ht
   have e3:IntKind.u64.wrap ((b[k]:Nat):Int)=(b[k]:Nat):=w64 (by omega)
   have e5:IntKind.u64.wrap ((a[k]:Int)+(car a b k:Int)+(b[k]:Int))=(t:Int):=by rw[vJ]<;>omega
   simp[nJ,lj,e,e2,hk,hkb,e1,e3,e4,e5,wu,hfk,splice,f1,f2,hset',g2,zm (show k<4611686018427387904 by omega)]
   omega
  ·have e2:¬ (k:Int)<b.length:=by omega
   rw[List.getElem?_eq_none (by omega),Option.getD_none] at ht
   have e5:(a[k]:Int)+(car a b k:Int)=(t:Int):=by omega
   rw[e5] at e4
   simp[nJ,lj,e,e2,hk,e1,e5,e4,wu,hfk,splice,f1,f2,hset',g2,zm (show k<4611686018427387904 by omega)]
   omega
 ·have hfl:=fe (n:=a.length+1) (k:=a.length) (S:=val a+val b) (by omega)
  have hfk:a.length<(ww (a.length+1) a.length (val a+val b)).length:=by omega
  have hset:=ff (n:=a.length+1) (k:=a.length) (S:=val a+val b) (by omega)
  have hc:=Up ha hb a.length
  have hcl:(val a+val b)/B^a.length%B=car a b a.length:=by
   have h1:car a b a.length=(val a+val b)/B^a.length:=by
    unfold car low; rw[r7 (Nat.le_refl _),r7 hl]
   rw[← h1,Nat.mod_eq_of_lt (by rw[z5]; omega)]
  rw[hcl] at hset
  have hset':(zE (ww (a.length+1) a.length (val a+val b))).set a.length [uv (car a b a.length)]=zE (zt (a.length+1) (val a+val b)):=by rw[xa,hset,an]
  have f1:IntKind.u32.wrap (car a b a.length:Int)=(car a b a.length:Int):=IntWalk.u32_in _ (by omega)
  have hle:a.length+1≤(zt (a.length+1) (val a+val b)).length:=by rw[zy]; exact Nat.le_refl _
  have htk:(zE (zt (a.length+1) (val a+val b))).take (a.length+1)=zE (zt (a.length+1) (val a+val b)):=List.take_of_length_le (by rw[List.length_map,zy]; exact Nat.le_refl _)
  have key:=yX (m:=.plain) (a:=zt (a.length+1) (val a+val b)) yu (by rw[zy]; omega)
  rw[yh hS] at key
  simp[nJ,lj,dz,hfk,splice,f1,hset',y8,sU,htk,hle]
  refine ⟨by omega,?_⟩
  refine za key (by simp) (by simp) ?_
  simp[Sn]
  exact AV.imp.refl
theorem gG {m1 m2:Am.Mode} {a b:List Nat} (ha:ok a) (hb:ok b) (hna:a.length<1099511627775) (hnb:b.length<1099511627775):zd Tryz.prog jc [nl m1 a,nl m2 b] (nD (val a+val b)):=by
 refine wR acr (by simp) ?_
 by_cases h:a.length<b.length
 ·have h':(a.length:Int)<b.length:=by omega
  have w:IntKind.i64.wrap ((b.length:Int)+1)=(b.length:Int)+1:=wrap64 (by omega) (by omega)
  have key:=QJ (m1:=m2) (m2:=m1) hb ha (by omega) (by omega)
  rw[Nat.add_comm (val b)] at key
  have e1:((b.length:Int)+1).toNat=b.length+1:=by omega
  simp[TU,h',w,eMk,e1]
  refine ⟨by omega,by omega,by omega,?_⟩
  have e2:lj m2 m1 b a 0={env:=[(0,nl m2 b),(1,nl m1 a),(5,.sl 19 1 0 (b.length+1)),(6,z7 0),(21,iv b.length),(22,iv 0)],sto:=[(19,.arr 1 (List.replicate (b.length+1) [uv 0]))]}:=by
   simp[lj,YZ,kU]
  rw[e2] at key
  exact key
 ·have h':¬ (a.length:Int)<b.length:=by omega
  have w:IntKind.i64.wrap ((a.length:Int)+1)=(a.length:Int)+1:=wrap64 (by omega) (by omega)
  have key:=QJ (m1:=m1) (m2:=m2) ha hb (by omega) (by omega)
  have e1:((a.length:Int)+1).toNat=a.length+1:=by omega
  simp[TU,h',w,eMk,e1]
  refine ⟨by omega,by omega,by omega,?_⟩
  have e2:lj m1 m2 a b 0={env:=[(0,nl m1 a),(1,nl m2 b),(5,.sl 19 1 0 (a.length+1)),(6,z7 0),(21,iv a.length),(22,iv 0)],sto:=[(19,.arr 1 (List.replicate (a.length+1) [uv 0]))]}:=by
   simp[lj,YZ,kU]
  rw[e2] at key
  exact key
def yO (x y:Nat):Int:=if x<y then -1 else if y<x then 1 else 0
def Z5 (x y:Nat) (k:Nat):St:={env:=[(0,nD x),(1,nD y),(22,iv (zf x).length),(23,iv k)],sto:=[]}
theorem lN {m1 m2:Am.Mode} {a b:List Nat} (ha:ok a) (hb:ok b) (hna:a.length<1099511627776) (hnb:b.length<1099511627776):zd Tryz.prog pZ [nl m1 a,nl m2 b] (iv (yO (val a) (val b))):=by
 refine zC acs (by simp) ?_
 simp[Lm]
 refine za (yX (m:=stm m1) ha hna) (by simp[qE]) (by simp) ?_
 simp
 refine za (yX (m:=stm m2) hb hnb) (by simp[qE]) (by simp) ?_
 have lx:=wb ha
 have ly:=wb hb
 generalize val a=x at *
 generalize val b=y at *
 by_cases hl:(zf x).length=(zf y).length
 ·have hl':(((zf x).length:Nat):Int)=((zf y).length:Int):=by omega
  simp[hl']
  refine zl (Z5 x y) (fun k=>(zf x).drop ((zf x).length-k)=(zf y).drop ((zf x).length-k)) (zf x).length (by simp[Z5,hl]) (by simp[hl]) (fun k hk hi=>?_) (fun hi=>?_)
  ·have e:(k:Int)<(zf x).length:=by omega
   have w:IntKind.i64.wrap (((zf x).length:Int)-1-k)=(((zf x).length-1-k:Nat):Int):=by rw[wrap64]<;>omega
   have w0:IntKind.i64.wrap (((zf x).length:Int)-1)=((zf x).length:Int)-1:=by rw[wrap64]<;>omega
   obtain ⟨j,hj⟩:∃ j,(zf x).length-1-k=j:=⟨_,rfl⟩
   rw[hj] at w
   have hjx:j<(zf x).length:=by omega
   have hjy:j<(zf y).length:=by omega
   have ejx:(j:Int)<(zf x).length:=by omega
   have ejy:(j:Int)<(zf y).length:=by omega
   have hd:(zf x).drop (j+1)=(zf y).drop (j+1):=by
    have:j+1=(zf x).length-k:=by omega
    rw[this]; exact hi
   rcases Nat.lt_trichotomy (zf x)[j] (zf y)[j] with h | h | h
   ·have hlt:=Ys (zw x) (zw y) hl hjx hd h
    rw[zI,zI] at hlt
    have hc:yO x y=-1:=by simp[yO,hlt]
    simp[nK,Z5,e,w0,w,hjx,hjy,ejx,ejy,h,jo,hc]
   ·have hnext:(zf x).drop ((zf x).length-(k+1))=(zf y).drop ((zf x).length-(k+1)):=by
     have:(zf x).length-(k+1)=j:=by omega
     rw[this,List.drop_eq_getElem_cons hjx,List.drop_eq_getElem_cons hjy,h,hd]
    simp[nK,Z5,e,w0,w,hjx,hjy,ejx,ejy,h,zm (show k<4611686018427387904 by omega),hnext]
   ·have hlt:=Ys (zw y) (zw x) hl.symm hjy hd.symm h
    rw[zI,zI] at hlt
    have hn:¬ (zf x)[j]<(zf y)[j]:=by omega
    have hc:yO x y=1:=by
     have:¬ x<y:=by omega
     simp[yO,hlt,this]
    simp[nK,Z5,e,w0,w,hjx,hjy,ejx,ejy,h,hn,jo,hc]
  ·have hxy:x=y:=dN (by simpa using hi)
   have hc:yO x y=0:=by simp[yO,hxy]
   simp[nK,Z5,Uc,jo,hc]
 ·have hl':¬ (((zf x).length:Nat):Int)=((zf y).length:Int):=by omega
  by_cases hlt:(zf x).length<(zf y).length
  ·have hlt':(((zf x).length:Nat):Int)<((zf y).length:Int):=by omega
   have hc:yO x y=-1:=by simp[yO,fj hlt]
   simp[hl',hlt',jo,hc]
  ·have hlt':¬ (((zf x).length:Nat):Int)<((zf y).length:Int):=by omega
   have h2:=fj (show (zf y).length<(zf x).length by omega)
   have hc:yO x y=1:=by
    have:¬ x<y:=by omega
    simp[yO,h2,this]
   simp[hl',hlt',jo,hc]
theorem AY (u v:Int):IntKind.u64.wrap (IntKind.u64.wrap u-v)=IntKind.u64.wrap (u-v):=by
 rw[Mf,Mf,Mf]; omega
theorem QA (u:Int):IntKind.u32.wrap (IntKind.u64.wrap u)=u%4294967296:=by
 rw[Mf,IntKind.wrap_u32]; omega
theorem Qx {u:Int} (h1:-8589934592≤u) (h2:u<8589934592):(IntKind.u64.wrap u).fdiv (2^min 63 IntKind.u64.bits)=if u<0 then 1 else 0:=by
 have:min 63 IntKind.u64.bits=63:=rfl
 rw[this,Int.fdiv_eq_ediv_of_nonneg _ (by decide),Mf]
 have:(2:Int)^63=9223372036854775808:=by decide
 rw[this]
 split<;>omega
end Go.Proofs.YtfmcplfbnkoglaaGreat

namespace Go.Dig
theorem Yg {o:List Nat} {j d:Nat} (hj:j<o.length):val (o.set j d)+B^j*o[j]=val o+B^j*d:=by
 induction o generalizing j with
 | nil=>simp at hj
 | cons x o ih =>
  rcases j with _ | j
  ·simp[val]; omega
  ·simp only[List.length_cons,Nat.add_lt_add_iff_right] at hj
   have:=ih hj
   simp only[List.set_cons_succ,val,List.getElem_cons_succ,Nat.pow_succ]
   have e1:B^j*B*o[j]=B*(B^j*o[j]):=by rw[Nat.mul_comm (B^j) B,Nat.mul_assoc]
   have e2:B^j*B*d=B*(B^j*d):=by rw[Nat.mul_comm (B^j) B,Nat.mul_assoc]
   rw[e1,e2]
   have e3:B*(val (o.set j d)+B^j*o[j])=B*(val o+B^j*d):=by rw[this]
   rw[Nat.mul_add,Nat.mul_add] at e3
   omega
def mN (a b:List Nat) (i k:Nat) (s:List Nat × Nat):List Nat × Nat :=
 let t:=a.getD i 0*b.getD k 0+s.1.getD (i+k) 0+s.2
 (s.1.set (i+k) (t%B),t/B)
def sV (a b:List Nat):Nat→List Nat
 | 0=>List.replicate (a.length+b.length) 0
 | i+1=>let s:=itr (mN a b i) (sV a b i,0) b.length; s.1.set (i+b.length) s.2
def x4 (a b:List Nat) (i k:Nat):List Nat × Nat:=itr (mN a b i) (sV a b i,0) k
theorem FX {a b:List Nat} {i:Nat}:x4 a b i 0=(sV a b i,0):=rfl
theorem Ry {a b:List Nat} {i:Nat}:sV a b (i+1)=(x4 a b i b.length).1.set (i+b.length) (x4 a b i b.length).2:=rfl
theorem Rx {a b:List Nat} {i k:Nat}:x4 a b i (k+1)=mN a b i k (x4 a b i k):=rfl
structure bM (a b o:List Nat) (c i k:Nat):Prop where
 len:o.length=a.length+b.length
 ok:ok o
 lt:c<B
 val:val o+B^(i+k)*c=val (a.take i)*val b+B^i*(a.getD i 0*val (b.take k))
 zero:∀ j (hj:j<o.length),i+b.length≤j→o[j]=0
theorem vU {a:List Nat} (h:ok a) (i:Nat):a.getD i 0<B:=by
 rw[List.getD_eq_getElem?_getD]
 by_cases hi:i<a.length
 ·rw[List.getElem?_eq_getElem hi]; exact xA h hi
 ·rw[List.getElem?_eq_none (by omega)]; exact zU
theorem fm {x y z w:Nat} (hx:x<B) (hy:y<B) (hz:z<B) (hw:w<B):x*y+z+w<B*B:=by
 have h:x*y≤(B-1)*(B-1):=Nat.mul_le_mul (by omega) (by omega)
 have:(B-1)*(B-1)+(B-1)+(B-1)<B*B:=by decide
 omega
theorem Bd {a b o:List Nat} {c i k:Nat} (ha:ok a) (hb:ok b) (hi:i<a.length) (hk:k<b.length) (h:bM a b o c i k) :
  bM a b (mN a b i k (o,c)).1 (mN a b i k (o,c)).2 i (k+1):=by
 have hlen:=h.len
 have hik:i+k<o.length:=by omega
 obtain ⟨t,ht⟩:∃ t,t=a.getD i 0*b.getD k 0+o.getD (i+k) 0+c:=⟨_,rfl⟩
 have hbd:=fm (vU ha i) (vU hb k) (vU h.ok (i+k)) h.lt
 rw[← ht] at hbd
 simp only[mN,← ht]
 constructor
 ·simp[hlen]
 ·exact U0 h.ok (Nat.mod_lt _ zU)
 ·exact Nat.div_lt_of_lt_mul hbd
 ·have e1:=Yg (o:=o) (j:=i+k) (d:=t%B) hik
  have e2:=Nat.mod_add_div t B
  have e3:=h.val
  have e4:=xD hk
  have e5:o.getD (i+k) 0=o[i+k]:=by simp[hik]
  have e6:b.getD k 0=b[k]:=by simp[hk]
  rw[e5,e6] at ht
  rw[e4]
  have e7:B^(i+(k+1))*(t/B)=B^(i+k)*(B*(t/B)):=by rw[← Nat.add_assoc,Nat.pow_succ,Nat.mul_assoc]
  rw[e7]
  have e8:B^(i+k)*(t%B)+B^(i+k)*(B*(t/B))=B^(i+k)*t:=by rw[← Nat.mul_add,e2]
  have e9:B^(i+k)*t=B^(i+k)*(a.getD i 0*b[k])+B^(i+k)*o[i+k]+B^(i+k)*c:=by rw[ht,Nat.mul_add,Nat.mul_add]
  have e10:B^i*(a.getD i 0*(val (b.take k)+B^k*b[k]))=B^i*(a.getD i 0*val (b.take k))+B^(i+k)*(a.getD i 0*b[k]):=by
   rw[Nat.mul_add,Nat.mul_add,Nat.pow_add]
   congr 1
   rw[Nat.mul_assoc]
   congr 1
   rw[Nat.mul_left_comm]
  rw[e10]
  omega
 ·intro j hj hle
  simp only[List.length_set] at hj
  rw[List.getElem_set_ne (by omega)]
  exact h.zero j hj hle
theorem fo {a b:List Nat} {i:Nat} (ha:ok a) (hb:ok b) (hi:i<a.length) (h:bM a b (sV a b i) 0 i 0):∀ k,k≤b.length→bM a b (x4 a b i k).1 (x4 a b i k).2 i k
 | 0,_=>h
 | k+1,hk=>by rw[Rx]; exact Bd ha hb hi (by omega) (fo ha hb hi h k (by omega))
theorem aN {a b:List Nat} (ha:ok a) (hb:ok b):∀ i,i≤a.length→bM a b (sV a b i) 0 i 0
 | 0,_=>⟨by simp[sV],Nf _,zU,by simp[sV,Yf,val],fun j hj _=>by simp[sV]⟩
 | i+1,hi=>by
  have ih:=aN ha hb i (by omega)
  have h:=fo ha hb (by omega) ih b.length (Nat.le_refl _)
  have hlen:=h.len
  have hib:i+b.length<(x4 a b i b.length).1.length:=by omega
  rw[Ry]
  have hz:=h.zero (i+b.length) hib (Nat.le_refl _)
  have hv:=Yg (d:=(x4 a b i b.length).2) hib
  have h3:=h.val
  rw[hz,Nat.mul_zero,Nat.add_zero] at hv
  refine ⟨by simp[hlen],U0 h.ok h.lt,zU,?_,?_⟩
  ·rw[hv,h3,List.take_of_length_le (Nat.le_refl b.length)]
   have:val (a.take (i+1))=val (a.take i)+B^i*a.getD i 0:=by
    rw[xD (by omega)]; simp[show i<a.length by omega]
   rw[this,Nat.add_mul,Nat.mul_assoc]
   simp[val]
  ·intro j hj hle
   simp only[List.length_set] at hj
   rw[List.getElem_set_ne (by omega)]
   exact h.zero j hj (by omega)
theorem abi {a b:List Nat} (ha:ok a) (hb:ok b):ok (sV a b a.length)∧(sV a b a.length).length=a.length+b.length∧val (sV a b a.length)=val a*val b:=by
 have h:=aN ha hb a.length (Nat.le_refl _)
 refine ⟨h.ok,h.len,?_⟩
 have:=h.val
 simp[val] at this
 exact this
def vg (n D i:Nat):List Nat:=List.replicate (n-i) 0++(zt n D).drop (n-i)
theorem YL {n D:Nat}:vg n D 0=List.replicate n 0:=by
 simp[vg,zy]
theorem Tc {n D:Nat}:vg n D n=zt n D:=by simp[vg]
theorem Td {n D i:Nat} (_h:i≤n):(vg n D i).length=n:=by simp[vg,zy]; try omega
theorem Te {n D i:Nat} (h:i<n):(vg n D i).set (n-1-i) (D/B^(n-1-i)%B)=vg n D (i+1):=by
 obtain ⟨j,hj⟩:∃ j,n-1-i=j:=⟨_,rfl⟩
 have h1:n-i=j+1:=by omega
 have h2:n-(i+1)=j:=by omega
 unfold vg
 rw[hj,h1,h2,List.replicate_succ']
 rw[List.append_assoc,List.set_append_right _ _ (by simp)]
 simp only[List.length_replicate,Nat.sub_self]
 have hlt:j<(zt n D).length:=by rw[zy]; omega
 rw[List.drop_eq_getElem_cons hlt,vc]
 rfl
theorem Tf {A d:Nat} (hd:0<d):(A/B%d*B+A%B)/d=A/d%B∧(A/B%d*B+A%B)%d=A%d∧A/B%d*B+A%B<d*B:=by
 have hA:=Nat.div_add_mod A B
 have h1:=Nat.div_add_mod (A/B) d
 have hm:=Nat.mod_lt (A/B) hd
 have hb:=Nat.mod_lt A zU
 have hlt:A/B%d*B+A%B<d*B:=by
  have:(A/B%d+1)*B≤d*B:=Nat.mul_le_mul_right _ hm
  rw[Nat.add_mul] at this
  omega
 have key:A=d*(A/B/d*B)+(A/B%d*B+A%B):=by
  have e:B*(A/B)=B*(d*(A/B/d)+A/B%d):=by rw[h1]
  rw[Nat.mul_add] at e
  have e2:d*(A/B/d*B)=B*(d*(A/B/d)):=by rw[← Nat.mul_assoc,Nat.mul_comm]
  rw[e2,Nat.mul_comm (A/B%d)]
  omega
 generalize A/B%d*B+A%B=t at *
 generalize A/B/d=g at *
 have hq:t/d<B:=Nat.div_lt_of_lt_mul hlt
 refine ⟨?_,?_,hlt⟩
 ·rw[key,Nat.mul_add_div hd,Nat.add_comm (g*B) _,Nat.add_mul_mod_self_right,Nat.mod_eq_of_lt hq]
 ·rw[key,Nat.mul_add_mod]
end Go.Dig

namespace Go.Proofs.YtfmcplfbnkoglaaGreat
open Go Go.Am Go.Dig
theorem qr {x:Nat} (h:x<18446744073709551616):zd Tryz.prog vW [z7 x] (nD x):=by
 have f2:(x:Int).fdiv (2^min 32 IntKind.u64.bits)=((x/B:Nat):Int):=cD x
 have f1:=w32 x
 have f3:=w32 (x/B)
 obtain ⟨d0,h0⟩:∃ d,x%B=d:=⟨_,rfl⟩
 obtain ⟨q,hq⟩:∃ q,x/B=q:=⟨_,rfl⟩
 obtain ⟨d1,h1⟩:∃ d,q%B=d:=⟨_,rfl⟩
 rw[hq] at f2 f3
 rw[h0] at f1
 rw[h1] at f3
 have hok:ok [d0,d1]:=by
  intro d hd
  simp at hd
  rcases hd with rfl | rfl
  ·rw[← h0]; exact Nat.mod_lt _ zU
  ·rw[← h1]; exact Nat.mod_lt _ zU
 have hv:val [d0,d1]=x:=by
  have e1:=Nat.mod_add_div x B
  have hq2:q<B:=by rw[← hq,z5]; omega
  rw[Nat.mod_eq_of_lt hq2] at h1
  simp only[val,Nat.mul_zero,Nat.add_zero]
  rw[← h1,← h0,← hq]
  exact e1
 have key:=yX (m:=.full) (a:=[d0,d1]) hok (by simp)
 rw[hv] at key
 refine zC N3 (by simp) ?_
 simp[bT,wu,f1,f2,f3,uh]
 refine za key (by simp) (by simp) ?_
 simp[aV]
theorem or_hi {r a:Nat} (hr:r<B) (ha:a<B):rt .or .u64 ((r*B:Nat):Int) (a:Int)=((r*B+a:Nat):Int):=by
 rw[z5] at *
 have hbits:IntKind.u64.bits=64:=rfl
 simp only[rt]
 rw[BitVec.toNat_or]
 have e1:(BitVec.ofInt IntKind.u64.bits ((r*4294967296:Nat):Int)).toNat=r*4294967296:=by rw[hbits,BitVec.toNat_ofInt]; omega
 have e2:(BitVec.ofInt IntKind.u64.bits (a:Int)).toNat=a:=by rw[hbits,BitVec.toNat_ofInt]; omega
 rw[e1,e2]
 have h3:=Nat.shiftLeft_add_eq_or_of_lt (i:=32) (b:=a) (by omega) r
 rw[Nat.shiftLeft_eq] at h3
 have:(2:Nat)^32=4294967296:=by decide
 rw[this] at h3
 rw[← h3]
 exact w64 (by omega)
theorem Qw {r:Nat} (hr:r<B):IntKind.u64.wrap ((r:Int)*2^min 32 IntKind.u64.bits)=((r*B:Nat):Int):=by
 have:min 32 IntKind.u64.bits=32:=rfl
 rw[this]
 have:(2:Int)^32=4294967296:=by decide
 rw[this]
 rw[z5] at *
 rw[vJ]<;>omega
def Gg (m:Am.Mode) (a:List Nat) (d i:Nat):St :=
 {env:=[(0,nl m a),(1,uv d),(6,.sl 13 1 0 a.length),(7,z7 (val a/B^(a.length-i)%d)),(15,iv a.length),(16,iv i)],sto:=[(13,.arr 1 (zE (vg a.length (val a/d) i)))]}
theorem MX {m:Am.Mode} {a:List Nat} {d:Nat} (ha:ok a) (hn:a.length<1099511627776) (h0:0<d) (hd:d<B) (f1:stm m=m) :
  zd Tryz.prog bG [nl m a,uv d] (.tuple [nD (val a/d),uv (val a%d)]):=by
 refine wR DC (by simp) ?_
 simp[S8,eMk]
 refine ⟨by omega,by omega,?_⟩
 have hz:val a/B^a.length%d=0:=by rw[Nat.div_eq_of_lt (vh ha)]; exact Nat.zero_mod _
 refine zl (Gg m a d) (fun _=>True) a.length (by simp[Gg,YL,hz]) trivial (fun i hi _=>?_) (fun _=>?_)
 ·have e:(i:Int)<a.length:=by omega
  obtain ⟨k,hk⟩:∃ k,a.length-1-i=k:=⟨_,rfl⟩
  have hk1:a.length-i=k+1:=by omega
  have hk2:a.length-(i+1)=k:=by omega
  have hka:k<a.length:=by omega
  have w0:IntKind.i64.wrap ((a.length:Int)-1)=(a.length:Int)-1:=by rw[wrap64]<;>omega
  have w1:IntKind.i64.wrap ((a.length:Int)-1-i)=(k:Int):=by rw[wrap64]<;>omega
  obtain ⟨s1,s2,s3⟩:=Tf (A:=val a/B^k) h0
  rw[← mH ha hka,Nat.div_div_eq_div_mul,← Nat.pow_succ] at s1 s2 s3
  obtain ⟨r,hr⟩:∃ r,val a/B^(k+1)%d=r:=⟨_,rfl⟩
  have hrd:r<d:=by rw[← hr]; exact Nat.mod_lt _ h0
  have hrB:r<B:=by omega
  have hak:=xA ha hka
  have hor:=or_hi hrB hak
  have hsh:=Qw hrB
  rw[Nat.succ_eq_add_one,hr] at s1 s2 s3
  obtain ⟨t,ht⟩:∃ t,r*B+a[k]=t:=⟨_,rfl⟩
  obtain ⟨rb,hrb⟩:∃ rb,r*B=rb:=⟨_,rfl⟩
  rw[ht] at hor s1 s2 s3
  rw[hrb] at hor hsh
  have hset:=Te (n:=a.length) (D:=val a/d) hi
  rw[hk,Nat.div_div_eq_div_mul,Nat.mul_comm d,← Nat.div_div_eq_div_mul,← s1] at hset
  obtain ⟨q,hq⟩:∃ q,t/d=q:=⟨_,rfl⟩
  obtain ⟨r2,hr2⟩:∃ r2,t%d=r2:=⟨_,rfl⟩
  rw[hq] at hset s1
  rw[hr2] at s2
  have hqB:q<B:=by rw[s1]; exact Nat.mod_lt _ zU
  have hset':(zE (vg a.length (val a/d) i)).set k [uv q]=zE (vg a.length (val a/d) (i+1)):=by rw[xa,hset]
  have htB:t<18446744073709551616:=by
   have:d*B≤B*B:=Nat.mul_le_mul_right _ (by omega)
   have hBB:B*B=18446744073709551616:=by decide
   omega
  have hfl:=Td (D:=val a/d) (show i≤a.length by omega)
  have hkl:k<(vg a.length (val a/d) i).length:=by omega
  rw[z5] at hak hqB hd
  have u1:IntKind.u64.wrap ((a[k]:Nat):Int)=(a[k]:Nat):=w64 (by omega)
  have u2:IntKind.u64.wrap (d:Int)=d:=w64 (by omega)
  have hd0:¬ (d:Int)=0:=by omega
  have hd0n:¬ d=0:=by omega
  have u3:IntKind.u64.wrap ((t:Int).tdiv d)=(q:Int):=by
   rw[show (t:Int).tdiv d=((t/d:Nat):Int) from rfl,hq]; exact w64 (by omega)
  have u3':IntKind.u64.wrap ((t:Int)/d)=(q:Int):=by
   rw[show (t:Int)/d=((t/d:Nat):Int) by simp,hq]; exact w64 (by omega)
  have u4:(t:Int).tmod d=(r2:Int):=by rw[show (t:Int).tmod d=((t%d:Nat):Int) from rfl,hr2]
  have u5:IntKind.u32.wrap (q:Int)=q:=IntWalk.u32_in _ (by omega)
  simp[jI,Gg,e,w0,w1,hka,hkl,hk1,hk2,hr,vE,hsh,u1,hor,u2,vD,rL,hd0n,u3',u4,u5,splice,hset',s2,zm (show i<4611686018427387904 by omega)]
 ·have htk:(zE (zt a.length (val a/d))).take a.length=zE (zt a.length (val a/d)):=List.take_of_length_le (by rw[List.length_map,zy]; exact Nat.le_refl _)
  have hle2:a.length≤(zt a.length (val a/d)).length:=by rw[zy]; exact Nat.le_refl _
  have key:=yX (m:=.plain) (a:=zt a.length (val a/d)) yu (by rw[zy]; omega)
  have hlt:val a/d<B^a.length:=Nat.lt_of_le_of_lt (Nat.div_le_self _ _) (vh ha)
  rw[yh hlt] at key
  have hr:val a%d<d:=Nat.mod_lt _ h0
  have u5:IntKind.u32.wrap ((val a%d:Nat):Int)=(val a%d:Nat):=IntWalk.u32_in _ (by rw[z5] at hd; omega)
  obtain ⟨r,hr2⟩:∃ r,val a%d=r:=⟨_,rfl⟩
  have hr3:val a/B^(a.length-a.length)%d=r:=by simp[hr2]
  rw[hr2] at u5 ⊢
  simp[jI,Gg,Tc,bU,y8,Y7 f1,sU,htk,hle2,hr2]
  refine za key (by simp) (by simp) ?_
  simp[RK,u5]
  exact AV.imp.refl
end Go.Proofs.YtfmcplfbnkoglaaGreat

namespace Go.Dig
def nX (w u2 v1 v2:Nat):Nat:=min (B-1) ((w*B+u2)/(v1*B+v2))
def N8 (g r u2 v2:Nat):Prop:=B≤g∨r*B+u2<g*v2
theorem abJ {w u2 v1 v2:Nat} (h1:0<v1) (hu:u2<B):nX w u2 v1 v2≤w/v1:=by
 unfold nX
 refine Nat.le_trans (Nat.min_le_right _ _) ?_
 rw[Nat.le_div_iff_mul_le h1]
 have h:=Nat.div_mul_le_self (w*B+u2) (v1*B+v2)
 generalize (w*B+u2)/(v1*B+v2)=q at *
 rw[Nat.mul_add,← Nat.mul_assoc] at h
 apply Nat.le_of_not_lt
 intro hlt
 have:(w+1)*B≤q*v1*B:=Nat.mul_le_mul_right _ hlt
 rw[Nat.add_mul] at this
 omega
theorem cT {g r w u2 v1 v2:Nat} (h1:0<v1) (hr:w=g*v1+r):N8 g r u2 v2↔nX w u2 v1 v2<g:=by
 have hV:0<v1*B+v2:=by have:=Nat.mul_pos h1 zU; omega
 have key:g≤(w*B+u2)/(v1*B+v2)↔g*v2≤r*B+u2:=by
  rw[Nat.le_div_iff_mul_le hV,hr,Nat.mul_add,Nat.add_mul,← Nat.mul_assoc]
  omega
 unfold N8 nX
 have hB:=zU
 constructor
 ·rintro (h | h)
  ·exact Nat.lt_of_le_of_lt (Nat.min_le_left _ _) (by omega)
  ·exact Nat.lt_of_le_of_lt (Nat.min_le_right _ _) (by omega)
 ·intro h
  apply Classical.byContradiction
  intro hno
  have h2:g≤B-1:=by
   apply Nat.le_of_not_lt; intro h3; exact hno (.inl (by omega))
  have h3:g≤(w*B+u2)/(v1*B+v2):=key.2 (by
   apply Nat.le_of_not_lt; intro h4; exact hno (.inr h4))
  have:=Nat.le_min.2 ⟨h2,h3⟩
  omega
theorem Cd {g r w u2 v1 v2:Nat} (_h1:0<v1) (hr:w=g*v1+r) (hw:w≤v1*B+(B-1)) (hv2:v2<B) (hrB:B≤r):¬ N8 g r u2 v2:=by
 have hg:g≤B-1:=by
  apply Nat.le_of_not_lt
  intro h
  have:B*v1≤g*v1:=Nat.mul_le_mul_right _ (by omega)
  rw[Nat.mul_comm v1] at hw
  have:=zU
  omega
 rintro (h | h)
 ·have:=zU; omega
 ·have h2:g*v2≤(B-1)*(B-1):=Nat.mul_le_mul hg (by omega)
  have h3:B*B≤r*B:=Nat.mul_le_mul_right _ hrB
  have h4:(B-1)*(B-1)<B*B:=by decide
  omega
theorem JI {w u2 v1 v2 U V P Q R:Nat} (h1:0<v1) (hu2:u2<B) (hv2:v2<B) (hU:U=(w*B+u2)*P+R) (hR:R<P) (hV:V=(v1*B+v2)*P+Q) (hQ:Q<P) (hUV:U<V*B) :
  U/V≤nX w u2 v1 v2∧nX w u2 v1 v2≤U/V+1:=by
 have hP:0<P:=by omega
 have hV2:0<v1*B+v2:=by have:=Nat.mul_pos h1 zU; omega
 have hVpos:0<V:=by have:=Nat.mul_pos hV2 hP; omega
 constructor
 ·unfold nX
  refine Nat.le_min.2 ⟨?_,?_⟩
  ·have:U/V<B:=Nat.div_lt_of_lt_mul hUV
   omega
  ·rw[Nat.le_div_iff_mul_le hV2]
   have h:=Nat.div_mul_le_self U V
   generalize U/V=q at *
   have h2:q*((v1*B+v2)*P)≤q*V:=Nat.mul_le_mul_left _ (by omega)
   rw[← Nat.mul_assoc] at h2
   apply Nat.le_of_not_lt
   intro hlt
   have:(w*B+u2+1)*P≤q*(v1*B+v2)*P:=Nat.mul_le_mul_right _ hlt
   rw[Nat.add_mul] at this
   omega
 ·have hq1:nX w u2 v1 v2≤B-1:=Nat.min_le_left _ _
  have hq2:nX w u2 v1 v2*(v1*B+v2)≤w*B+u2:=by
   have:nX w u2 v1 v2≤(w*B+u2)/(v1*B+v2):=Nat.min_le_right _ _
   exact Nat.le_trans (Nat.mul_le_mul_right _ this) (Nat.div_mul_le_self _ _)
  generalize nX w u2 v1 v2=g at *
  rcases g with _ | g
  ·exact Nat.zero_le _
  ·have:g≤U/V:=by
    rw[Nat.le_div_iff_mul_le hVpos]
    -- (g+1) V2 P≤U,and V<(V2+1) P,g+1≤B-1≤v1 B
    have e1:(g+1)*(v1*B+v2)*P≤(w*B+u2)*P:=Nat.mul_le_mul_right _ hq2
    have e2:g*V≤g*((v1*B+v2)*P+P):=Nat.mul_le_mul_left _ (by omega)
    have e3:g*P≤(v1*B+v2)*P:=Nat.mul_le_mul_right _ (by
     have:1*B≤v1*B:=Nat.mul_le_mul_right _ h1
     omega)
    rw[Nat.add_mul,Nat.one_mul,Nat.add_mul] at e1
    rw[Nat.mul_add,← Nat.mul_assoc] at e2
    omega
   omega
theorem abh {g:Nat} {v:List Nat} {k:Nat} (hk:k<v.length):(g*val v)/B^k%B=(g*v[k]+g*val (v.take k)/B^k)%B∧g*val (v.take (k+1))/B^(k+1)=(g*v[k]+g*val (v.take k)/B^k)/B:=by
 have e1:=xD hk
 have e2:=vS v (k+1)
 rw[Nat.min_eq_left (by omega)] at e2
 constructor
 ·rw[e2,e1,Nat.mul_add,Nat.mul_add,Nat.mul_left_comm g (B^k),Nat.mul_left_comm g (B^(k+1)),gZ,Nat.add_comm]
 ·rw[e1,Nat.mul_add,Nat.mul_left_comm g (B^k),gY,Nat.add_comm]
theorem aM {g:Nat} {v:List Nat} (hv:ok v) (hg:g<B) (k:Nat):g*val (v.take k)/B^k<B:=by
 apply Nat.div_lt_of_lt_mul
 have h1:=yS (ut hv k) (n:=k) (by simp; omega)
 have:g*val (v.take k)≤B*val (v.take k):=Nat.mul_le_mul_right _ (by omega)
 have h2:B*val (v.take k)<B*B^k:=Nat.mul_lt_mul_of_pos_left h1 zU
 rw[Nat.mul_comm (B^k)]
 omega
def yK (Z:Nat) (u:List Nat) (k:Nat):List Nat:=zt k Z++u.drop k
theorem aK {Z:Nat} {u:List Nat}:yK Z u 0=u:=by simp[yK,zt]
theorem j9 {Z:Nat} {u:List Nat} {k:Nat} (h:k≤u.length):(yK Z u k).length=u.length:=by simp[yK,zy]; omega
theorem cf {Z:Nat} {u:List Nat} {k:Nat} (h:k<u.length):(yK Z u k)[k]'(by rw[j9 (by omega)]; exact h)=u[k]:=by
 unfold yK
 rw[List.getElem_append_right (by rw[zy]; exact Nat.le_refl _)]
 simp[zy]
theorem cg {Z:Nat} {u:List Nat} {k:Nat} (h:k<u.length):(yK Z u k).set k (Z/B^k%B)=yK Z u (k+1):=by
 unfold yK
 rw[List.set_append_right _ _ (by rw[zy]; exact Nat.le_refl _),zy,Nat.sub_self,List.drop_eq_getElem_cons h,List.set_cons_zero,t0]
 simp
theorem P0 {Z:Nat} {u:List Nat} {n:Nat} (h:u.length=n):yK Z u n=zt n Z:=by
 unfold yK; rw[List.drop_of_length_le (by omega)]; simp
theorem Ri {n x:Nat}:zt n (x+B^n)=zt n x:=by
 refine Ye yu yu (by rw[zy,zy]) ?_
 rw[fO,fO,Nat.add_mod_right]
theorem G4 {U n k:Nat} (hk:k<n):(U+B^n)/B^k%B=U/B^k%B:=by
 have h:=Ri (n:=n) (x:=U)
 have h1:k<(zt n (U+B^n)).length:=by rw[zy]; exact hk
 have h2:k<(zt n U).length:=by rw[zy]; exact hk
 rw[← vc h1,← vc h2]
 simp only[h]
def seg (W:List Nat) (off:Nat) (X:List Nat):List Nat:=W.take off++X++W.drop (off+X.length)
theorem jp {W X:List Nat} {off:Nat} (h:off+X.length≤W.length):(seg W off X).length=W.length:=by simp[seg]; omega
theorem Z3 {W X:List Nat} {off i:Nat} (h:off+X.length≤W.length) (hi:i<X.length):(seg W off X)[off+i]'(by rw[jp h]; omega)=X[i]:=by
 unfold seg
 rw[List.getElem_append_left (by simp; omega),List.getElem_append_right (by simp; omega)]
 congr 1
 simp; omega
theorem Z4 {W X:List Nat} {off i d:Nat} (h:off+X.length≤W.length) (hi:i<X.length):(seg W off X).set (off+i) d=seg W off (X.set i d):=by
 unfold seg
 rw[List.length_set,List.set_append_left _ _ (by simp; omega),List.set_append_right _ _ (by simp; omega)]
 have:off+i-(List.take off W).length=i:=by simp; omega
 rw[this]
theorem Ab {W:List Nat} {off n:Nat} (h:off+n≤W.length):seg W off ((W.drop off).take n)=W:=by
 unfold seg
 have:((W.drop off).take n).length=n:=by simp; omega
 rw[this]
 rw[List.append_assoc,← List.drop_drop,List.take_append_drop,List.take_append_drop]
theorem Ta {N L i t:Nat} (hL:L<B^(i+1)) (hi:i+1<N) (hlt:L+B^i*t<B^N) (ht:(L/B^i+t)/B<B) :
  ((zt N L).set i ((L/B^i+t)%B)).set (i+1) ((L/B^i+t)/B)=zt N (L+B^i*t):=by
 have hLN:L<B^N:=Nat.lt_of_lt_of_le hL (Nat.pow_le_pow_right zU (by omega))
 have hlen:=zy (n:=N) (x:=L)
 have ho:ok (zt N L):=yu
 have hd1:(L/B^i+t)%B<B:=Nat.mod_lt _ zU
 refine Ye (U0 (U0 ho hd1) ht) yu (by simp[zy]) ?_
 rw[yh hlt]
 have e1:=Yg (o:=zt N L) (j:=i) (d:=(L/B^i+t)%B) (by omega)
 have e2:=Yg (o:=(zt N L).set i ((L/B^i+t)%B)) (j:=i+1) (d:=(L/B^i+t)/B) (by simp; omega)
 rw[yh hLN,vc] at e1
 rw[List.getElem_set_ne (by omega),vc,Nat.div_eq_of_lt hL] at e2
 have h0:0%B=0:=rfl
 rw[h0,Nat.mul_zero,Nat.add_zero] at e2
 have hc:L/B^i<B:=Nat.div_lt_of_lt_mul (by rw[← Nat.pow_succ]; exact hL)
 rw[Nat.mod_eq_of_lt hc] at e1
 have e3:=Nat.mod_add_div (L/B^i+t) B
 have e4:B^(i+1)*((L/B^i+t)/B)=B^i*(B*((L/B^i+t)/B)):=by rw[Nat.pow_succ,Nat.mul_assoc]
 have e5:B^i*((L/B^i+t)%B)+B^i*(B*((L/B^i+t)/B))=B^i*(L/B^i)+B^i*t:=by rw[← Nat.mul_add,e3,Nat.mul_add]
 rw[e2,e4]
 omega
theorem FR {c a bits:Nat} (hb:bits<32) (hc:c<2^bits) (_ha:a<B):c ||| (a*2^bits%B)=c+a*2^bits%B∧c+a*2^bits%B=(c+a*2^bits)%B∧a*2^bits/B=(c+a*2^bits)/B∧c+a*2^bits%B<B:=by
 have hB:B=2^(32-bits)*2^bits:=by
  rw[← Nat.pow_add,Nat.sub_add_cancel (by omega)]; rfl
 have hm:a*2^bits%B=(a%2^(32-bits))*2^bits:=by
  rw[hB,Nat.mul_mod_mul_right]
 have hlt:a%2^(32-bits)<2^(32-bits):=Nat.mod_lt _ (Nat.pow_pos (by omega))
 have hd:=Nat.div_add_mod (a*2^bits) B
 have hsum:c+a*2^bits%B<B:=by
  rw[hm]
  have:(a%2^(32-bits)+1)*2^bits≤2^(32-bits)*2^bits:=Nat.mul_le_mul_right _ hlt
  rw[Nat.add_mul,← hB] at this
  omega
 refine ⟨?_,?_,?_,hsum⟩
 ·rw[hm]
  have h:=Nat.shiftLeft_add_eq_or_of_lt hc (a%2^(32-bits))
  rw[Nat.shiftLeft_eq] at h
  rw[Nat.or_comm,← h]; omega
 ·have:c+a*2^bits=c+a*2^bits%B+B*(a*2^bits/B):=by omega
  rw[this,Nat.add_mul_mod_self_left,Nat.mod_eq_of_lt hsum]
 ·have:c+a*2^bits=c+a*2^bits%B+B*(a*2^bits/B):=by omega
  rw[this,Nat.add_mul_div_left _ _ zU,Nat.div_eq_of_lt hsum,Nat.zero_add]
def shL (a:List Nat) (bits i:Nat):Nat:=val (a.take i)*2^bits
theorem NF {a:List Nat} {bits:Nat}:shL a bits 0=0:=by simp[shL,val]
theorem ge {bits:Nat} (hb:bits<32):2^bits<B:=by
 have:2^bits<2^32:=Nat.pow_lt_pow_right (by omega) hb
 exact this
theorem U9 {a:List Nat} {bits i:Nat} (ha:ok a):shL a bits i<B^i*2^bits:=by
 unfold shL
 exact Nat.mul_lt_mul_of_pos_right (yS (ut ha i) (by simp; omega)) (Nat.pow_pos (by omega))
theorem NE {a:List Nat} {bits i:Nat} (hi:i<a.length):shL a bits (i+1)=shL a bits i+B^i*(a[i]*2^bits):=by
 unfold shL
 rw[xD hi,Nat.add_mul,Nat.mul_assoc]
theorem KE {a:List Nat} {bits:Nat}:shL a bits a.length=val a*2^bits:=by
 unfold shL; rw[List.take_of_length_le (Nat.le_refl _)]
theorem Uv {n:Nat}:zt n 0=List.replicate n 0:=by
 refine Ye yu (Nf n) (by simp[zy]) ?_
 rw[fO,Yf,Nat.zero_mod]
end Go.Dig

namespace Go.Proofs.YtfmcplfbnkoglaaGreat
open Go Go.Am Go.Dig
theorem BB {c x:Nat} (hc:c<B) (hx:x<B) (h:c ||| x<B):rt .or .u32 (c:Int) (x:Int)=((c ||| x:Nat):Int):=by
 rw[z5] at *
 have hbits:IntKind.u32.bits=32:=rfl
 simp only[rt]
 rw[BitVec.toNat_or]
 have e1:(BitVec.ofInt IntKind.u32.bits (c:Int)).toNat=c:=by rw[hbits,BitVec.toNat_ofInt]; omega
 have e2:(BitVec.ofInt IntKind.u32.bits (x:Int)).toNat=x:=by rw[hbits,BitVec.toNat_ofInt]; omega
 rw[e1,e2]
 exact IntWalk.u32_in _ (by omega)
def Zj (a:List Nat) (m:Am.Mode) (σ:List (Nat × ze)) (out:List (List (Nat × AV))) (b bits i:Nat):St :=
 {env:=[(0,nl m a),(1,z7 bits),(5,.sl (b+11) 1 0 (a.length+1)),(13,iv a.length),(14,iv i)],sto:=pt σ (b+11) (.arr 1 (zE (zt (a.length+1) (shL a bits i)))),out:=out,base:=b}
theorem Ae {m:Am.Mode} {a:List Nat} {bits:Nat} {s:St} {K:AV→St→Prop} (b:Nat) (ha:ok a) (hn:a.length<1099511627775) (hb:bits<32) (hf:lk s.sto (b+11)=none)
  (h:K (.sl (b+11) 1 0 (a.length+1)) ⟨s.env,pt s.sto (b+11) (.arr 1 (zE (zt (a.length+1) (val a*2^bits)))),s.out,s.base⟩):yc Tryz.prog qS [nl m a,z7 bits] s K:=by
 obtain ⟨env,σ,out,base⟩:=s
 simp only at hf h
 refine vA b YO (by simp) ?_
 have w:IntKind.i64.wrap ((a.length:Int)+1)=(a.length:Int)+1:=wrap64 (by omega) (by omega)
 have e1:((a.length:Int)+1).toNat=a.length+1:=by omega
 simp[fV,w,eMk,e1,hf]
 refine ⟨by omega,by omega,by omega,?_⟩
 refine zl (Zj a m σ (env::out) b bits) (fun _=>True) a.length (by simp[Zj,NF,Uv]; exact .inl rfl) trivial (fun i hi _=>?_) (fun _=>?_)
 ·have e:(i:Int)<a.length:=by omega
  have hpow:=ge hb
  have hak:=xA ha hi
  have hL:=U9 (bits:=bits) (i:=i) ha
  have hLB:shL a bits i<B^(i+1):=by
   have:B^i*2^bits≤B^i*B:=Nat.mul_le_mul_left _ (by omega)
   rw[Nat.pow_succ]; omega
  have hc:shL a bits i/B^i<2^bits:=Nat.div_lt_of_lt_mul hL
  obtain ⟨o1,o2,o3,o4⟩:=FR (c:=shL a bits i/B^i) (a:=a[i]) hb hc hak
  have hsucc:=NE (bits:=bits) hi
  have hL2:=U9 (bits:=bits) (i:=i+1) ha
  have hLN:shL a bits (i+1)<B^(a.length+1):=by
   have h1:B^(i+1)*2^bits≤B^(i+1)*B:=Nat.mul_le_mul_left _ (by omega)
   have h3:B^(i+1+1)=B^(i+1)*B:=Nat.pow_succ _ _
   have h2:B^(i+1+1)≤B^(a.length+1):=Nat.pow_le_pow_right zU (by omega)
   omega
  have htB:(shL a bits i/B^i+a[i]*2^bits)/B<B:=by
   rw[← o3]
   apply Nat.div_lt_of_lt_mul
   exact Nat.mul_lt_mul_of_lt_of_lt hak hpow
  have hstep:=Ta (N:=a.length+1) (i:=i) (t:=a[i]*2^bits) hLB (by omega) (by rw[← hsucc]; exact hLN) htB
  rw[← hsucc,← o2,← o3] at hstep
  have hlen:=zy (n:=a.length+1) (x:=shL a bits i)
  have hi1:i<(zt (a.length+1) (shL a bits i)).length:=by omega
  have hget:(zt (a.length+1) (shL a bits i))[i]=shL a bits i/B^i:=by
   rw[vc,Nat.mod_eq_of_lt (Nat.lt_trans hc hpow)]
  obtain ⟨c,hcE⟩:∃ c,shL a bits i/B^i=c:=⟨_,rfl⟩
  obtain ⟨t,htE⟩:∃ t,a[i]*2^bits=t:=⟨_,rfl⟩
  have htlt:t<B*B:=by rw[← htE]; exact Nat.mul_lt_mul_of_lt_of_lt hak hpow
  rw[hcE,htE] at o1 o4 hstep
  rw[hcE] at hget hc
  obtain ⟨x,hxE⟩:∃ x,t%B=x:=⟨_,rfl⟩
  obtain ⟨q,hqE⟩:∃ q,t/B=q:=⟨_,rfl⟩
  rw[hxE] at o1 o4 hstep
  rw[hqE] at hstep
  have hxB:x<B:=by rw[← hxE]; exact Nat.mod_lt _ zU
  have hqB:q<B:=by rw[← hqE]; exact Nat.div_lt_of_lt_mul htlt
  have hor:=BB (c:=c) (x:=x) (by omega) hxB (by rw[o1]; exact o4)
  rw[o1] at hor
  obtain ⟨y,hyE⟩:∃ y,c+x=y:=⟨_,rfl⟩
  rw[hyE] at hor hstep
  have hBB:B*B=18446744073709551616:=by decide
  rw[hBB] at htlt
  have f1:IntKind.u32.wrap (t:Int)=(x:Int):=by rw[w32,hxE]
  have f2:(t:Int).fdiv (2^min 32 IntKind.u64.bits)=(q:Int):=by rw[cD,hqE]
  have f3:IntKind.u32.wrap (q:Int)=q:=IntWalk.u32_in _ (by rw[z5] at hqB; omega)
  have u1:IntKind.u64.wrap ((a[i]:Nat):Int)=(a[i]:Nat):=w64 (by rw[z5] at hak; omega)
  have hmin:min bits IntKind.u64.bits=bits:=by
   have:IntKind.u64.bits=64:=rfl
   omega
  have u2:IntKind.u64.wrap (((a[i]:Nat):Int)*2^bits)=(t:Int):=by
   rw[show ((a[i]:Nat):Int)*2^bits=((a[i]*2^bits:Nat):Int) by simp,htE]; exact w64 htlt
  have hset:((zE (zt (a.length+1) (shL a bits i))).set i [uv y]).set (i+1) [uv q]=zE (zt (a.length+1) (shL a bits (i+1))):=by
   rw[xa,xa,hstep]
  have wi:IntKind.i64.wrap ((i:Int)+1)=(i:Int)+1:=wrap64 (by omega) (by omega)
  have ei1:(i:Int)<a.length+1:=by omega
  have e2:((i:Int)+1).toNat=i+1:=by omega
  have e3:(0:Int)≤(i:Int)+1:=by omega
  have hi2:i+1<(zt (a.length+1) (shL a bits i)).length:=by omega
  have hnb:¬ ((bits:Int)<0):=by omega
  simp[tl,Zj,e,hi,hi1,hi2,ei1,e2,e3,hget,hor,u1,vE,wu,hmin,u2,f1,f2,f3,wi,splice,hset]
 ·have:zt (a.length+1) (shL a bits a.length)=zt (a.length+1) (val a*2^bits):=by rw[KE]
  simp[tl,Zj,mw,eh,this]
  exact h
def gK (w v1 k:Nat):Nat:=w/v1-k
def rK (w v1 k:Nat):Nat:=w%v1+k*v1
theorem Ji {w v1 k:Nat} (hk:k≤w/v1):w=gK w v1 k*v1+rK w v1 k:=by
 unfold gK rK
 have h:=Nat.div_add_mod w v1
 have:(w/v1-k)*v1+k*v1=v1*(w/v1):=by rw[← Nat.add_mul,Nat.sub_add_cancel hk,Nat.mul_comm]
 omega
structure dm (W v:List Nat) (off e:Nat):Prop where
 okW:ok W
 okv:ok v
 hv:v.length=e+2
 hW:off+e+3≤W.length
 small:W.length<1099511627776
def sX (W:List Nat) (off e:Nat):Nat:=W.getD (off+(e+2)) 0*B+W.getD (off+(e+1)) 0
def Zd (m:Am.Mode) (W v:List Nat) (σ:List (Nat × ze)) (out:List (List (Nat × AV))) (b j off e k:Nat):St :=
 {env:=[(0,.sl j 1 off (e+3)),(1,nl m v),(5,iv ((e:Int)+2)),(7,z7 (gK (sX W off e) (v.getD (e+1) 0) k)),(8,z7 (rK (sX W off e) (v.getD (e+1) 0) k))],sto:=σ,out:=out,base:=b}
theorem Mq {m:Am.Mode} {W v:List Nat} {σ:List (Nat × ze)} {out:List (List (Nat × AV))} {b j off e:Nat} {K:Exit→St→Prop} (h:dm W v off e) (hj:lk σ j=some (.arr 1 (zE W)))
  (h1:0<v.getD (e+1) 0) (hw:sX W off e≤v.getD (e+1) 0*B+(B-1)) (g:Nat) (hg:g=nX (sX W off e) (W.getD (off+e) 0) (v.getD (e+1) 0) (v.getD e 0))
  (hK:∀ r q y,(q=69∨q=81)→awp Tryz.prog w9 {env:=[(0,.sl j 1 off (e+3)),(1,nl m v),(5,iv ((e:Int)+2)),(7,z7 g),(8,r),(q,y)],sto:=σ,out:=out,base:=b} K) :
  awp Tryz.prog (.loop ws) (Zd m W v σ out b j off e 0) (wZ 0 (rX Tryz.prog w9 K)):=by
 have hvl:=h.hv
 have hWl:=h.hW
 have hsm:=h.small
 have hv0:e<v.length:=by omega
 have hv1:e+1<v.length:=by omega
 have hW0:off+e<W.length:=by omega
 have q1:v.getD (e+1) 0=v[e+1]:=by simp[hv1]
 have q2:v.getD e 0=v[e]:=by simp[hv0]
 have q3:W.getD (off+e) 0=W[off+e]:=by simp[hW0]
 have hu2:W.getD (off+e) 0<B:=vU h.okW _
 have hv2B:v.getD e 0<B:=vU h.okv _
 have hv1B:v.getD (e+1) 0<B:=vU h.okv _
 have hwB:sX W off e<B*B:=by
  have a1:=vU h.okW (off+(e+2))
  have a2:=vU h.okW (off+(e+1))
  have:(W.getD (off+(e+2)) 0+1)*B≤B*B:=Nat.mul_le_mul_right _ a1
  unfold sX
  rw[Nat.add_mul] at this
  omega
 generalize hwe:sX W off e=w at *
 generalize hv1e:v.getD (e+1) 0=v1 at *
 generalize hu2e:W.getD (off+e) 0=u2 at *
 generalize hv2e:v.getD e 0=v2 at *
 have hle:=abJ (w:=w) (v2:=v2) h1 hu2
 rw[← hg] at hle
 rw[show B*B=18446744073709551616 by decide] at hwB
 have hst:∀ k,Zd m W v σ out b j off e k={env:=[(0,.sl j 1 off (e+3)),(1,nl m v),(5,iv ((e:Int)+2)),(7,z7 (gK w v1 k)),(8,z7 (rK w v1 k))],sto:=σ,out:=out,base:=b}:=fun k=>by
  rw[Zd,hwe,hv1e]
 have i1:IntKind.i64.wrap ((e:Int))=e:=wrap64 (by omega) (by omega)
 have i2:IntKind.i64.wrap ((e:Int)+1)=(e:Int)+1:=wrap64 (by omega) (by omega)
 have i5:IntKind.i64.wrap ((e:Int)+2-1)=(e:Int)+1:=by rw[wrap64]<;>omega
 have i6:IntKind.i64.wrap ((e:Int)+2-2)=(e:Int):=by rw[wrap64]<;>omega
 have i3:((e:Int)+1).toNat=e+1:=by omega
 have i4:(0:Int)≤(e:Int)+1:=by omega
 have c1:IntKind.u64.wrap (v1:Int)=v1:=w64 (by rw[z5] at hv1B; omega)
 have c2:IntKind.u64.wrap (v2:Int)=v2:=w64 (by rw[z5] at hv2B; omega)
 have c3:IntKind.u64.wrap (u2:Int)=u2:=w64 (by rw[z5] at hu2; omega)
 have p1:v[e+1]=v1:=by rw[← q1]
 have p2:v[e]=v2:=by rw[← q2]
 have p3:W[off+e]=u2:=by rw[← q3]
 have x1:(e:Int)<v.length:=by omega
 have x2:(e:Int)+1<v.length:=by omega
 have x3:(e:Int)<(e:Int)+3:=by omega
 refine zl (Zd m W v σ out b j off e) (fun k=>rK w v1 k<B) (w/v1-g) (by rw[hst]; simp) ?_ (fun k hk hr=>?_) (fun hr=>?_)
 ·show rK w v1 0<B
  unfold rK
  rw[Nat.zero_mul,Nat.add_zero]
  exact Nat.lt_trans (Nat.mod_lt w h1) hv1B
 ·have hkw:k≤w/v1:=Nat.le_trans (Nat.le_of_lt hk) (Nat.sub_le _ _)
  have hkw2:k+1≤w/v1:=Nat.le_trans hk (Nat.sub_le _ _)
  have heq:=Ji (w:=w) (v1:=v1) (k:=k) hkw
  have hbig:=(cT (u2:=u2) (v2:=v2) h1 heq).2 (by rw[← hg]; unfold gK; omega)
  have hgk:gK w v1 (k+1)+1=gK w v1 k:=by unfold gK; omega
  have hrk:rK w v1 (k+1)=rK w v1 k+v1:=by unfold rK; rw[Nat.add_mul]; omega
  have heq2:=Ji (w:=w) (v1:=v1) (k:=k+1) (by omega)
  have hbrk:=fun hB=>Cd (u2:=u2) (v2:=v2) h1 heq2 hw hv2B hB
  have hgle:gK w v1 k≤w:=by
   have:w/v1≤w:=Nat.div_le_self _ _
   unfold gK; omega
  have hend:B≤rK w v1 (k+1)→gK w v1 (k+1)=g:=fun hB=>by
   have:=hbrk hB
   rw[cT h1 heq2,← hg] at this
   unfold gK at *
   omega
  rw[hst]
  have hgsub:IntKind.u64.wrap ((gK w v1 k:Int)-1)=(gK w v1 (k+1):Int):=by rw[vJ]<;>omega
  have hradd:IntKind.u64.wrap ((rK w v1 k:Int)+(v1:Int))=(rK w v1 (k+1):Int):=by
   rw[z5] at hr hv1B
   rw[vJ]<;>omega
  have rest:∀ K2,(∀ q y,(q=69∨q=81)→(¬ B≤rK w v1 (k+1)→K2 Exit.normal {env:=[(0,.sl j 1 off (e+3)),(1,nl m v),(5,iv ((e:Int)+2)),(7,z7 (gK w v1 (k+1))),(8,z7 (rK w v1 (k+1))),(q,y)],sto:=σ,out:=out,base:=b}) ∧
    (B≤rK w v1 (k+1)→K2 (Exit.exit 0) {env:=[(0,.sl j 1 off (e+3)),(1,nl m v),(5,iv ((e:Int)+2)),(7,z7 (gK w v1 (k+1))),(8,z7 (rK w v1 (k+1))),(q,y)],sto:=σ,out:=out,base:=b})) →
    awp Tryz.prog ws {env:=[(0,.sl j 1 off (e+3)),(1,nl m v),(5,iv ((e:Int)+2)),(7,z7 (gK w v1 k)),(8,z7 (rK w v1 k))],sto:=σ,out:=out,base:=b} K2:=by
   intro K2 hK2
   by_cases hB:B≤gK w v1 k
   ·have hB':(4294967296:Int)≤gK w v1 k:=by rw[z5] at hB; omega
    by_cases hBr:B≤rK w v1 (k+1)
    ·have hBr':(4294967296:Int)≤rK w v1 (k+1):=by rw[z5] at hBr; omega
     simp[ws,hB',hBr',hgsub,i5,i3,i4,x2,hv1,p1,c1,hradd]
     exact (hK2 _ _ (by simp)).2 hBr
    ·have hBr':¬ (4294967296:Int)≤rK w v1 (k+1):=by rw[z5] at hBr; omega
     simp[ws,hB',hBr',hgsub,i5,i3,i4,x2,hv1,p1,c1,hradd]
     exact (hK2 _ _ (by simp)).1 hBr
   ·have hB':¬ (4294967296:Int)≤gK w v1 k:=by rw[z5] at hB; omega
    have hlt:rK w v1 k*B+u2<gK w v1 k*v2:=hbig.resolve_left hB
    have hor:=or_hi hr hu2
    have hsh:=Qw hr
    have hpl:gK w v1 k*v2<18446744073709551616:=by
     have:gK w v1 k*v2≤(B-1)*(B-1):=Nat.mul_le_mul (by omega) (by omega)
     have:(B-1)*(B-1)<18446744073709551616:=by decide
     omega
    obtain ⟨p,hp⟩:∃ p,gK w v1 k*v2=p:=⟨_,rfl⟩
    obtain ⟨rb,hrb⟩:∃ rb,rK w v1 k*B=rb:=⟨_,rfl⟩
    rw[hp] at hlt hpl
    rw[hrb] at hlt hor hsh
    have hmul:IntKind.u64.wrap ((gK w v1 k:Int)*(v2:Int))=(p:Int):=by
     rw[show (gK w v1 k:Int)*(v2:Int)=((gK w v1 k*v2:Nat):Int) by simp,hp]; exact w64 hpl
    have hlt':(rb:Int)+(u2:Int)<(p:Int):=by omega
    simp only[Int.natCast_add] at hor
    by_cases hBr:B≤rK w v1 (k+1)
    ·have hBr':(4294967296:Int)≤rK w v1 (k+1):=by rw[z5] at hBr; omega
     simp[ws,hB',hBr',hgsub,i1,i5,i3,i4,x1,x2,x3,hv0,hv1,hW0,p1,p2,p3,c1,c2,c3,hj,hmul,vE,hsh,hor,hlt',hradd]
     exact (hK2 _ _ (by simp)).2 hBr
    ·have hBr':¬ (4294967296:Int)≤rK w v1 (k+1):=by rw[z5] at hBr; omega
     simp[ws,hB',hBr',hgsub,i1,i5,i3,i4,x1,x2,x3,hv0,hv1,hW0,p1,p2,p3,c1,c2,c3,hj,hmul,vE,hsh,hor,hlt',hradd]
     exact (hK2 _ _ (by simp)).1 hBr
  refine rest _ fun q y hq=>⟨fun hB=>?_,fun hB=>?_⟩
  ·rw[Zm,hst]
   refine ⟨by rcases hq with rfl | rfl<;>simp,by omega⟩
  ·have:=hend hB
   rw[this]
   exact hK _ _ _ hq
 ·have hgk:gK w v1 (w/v1-g)=g:=by unfold gK; omega
  have heq:=Ji (w:=w) (v1:=v1) (k:=w/v1-g) (by omega)
  have hnb:=fun hb=>(cT (u2:=u2) (v2:=v2) h1 heq).1 hb
  rw[hgk,← hg] at hnb
  have hB:¬ B≤g:=fun hb=>Nat.lt_irrefl _ (hnb (.inl hb))
  have hlt:¬ rK w v1 (w/v1-g)*B+u2<g*v2:=fun hb=>Nat.lt_irrefl _ (hnb (.inr hb))
  have hB':¬ (4294967296:Int)≤g:=by rw[z5] at hB; omega
  have hor:=or_hi hr hu2
  have hsh:=Qw hr
  have hst2:Zd m W v σ out b j off e (w/v1-g)={env:=[(0,.sl j 1 off (e+3)),(1,nl m v),(5,iv ((e:Int)+2)),(7,z7 g),(8,z7 (rK w v1 (w/v1-g)))],sto:=σ,out:=out,base:=b}:=by
   rw[hst,hgk]
  rw[hst2]
  clear hst2 heq
  generalize rK w v1 (w/v1-g)=r at *
  obtain ⟨p,hp⟩:∃ p,g*v2=p:=⟨_,rfl⟩
  obtain ⟨rb,hrb⟩:∃ rb,r*B=rb:=⟨_,rfl⟩
  have hpl:g*v2<18446744073709551616:=by
   have:g*v2≤(B-1)*(B-1):=Nat.mul_le_mul (by omega) (by omega)
   have:(B-1)*(B-1)<18446744073709551616:=by decide
   omega
  rw[hp] at hlt hpl
  rw[hrb] at hlt hor hsh
  have hmul:IntKind.u64.wrap ((g:Int)*(v2:Int))=(p:Int):=by
   rw[show (g:Int)*(v2:Int)=((g*v2:Nat):Int) by simp,hp]; exact w64 hpl
  have hlt':¬ (rb:Int)+(u2:Int)<(p:Int):=by omega
  simp only[Int.natCast_add] at hor
  simp[ws,hB',i1,x1,x3,hv0,hW0,p2,p3,c2,c3,hj,hmul,vE,hsh,hor,hlt']
  exact hK _ _ _ (by simp)
theorem aap {p:Nat} (hp:p<18446744073709551616):rt .and .u64 (p:Int) 4294967295=((p%B:Nat):Int):=by
 have hbits:IntKind.u64.bits=64:=rfl
 simp only[rt]
 rw[BitVec.toNat_and]
 have e1:(BitVec.ofInt IntKind.u64.bits (p:Int)).toNat=p:=by rw[hbits,BitVec.toNat_ofInt]; omega
 have e2:(BitVec.ofInt IntKind.u64.bits 4294967295).toNat=4294967295:=rfl
 rw[e1,e2]
 have h:=Nat.and_two_pow_sub_one_eq_mod p 32
 have:(2:Nat)^32-1=4294967295:=by decide
 rw[this] at h
 rw[h,show (2:Nat)^32=B from rfl]
 exact w64 (Nat.lt_trans (Nat.mod_lt _ zU) (by decide))
def cK (g:Nat) (v:List Nat) (k:Nat):Nat:=g*val (v.take k)/B^k
def Ze (m:Am.Mode) (W v u:List Nat) (σ:List (Nat × ze)) (out:List (List (Nat × AV))) (b j off e g x T k:Nat):St :=
 {env:=[(0,.sl j 1 off (e+3)),(1,nl m v),(5,iv ((e:Int)+2)),(7,z7 g),(9,z7 (cK g v k)),(10,z7 (bor x T k)),(82,iv ((e:Int)+2)),(83,iv k)],sto:=pt σ j (.arr 1 (zE (seg W off (yK (x-T) u k)))),out:=out,base:=b}
section
variable {m:Am.Mode} {W v:List Nat} {σ:List (Nat × ze)} {out:List (List (Nat × AV))} {b j off e g x:Nat} {K:Exit→St→Prop} (h:dm W v off e) (hj:lk σ j=some (.arr 1 (zE W)))
  (hg:g<B) (hx:∀ k,k<e+3→x/B^k%B=W.getD (off+k) 0) (hT:g*val v≤x)
include h hj hg hx hT
omit hj in
theorem Rh {s:St} (hs:mI s (Ze m W v ((W.drop off).take (e+3)) σ out b j off e g x (g*val v) 0))
  (hK:awp Tryz.prog tk {env:=[(0,.sl j 1 off (e+3)),(1,nl m v),(5,iv ((e:Int)+2)),(7,z7 g),(9,z7 (cK g v (e+2))),(10,z7 (bor x (g*val v) (e+2))),(82,iv ((e:Int)+2)),(83,iv ((e:Int)+2)),(84,bv false)],sto:=pt σ j (.arr 1 (zE (seg W off (yK (x-g*val v) ((W.drop off).take (e+3)) (e+2))))),out:=out,base:=b} K) :
  awp Tryz.prog (.loop nL) s (wZ 2 (rX Tryz.prog tk K)):=by
 have hvl:=h.hv
 have hWl:=h.hW
 have hsm:=h.small
 generalize hue:(W.drop off).take (e+3)=u at *
 have hul:u.length=e+3:=by rw[← hue]; simp; omega
 refine zl (Ze m W v u σ out b j off e g x (g*val v)) (fun _=>True) (e+2) hs trivial (fun k hk _=>?_) (fun _=>?_)
 ·have hkv:k<v.length:=by omega
  have hku:k<u.length:=by omega
  have hvB:=xA h.okv hkv
  have hWk:off+k<W.length:=by omega
  have huk:u[k]=W[off+k]:=by subst hue; simp
  have hq:W.getD (off+k) 0=W[off+k]:=by simp[hWk]
  have hukB:u[k]<B:=by rw[huk]; exact xA h.okW hWk
  have hcB:cK g v k<B:=aM h.okv hg k
  obtain ⟨m1,m2⟩:=abh (g:=g) hkv
  have hsd:=fH (k:=k) hT
  have hbs:=dw (x:=x) (y:=g*val v) (k:=k)
  have hb1:=X9 (x:=x) (y:=g*val v) (k:=k)
  rw[hx k (by omega),hq,← huk,m1] at hsd hbs
  have hck:cK g v (k+1)=(g*v[k]+cK g v k)/B:=m2
  change (((x-g*val v)/B^k%B:Nat):Int)=((u[k]:Nat)-((g*v[k]+cK g v k)%B:Nat)-(bor x (g*val v) k:Nat):Int)%4294967296 at hsd
  change bor x (g*val v) (k+1)=if u[k]<(g*v[k]+cK g v k)%B+bor x (g*val v) k then 1 else 0 at hbs
  have hpB:g*v[k]+cK g v k<18446744073709551616:=by
   have:=fm hg hvB hcB zU
   have hBB:B*B=18446744073709551616:=by decide
   omega
  have hmx:=cg (Z:=x-g*val v) hku
  have hml:=j9 (Z:=x-g*val v) (u:=u) (k:=k) (by omega)
  have hmg:=cf (Z:=x-g*val v) hku
  have hsl:=jp (W:=W) (X:=yK (x-g*val v) u k) (off:=off) (by rw[hml]; omega)
  have hsg:=Z3 (W:=W) (X:=yK (x-g*val v) u k) (off:=off) (i:=k) (by rw[hml]; omega) (by omega)
  have hss:=Z4 (W:=W) (X:=yK (x-g*val v) u k) (off:=off) (i:=k) (d:=(x-g*val v)/B^k%B) (by rw[hml]; omega) (by omega)
  rw[hmx] at hss
  rw[hmg] at hsg
  obtain ⟨d,hd⟩:∃ d,(x-g*val v)/B^k%B=d:=⟨_,rfl⟩
  rw[hd] at hss hsd
  obtain ⟨p,hp⟩:∃ p,g*v[k]+cK g v k=p:=⟨_,rfl⟩
  obtain ⟨gv,hgv⟩:∃ gv,g*v[k]=gv:=⟨_,rfl⟩
  rw[hp] at hsd hbs hck hpB
  rw[hgv] at hp
  obtain ⟨pl,hpl⟩:∃ pl,p%B=pl:=⟨_,rfl⟩
  rw[hpl] at hsd hbs
  have hplB:pl<B:=by rw[← hpl]; exact Nat.mod_lt _ zU
  obtain ⟨c2,hc2⟩:∃ c2,p/B=c2:=⟨_,rfl⟩
  rw[hc2] at hck
  rw[Ze]
  generalize bor x (g*val v) k=b0 at *
  generalize hb2:bor x (g*val v) (k+1)=b2 at *
  have hA:off+k<(seg W off (yK (x-g*val v) u k)).length:=by omega
  have hset:(zE (seg W off (yK (x-g*val v) u k))).set (off+k) [uv d]=zE (seg W off (yK (x-g*val v) u (k+1))):=by rw[xa,hss]
  have hst1:Ze m W v u σ out b j off e g x (g*val v) (k+1)={env:=[(0,.sl j 1 off (e+3)),(1,nl m v),(5,iv ((e:Int)+2)),(7,z7 g),(9,z7 c2),(10,z7 b2),(82,iv ((e:Int)+2)),(83,iv ((k:Int)+1))],sto:=pt σ j (.arr 1 (zE (seg W off (yK (x-g*val v) u (k+1))))),out:=out,base:=b}:=by
   rw[Ze,hck,hb2]; rfl
  clear hd
  generalize huk2:u[k]=uk at *
  have ek:(k:Int)<(e:Int)+2:=by omega
  have ekv:(k:Int)<v.length:=by omega
  have ek3:(k:Int)<(e:Int)+3:=by omega
  have u1:IntKind.u64.wrap ((v[k]:Nat):Int)=(v[k]:Nat):=w64 (Nat.lt_trans hvB (by decide))
  have u2:IntKind.u64.wrap ((g:Int)*(v[k]:Int))=(gv:Int):=by
   rw[show (g:Int)*(v[k]:Int)=((g*v[k]:Nat):Int) by simp,hgv]; exact w64 (by omega)
  have u3:IntKind.u64.wrap ((gv:Int)+(cK g v k:Int))=(p:Int):=by rw[vJ]<;>omega
  have u4:(p:Int).fdiv (2^min 32 IntKind.u64.bits)=(c2:Int):=by rw[cD,hc2]
  have u5:=aap hpB
  rw[hpl] at u5
  rw[z5] at hukB hplB
  have u6:IntKind.u64.wrap (uk:Int)=uk:=w64 (by omega)
  have u7:=AY ((uk:Int)-(pl:Int)) (b0:Int)
  have u8:=QA ((uk:Int)-(pl:Int)-(b0:Int))
  rw[← hsd] at u8
  have u9:=Qx (u:=(uk:Int)-(pl:Int)-(b0:Int)) (by omega) (by omega)
  have u10:(if (uk:Int)-(pl:Int)-(b0:Int)<0 then (1:Int) else 0)=(b2:Int):=by
   rw[hbs]; split<;>split<;>omega
  rw[u10] at u9
  have w1:IntKind.i64.wrap ((k:Int)+1)=(k:Int)+1:=wrap64 (by omega) (by omega)
  simp[nL,ek,ekv,ek3,hkv,u1,u2,u3,u4,u5,u6,u7,u8,u9,hA,hsg,splice,hset,w1,wu,hst1]
 ·simp[nL,Ze]
  exact hK
end
def XI (m:Am.Mode) (W v z:List Nat) (σ:List (Nat × ze)) (out:List (List (Nat × AV))) (b j off e g k:Nat):St :=
 {env:=[(0,.sl j 1 off (e+3)),(1,nl m v),(5,iv ((e:Int)+2)),(7,z7 g),(9,z7 (car z v k)),(134,iv ((e:Int)+2)),(135,iv k)],sto:=pt σ j (.arr 1 (zE (seg W off (yK (val z+val v) z k)))),out:=out,base:=b}
section
variable {m:Am.Mode} {W v z:List Nat} {σ:List (Nat × ze)} {out:List (List (Nat × AV))} {b j off e g:Nat} {K:Exit→St→Prop} (h:dm W v off e) (hz:ok z) (hzl:z.length=e+3)
include h hz hzl
theorem KZ {s:St} (hs:mI s (XI m W v z σ out b j off e g 0))
  (hK:awp Tryz.prog rE {env:=[(0,.sl j 1 off (e+3)),(1,nl m v),(5,iv ((e:Int)+2)),(7,z7 g),(9,z7 (car z v (e+2))),(134,iv ((e:Int)+2)),(135,iv ((e:Int)+2)),(136,bv false)],sto:=pt σ j (.arr 1 (zE (seg W off (yK (val z+val v) z (e+2))))),out:=out,base:=b} K) :
  awp Tryz.prog (.loop nM) s (wZ 4 (rX Tryz.prog rE K)):=by
 have hvl:=h.hv
 have hWl:=h.hW
 have hsm:=h.small
 refine zl (XI m W v z σ out b j off e g) (fun _=>True) (e+2) hs trivial (fun k hk _=>?_) (fun _=>?_)
 ·have hkv:k<v.length:=by omega
  have hkz:k<z.length:=by omega
  have hvB:=xA h.okv hkv
  have hzB:=xA hz hkz
  have hc:=Up hz h.okv k
  obtain ⟨t,ht,g1,g2⟩:=TO (a:=z) (b:=v) hkz (by omega)
  rw[List.getElem?_eq_getElem hkv,Option.getD_some] at ht
  have hmx:=cg (Z:=val z+val v) hkz
  have hml:=j9 (Z:=val z+val v) (u:=z) (k:=k) (by omega)
  have hmg:=cf (Z:=val z+val v) hkz
  have hsl:=jp (W:=W) (X:=yK (val z+val v) z k) (off:=off) (by rw[hml]; omega)
  have hsg:=Z3 (W:=W) (X:=yK (val z+val v) z k) (off:=off) (i:=k) (by rw[hml]; omega) (by omega)
  have hss:=Z4 (W:=W) (X:=yK (val z+val v) z k) (off:=off) (i:=k) (d:=(val z+val v)/B^k%B) (by rw[hml]; omega) (by omega)
  rw[hmx,g1] at hss
  rw[hmg] at hsg
  obtain ⟨d,hd⟩:∃ d,t%B=d:=⟨_,rfl⟩
  obtain ⟨q,hq⟩:∃ q,t/B=q:=⟨_,rfl⟩
  rw[hd] at hss
  rw[hq] at g2
  have hA:off+k<(seg W off (yK (val z+val v) z k)).length:=by omega
  have hset:(zE (seg W off (yK (val z+val v) z k))).set (off+k) [uv d]=zE (seg W off (yK (val z+val v) z (k+1))):=by rw[xa,hss]
  have hst1:XI m W v z σ out b j off e g (k+1)={env:=[(0,.sl j 1 off (e+3)),(1,nl m v),(5,iv ((e:Int)+2)),(7,z7 g),(9,z7 q),(134,iv ((e:Int)+2)),(135,iv ((k:Int)+1))],sto:=pt σ j (.arr 1 (zE (seg W off (yK (val z+val v) z (k+1))))),out:=out,base:=b}:=by
   rw[XI,g2]; rfl
  rw[XI]
  generalize car z v k=c at *
  generalize hzk:z[k]=zk at *
  generalize hvk:v[k]=vk at *
  rw[z5] at hvB hzB
  have ek:(k:Int)<(e:Int)+2:=by omega
  have ekv:(k:Int)<v.length:=by omega
  have ek3:(k:Int)<(e:Int)+3:=by omega
  have f1:IntKind.u32.wrap (t:Int)=(d:Int):=by rw[w32,hd]
  have f2:(t:Int).fdiv (2^min 32 IntKind.u64.bits)=(q:Int):=by rw[cD,hq]
  have u1:IntKind.u64.wrap (vk:Int)=vk:=w64 (by omega)
  have u2:IntKind.u64.wrap (zk:Int)=zk:=w64 (by omega)
  have u3:IntKind.u64.wrap ((zk:Int)+(vk:Int))=(zk:Int)+vk:=by rw[vJ]<;>omega
  have u4:IntKind.u64.wrap ((zk:Int)+(vk:Int)+(c:Int))=(t:Int):=by rw[vJ]<;>omega
  have w1:IntKind.i64.wrap ((k:Int)+1)=(k:Int)+1:=wrap64 (by omega) (by omega)
  simp[nM,ek,ekv,ek3,hkv,hvk,u1,u2,u3,u4,f1,f2,hA,hsg,splice,hset,w1,wu,hst1]
 ·simp[nM,XI]
  exact hK
theorem D6 (hg:0<g) (hgB:g<B):awp Tryz.prog rE {env:=[(0,.sl j 1 off (e+3)),(1,nl m v),(5,iv ((e:Int)+2)),(7,z7 g),(9,z7 (car z v (e+2))),(134,iv ((e:Int)+2)),(135,iv ((e:Int)+2)),(136,bv false)],sto:=pt σ j (.arr 1 (zE (seg W off (yK (val z+val v) z (e+2))))),out:=out,base:=b}
  (fun ex s=>ex=.ret∧s={env:=[(4,uv (g-1))],sto:=pt σ j (.arr 1 (zE (seg W off (zt (e+3) (val z+val v))))),out:=out,base:=b}):=by
 have hvl:=h.hv
 have hWl:=h.hW
 have hsm:=h.small
 have hkz:e+2<z.length:=by omega
 have hzB:=xA hz hkz
 have hc:=Up hz h.okv (e+2)
 obtain ⟨t,ht,g1,g2⟩:=TO (a:=z) (b:=v) hkz (by omega)
 rw[List.getElem?_eq_none (by omega),Option.getD_none] at ht
 have hmx:=cg (Z:=val z+val v) hkz
 have hml:=j9 (Z:=val z+val v) (u:=z) (k:=e+2) (by omega)
 have hmg:=cf (Z:=val z+val v) hkz
 have hsl:=jp (W:=W) (X:=yK (val z+val v) z (e+2)) (off:=off) (by rw[hml]; omega)
 have hsg:=Z3 (W:=W) (X:=yK (val z+val v) z (e+2)) (off:=off) (i:=e+2) (by rw[hml]; omega) (by omega)
 have hss:=Z4 (W:=W) (X:=yK (val z+val v) z (e+2)) (off:=off) (i:=e+2) (d:=(val z+val v)/B^(e+2)%B) (by rw[hml]; omega) (by omega)
 rw[hmx,g1,show e+2+1=e+3 from rfl,P0 hzl] at hss
 rw[hmg] at hsg
 obtain ⟨d,hd⟩:∃ d,t%B=d:=⟨_,rfl⟩
 rw[hd] at hss
 have hA:off+(e+2)<(seg W off (yK (val z+val v) z (e+2))).length:=by omega
 have hset:(zE (seg W off (yK (val z+val v) z (e+2)))).set (off+(e+2)) [uv d]=zE (seg W off (zt (e+3) (val z+val v))):=by rw[xa,hss]
 generalize car z v (e+2)=c at *
 generalize hzk:z[e+2]=zk at *
 have e1:((e:Int)+2).toNat=e+2:=by omega
 have e2:(0:Int)≤(e:Int)+2:=by omega
 have e3:(e:Int)+2<(e:Int)+3:=by omega
 have u1:IntKind.u32.wrap (c:Int)=c:=IntWalk.u32_in _ (by omega)
 have u2:IntKind.u32.wrap ((zk:Int)+(c:Int))=(d:Int):=by
  have:(zk:Int)+(c:Int)=(t:Int):=by omega
  rw[this,w32,hd]
 rw[z5] at hgB
 have u3:IntKind.u64.wrap ((g:Int)-1)=((g-1:Nat):Int):=by rw[vJ]<;>omega
 have u4:IntKind.u32.wrap ((g-1:Nat):Int)=((g-1:Nat):Int):=IntWalk.u32_in _ (by omega)
 simp[rE,e1,e2,e3,hA,hsg,u1,u2,u3,u4,splice,hset]
end
theorem UL {α:Type} {l:List (Nat × α)} {n:Nat} {x:α} (h:lk l n=some x):lk (pt l n x)=lk l:=by
 funext i
 rw[xO]
 split
 ·subst i; exact h.symm
 ·rfl
section
variable {m:Am.Mode} {W v:List Nat} {σ:List (Nat × ze)} {out:List (List (Nat × AV))} {b j off e g x:Nat} {K:Exit→St→Prop} (h:dm W v off e)
  (hg:g<B) (hx:∀ k,k<e+3→x/B^k%B=W.getD (off+k) 0) (hT:g*val v≤x) (hZ:x-g*val v<B^(e+3))
include h hg hx hT hZ
theorem K0 (hK0:bor x (g*val v) (e+3)=0→K .ret {env:=[(4,uv g)],sto:=pt σ j (.arr 1 (zE (seg W off (zt (e+3) (x-g*val v))))),out:=out,base:=b})
  (hK1:bor x (g*val v) (e+3)=1→0<g∧K .ret {env:=[(4,uv (g-1))],sto:=pt σ j (.arr 1 (zE (seg W off (zt (e+3) (x-g*val v+val v))))),out:=out,base:=b}) :
  awp Tryz.prog tk {env:=[(0,.sl j 1 off (e+3)),(1,nl m v),(5,iv ((e:Int)+2)),(7,z7 g),(9,z7 (cK g v (e+2))),(10,z7 (bor x (g*val v) (e+2))),(82,iv ((e:Int)+2)),(83,iv ((e:Int)+2)),(84,bv false)],sto:=pt σ j (.arr 1 (zE (seg W off (yK (x-g*val v) ((W.drop off).take (e+3)) (e+2))))),out:=out,base:=b} K:=by
 have hvl:=h.hv
 have hWl:=h.hW
 have hsm:=h.small
 generalize hue:(W.drop off).take (e+3)=u at *
 have hul:u.length=e+3:=by rw[← hue]; simp; omega
 have hku:e+2<u.length:=by omega
 have hWk:off+(e+2)<W.length:=by omega
 have huk:u[e+2]=W[off+(e+2)]:=by subst hue; simp
 have hq:W.getD (off+(e+2)) 0=W[off+(e+2)]:=by simp[hWk]
 have hukB:u[e+2]<B:=by rw[huk]; exact xA h.okW hWk
 have hcB:cK g v (e+2)<B:=aM h.okv hg (e+2)
 have hcT:g*val v/B^(e+2)%B=cK g v (e+2):=by
  have:cK g v (e+2)=g*val v/B^(e+2):=by unfold cK; rw[List.take_of_length_le (by omega)]
  rw[← this,Nat.mod_eq_of_lt hcB]
 have hsd:=fH (k:=e+2) hT
 have hbs:=dw (x:=x) (y:=g*val v) (k:=e+2)
 have hb1:=X9 (x:=x) (y:=g*val v) (k:=e+2)
 rw[hx (e+2) (by omega),hq,← huk,hcT] at hsd hbs
 have hmx:=cg (Z:=x-g*val v) hku
 rw[show e+2+1=e+3 from rfl,P0 hul] at hmx
 have hml:=j9 (Z:=x-g*val v) (u:=u) (k:=e+2) (by omega)
 have hmg:=cf (Z:=x-g*val v) hku
 have hsl:=jp (W:=W) (X:=yK (x-g*val v) u (e+2)) (off:=off) (by rw[hml]; omega)
 have hsg:=Z3 (W:=W) (X:=yK (x-g*val v) u (e+2)) (off:=off) (i:=e+2) (by rw[hml]; omega) (by omega)
 have hss:=Z4 (W:=W) (X:=yK (x-g*val v) u (e+2)) (off:=off) (i:=e+2) (d:=(x-g*val v)/B^(e+2)%B) (by rw[hml]; omega) (by omega)
 rw[hmx] at hss
 rw[hmg] at hsg
 obtain ⟨d,hd⟩:∃ d,(x-g*val v)/B^(e+2)%B=d:=⟨_,rfl⟩
 rw[hd] at hss hsd
 rw[show e+2+1=e+3 from rfl] at hbs
 have hA:off+(e+2)<(seg W off (yK (x-g*val v) u (e+2))).length:=by omega
 have hset:(zE (seg W off (yK (x-g*val v) u (e+2)))).set (off+(e+2)) [uv d]=zE (seg W off (zt (e+3) (x-g*val v))):=by rw[xa,hss]
 have hg0:bor x (g*val v) (e+3)=1→0<g:=fun h1=>by
  rcases Nat.eq_zero_or_pos g with h0 | h0
  ·exfalso
   rw[h0,Nat.zero_mul] at h1
   simp[bor] at h1
  ·exact h0
 generalize cK g v (e+2)=c at *
 generalize bor x (g*val v) (e+2)=b0 at *
 generalize hb2:bor x (g*val v) (e+3)=b2 at *
 generalize huk2:u[e+2]=uk at *
 clear hd
 have e1:((e:Int)+2).toNat=e+2:=by omega
 have e2:(0:Int)≤(e:Int)+2:=by omega
 have e3:(e:Int)+2<(e:Int)+3:=by omega
 rw[z5] at hukB hcB
 have u6:IntKind.u64.wrap (uk:Int)=uk:=w64 (by omega)
 have u7:=AY ((uk:Int)-(c:Int)) (b0:Int)
 have u8:=QA ((uk:Int)-(c:Int)-(b0:Int))
 have hsd':((d:Nat):Int)=((uk:Int)-(c:Int)-(b0:Int))%4294967296:=hsd
 rw[← hsd'] at u8
 have u9:=Qx (u:=(uk:Int)-(c:Int)-(b0:Int)) (by omega) (by omega)
 have u10:(if (uk:Int)-(c:Int)-(b0:Int)<0 then (1:Int) else 0)=(b2:Int):=by
  rw[hbs]; split<;>split<;>omega
 rw[u10] at u9
 have hgB:=hg
 rw[z5] at hgB
 have u11:IntKind.u32.wrap (g:Int)=(g:Int):=IntWalk.u32_in _ (by omega)
 have hb2v:b2=0∨b2=1:=by rw[hbs]; split<;>simp
 rcases hb2v with h0 | h0
 ·subst h0
  simp[tk,e1,e2,e3,hA,hsg,u6,u7,u8,u9,u11,wu,splice,hset]
  exact hK0 rfl
 ·subst h0
  obtain ⟨hgp,hfin⟩:=hK1 rfl
  simp[tk,e1,e2,e3,hA,hsg,u6,u7,u8,u9,wu,splice,hset]
  refine KZ (m:=m) (σ:=σ) (out:=out) (b:=b) (j:=j) (g:=g) h (yu (n:=e+3) (x:=x-g*val v)) zy ?_ ?_
  ·simp[XI,aK,YZ]
  ·refine xL (fun ex s hs=>?_) (D6 h (yu (n:=e+3) (x:=x-g*val v)) zy hgp hg)
   rw[yh hZ] at hs
   obtain ⟨rfl,rfl⟩:=hs
   exact hfin
theorem Rg (hj:lk σ j=some (.arr 1 (zE W))) {r y:AV} {q:Nat} (hq:q=69∨q=81) (hK0:bor x (g*val v) (e+3)=0→K .ret {env:=[(4,uv g)],sto:=pt σ j (.arr 1 (zE (seg W off (zt (e+3) (x-g*val v))))),out:=out,base:=b})
  (hK1:bor x (g*val v) (e+3)=1→0<g∧K .ret {env:=[(4,uv (g-1))],sto:=pt σ j (.arr 1 (zE (seg W off (zt (e+3) (x-g*val v+val v))))),out:=out,base:=b}) :
  awp Tryz.prog w9 {env:=[(0,.sl j 1 off (e+3)),(1,nl m v),(5,iv ((e:Int)+2)),(7,z7 g),(8,r),(q,y)],sto:=σ,out:=out,base:=b} K:=by
 have hl:=K0 (m:=m) (σ:=σ) (out:=out) (b:=b) (j:=j) h hg hx hT hZ hK0 hK1
 have hc0:cK g v 0=0:=by simp[cK,val]
 have hs:=Ab (W:=W) (off:=off) (n:=e+3) (by have:=h.hW; omega)
 rcases hq with rfl | rfl
 ·simp[w9]
  refine Rh h hg hx hT ?_ hl
  simp[Ze,aK,hs,hc0,dx]
  exact .inr (.inl (UL hj))
 ·simp[w9]
  refine Rh h hg hx hT ?_ hl
  simp[Ze,aK,hs,hc0,dx]
  exact .inr (.inl (UL hj))
end
theorem DO {v:List Nat} {e:Nat} (h:v.length=e+2):val v=(v.getD (e+1) 0*B+v.getD e 0)*B^e+val (v.take e):=by
 have h1:=vS v e
 have h2:v.drop e=[v[e],v[e+1]]:=by
  rw[List.drop_eq_getElem_cons (by omega),List.drop_eq_getElem_cons (by omega),List.drop_of_length_le (by omega)]
 rw[Nat.min_eq_left (by omega),h2] at h1
 have q1:v.getD (e+1) 0=v[e+1]:=by simp[h]
 have q2:v.getD e 0=v[e]:=by simp[h]
 rw[h1,q1,q2]
 simp only[val,Nat.mul_zero,Nat.add_zero]
 grind
theorem DP {u:List Nat} {e:Nat} (h:u.length=e+3):val u=((u.getD (e+2) 0*B+u.getD (e+1) 0)*B+u.getD e 0)*B^e+val (u.take e):=by
 have h1:=vS u e
 have h2:u.drop e=[u[e],u[e+1],u[e+2]]:=by
  rw[List.drop_eq_getElem_cons (by omega),List.drop_eq_getElem_cons (by omega),List.drop_eq_getElem_cons (by omega),List.drop_of_length_le (by omega)]
 rw[Nat.min_eq_left (by omega),h2] at h1
 have q0:u.getD (e+2) 0=u[e+2]:=by simp[h]
 have q1:u.getD (e+1) 0=u[e+1]:=by simp[h]
 have q2:u.getD e 0=u[e]:=by simp[h]
 rw[h1,q0,q1,q2]
 simp only[val,Nat.mul_zero,Nat.add_zero]
 grind
theorem aef {t v1 v2 u2 P Q R U V:Nat} (_hP:0<P) (hU:U=(t*B+u2)*P+R) (hV:V=(v1*B+v2)*P+Q) (hQ:Q<P) (hv2:v2<B) (hlt:U<V*B):t≤v1*B+(B-1):=by
 have a1:t*B*P≤U:=by
  rw[hU]
  have:t*B*P≤(t*B+u2)*P:=Nat.mul_le_mul_right _ (Nat.le_add_right _ _)
  exact Nat.le_trans this (Nat.le_add_right _ _)
 have a2:V≤(v1*B+B)*P:=by
  rw[hV]
  have h1:(v1*B+v2+1)*P≤(v1*B+B)*P:=Nat.mul_le_mul_right _ (by omega)
  rw[Nat.add_mul,Nat.one_mul] at h1
  exact Nat.le_trans (Nat.add_le_add_left (Nat.le_of_lt hQ) _) h1
 have a3:V*B≤(v1*B+B)*P*B:=Nat.mul_le_mul_right _ a2
 have a4:t*(P*B)<(v1*B+B)*(P*B):=by
  rw[← Nat.mul_assoc,← Nat.mul_assoc]
  rw[Nat.mul_assoc t,Nat.mul_comm B P,← Nat.mul_assoc] at a1
  exact Nat.lt_of_le_of_lt a1 (Nat.lt_of_lt_of_le hlt a3)
 have a5:=Nat.lt_of_mul_lt_mul_right a4
 have:=zU
 generalize v1*B=q at *
 omega
theorem aa2 {w v1:Nat}:gK w v1 0=w/v1:=Nat.sub_zero _
theorem abK {w v1:Nat}:rK w v1 0=w%v1:=by unfold rK; rw[Nat.zero_mul,Nat.add_zero]
theorem TF {a c:Nat} (ha:a<B) (hc:c<B):a*B+c<18446744073709551616:=by
 have:(a+1)*B≤B*B:=Nat.mul_le_mul_right _ ha
 have hBB:B*B=18446744073709551616:=by decide
 rw[Nat.add_mul,hBB,Nat.one_mul] at this
 exact Nat.lt_of_lt_of_le (Nat.add_lt_add_left hc _) this
theorem Cv {z n:Nat}:zt n (z+B^n)=zt n z:=Ri
theorem aaP {m:Am.Mode} {W v:List Nat} {σ:List (Nat × ze)} {out:List (List (Nat × AV))} {b j off e g U Q R:Nat} {K:Exit→St→Prop} (h:dm W v off e) (hg:g<B) (hj:lk σ j=some (.arr 1 (zE W)))
  {r y:AV} {q:Nat} (hq:q=69∨q=81) (hx:∀ k,k<e+3→U/B^k%B=W.getD (off+k) 0) (hUN:U<B^(e+3)) (hTN:g*val v<B^(e+3)) (hmod:val v*Q+R=U) (hR:R<val v) (hc:Q≤g∧g≤Q+1)
  (hK:∀ ex s,ex=.ret→s={env:=[(4,uv Q)],sto:=pt σ j (.arr 1 (zE (seg W off (zt (e+3) R)))),out:=out,base:=b}→K ex s) :
  awp Tryz.prog w9 {env:=[(0,.sl j 1 off (e+3)),(1,nl m v),(5,iv ((e:Int)+2)),(7,z7 g),(8,r),(q,y)],sto:=σ,out:=out,base:=b} K:=by
 rcases Nat.lt_or_ge U (g*val v) with hlt | hle
 ·have hgQ:g=Q+1:=by
   rcases Nat.lt_or_ge Q g with h1 | h1
   ·omega
   ·exfalso
    have:g*val v≤Q*val v:=Nat.mul_le_mul_right _ h1
    rw[Nat.mul_comm] at hmod
    omega
  subst hgQ
  have hz:U+B^(e+3)-(Q+1)*val v+val v=R+B^(e+3):=by
   rw[Nat.add_mul,Nat.one_mul] at *
   rw[Nat.mul_comm] at hmod
   omega
  refine Rg (x:=U+B^(e+3)) h hg (fun k hk=>?_) (by omega) (by omega) hj hq (fun h0=>?_) (fun _=>⟨by omega,?_⟩)
  ·rw[G4 hk]; exact hx k hk
  ·exfalso
   simp only[bor,Nat.add_mod_right,Nat.mod_eq_of_lt hUN,Nat.mod_eq_of_lt hTN,if_pos hlt] at h0
   exact absurd h0 (by decide)
  ·refine hK _ _ rfl ?_
   rw[hz,Cv,Nat.add_sub_cancel]
 ·have hgQ:g=Q:=by
   rcases Nat.lt_or_ge Q g with h1 | h1
   ·exfalso
    have:(Q+1)*val v≤g*val v:=Nat.mul_le_mul_right _ h1
    rw[Nat.add_mul,Nat.one_mul] at this
    rw[Nat.mul_comm] at hmod
    omega
   ·omega
  subst hgQ
  have hz:U-g*val v=R:=by
   rw[Nat.mul_comm] at hmod
   omega
  refine Rg (x:=U) h hg hx hle (by omega) hj hq (fun _=>?_) (fun h1=>?_)
  ·exact hK _ _ rfl (by rw[hz])
  ·exfalso
   simp only[bor,Nat.mod_eq_of_lt hUN,Nat.mod_eq_of_lt hTN,if_neg (Nat.not_lt.mpr hle)] at h1
   exact absurd h1 (by decide)
theorem ade {m:Am.Mode} {W v:List Nat} {s:St} {K:AV→St→Prop} (b:Nat) {j off e U:Nat} (h:dm W v off e) (hj:lk s.sto j=some (.arr 1 (zE W)))
  (h1:0<v.getD (e+1) 0) (hU:U=val ((W.drop off).take (e+3))) (hlt:U<val v*B)
  (hK:K (uv (U/val v)) ⟨s.env,pt s.sto j (.arr 1 (zE (seg W off (zt (e+3) (U%val v))))),s.out,s.base⟩):yc Tryz.prog bF [.sl j 1 off (e+3),nl m v] s K:=by
 obtain ⟨env,σ,out,base⟩:=s
 simp only at hj hK
 have hvl:=h.hv
 have hWl:=h.hW
 have hsm:=h.small
 have hul:((W.drop off).take (e+3)).length=e+3:=by simp; omega
 have hug:∀ k,k<e+3→((W.drop off).take (e+3)).getD k 0=W.getD (off+k) 0:=fun k hk=>by
  simp[List.getD,hk]
 have hvV:=DO hvl
 have huU:=DP hul
 rw[← hU,hug _ (by omega),hug _ (by omega),hug _ (by omega)] at huU
 have okv2:ok ((W.drop off).take (e+3)):=ut (Si h.okW off) _
 have hv2:v.getD e 0<B:=vU h.okv _
 have hu2:W.getD (off+e) 0<B:=vU h.okW _
 have hQ:val (v.take e)<B^e:=yS (ut h.okv e) (by simp; omega)
 have hR:val (((W.drop off).take (e+3)).take e)<B^e:=yS (ut okv2 e) (by simp; omega)
 have hclose:=JI (w:=sX W off e) h1 hu2 hv2 huU hR hvV hQ hlt
 have hw:sX W off e≤v.getD (e+1) 0*B+(B-1):=by
  exact aef (Nat.pow_pos zU) huU hvV hQ hv2 hlt
 have hv1:e+1<v.length:=by omega
 have hWa:off+(e+2)<W.length:=by omega
 have hWb:off+(e+1)<W.length:=by omega
 refine vA b DB (by simp) ?_
 have p1:v.getD (e+1) 0=v[e+1]:=by simp[hv1]
 have p2:W.getD (off+(e+2)) 0=W[off+(e+2)]:=by simp[hWa]
 have p3:W.getD (off+(e+1)) 0=W[off+(e+1)]:=by simp[hWb]
 have b1:v[e+1]<B:=xA h.okv hv1
 have b2:W[off+(e+2)]<B:=xA h.okW hWa
 have b3:W[off+(e+1)]<B:=xA h.okW hWb
 have hsh:=Qw b2
 have hwe:sX W off e=W[off+(e+2)]*B+W[off+(e+1)]:=by rw[sX,p2,p3]
 have hor:rt .or .u64 ((W[off+(e+2)]*B:Nat):Int) (W[off+(e+1)]:Int)=((sX W off e:Nat):Int):=by rw[hwe]; exact or_hi b2 b3
 have hwB:sX W off e<18446744073709551616:=by rw[hwe]; exact TF b2 b3
 have fin:∀ K2:Exit→St→Prop,(∀ ex s,ex=.ret→s={env:=[(4,uv (U/val v))],sto:=pt σ j (.arr 1 (zE (seg W off (zt (e+3) (U%val v))))),out:=env::out,base:=b}→K2 ex s) →
   awp Tryz.prog (.loop ws) (Zd m W v σ (env::out) b j off e 0) (wZ 0 (rX Tryz.prog w9 K2)):=by
  intro K2 hK2
  have hw3:∀ k,k<e+3→U/B^k%B=W.getD (off+k) 0:=fun k hk=>by
   have hd:=ah okv2
   rw[hul,← hU] at hd
   have h2:k<(zt (e+3) U).length:=by rw[zy]; exact hk
   rw[← vc h2,← hug k hk,← hd]
   simp[List.getD,h2]
  have hUN:U<B^(e+3):=by rw[hU]; exact yS okv2 (Nat.le_of_eq hul)
  have hVpos:0<val v:=by
   have hpp:=Nat.pow_pos (n:=e) zU
   rw[hvV]
   exact Nat.lt_of_lt_of_le (Nat.mul_pos (Nat.lt_of_lt_of_le (Nat.mul_pos h1 zU) (Nat.le_add_right _ _)) hpp) (Nat.le_add_right _ _)
  have hgB:nX (sX W off e) (W.getD (off+e) 0) (v.getD (e+1) 0) (v.getD e 0)<B:=Nat.lt_of_le_of_lt (Nat.min_le_left _ _) (by decide)
  refine Mq h hj h1 hw _ rfl fun r q y hq=>?_
  generalize nX (sX W off e) (W.getD (off+e) 0) (v.getD (e+1) 0) (v.getD e 0)=g at *
  have hmod:val v*(U/val v)+U%val v=U:=Nat.div_add_mod U (val v)
  have hml:=Nat.mod_lt U hVpos
  have hVN:val v<B^(e+2):=yS h.okv (Nat.le_of_eq hvl)
  have hTN:g*val v<B^(e+3):=by
   rw[show e+3=(e+2)+1 from rfl,Nat.pow_succ,Nat.mul_comm]
   exact Nat.mul_lt_mul_of_lt_of_lt hVN hgB
  exact aaP h hgB hj hq hw3 hUN hTN hmod hml hclose hK2
 have st0:Zd m W v σ (env::out) b j off e 0={env:=[(0,.sl j 1 off (e+3)),(1,nl m v),(5,iv ((e:Int)+2)),(7,z7 (sX W off e/v.getD (e+1) 0)),(8,z7 (sX W off e%v.getD (e+1) 0))],sto:=σ,out:=env::out,base:=b}:=by
  rw[Zd,aa2,abK]
 rw[st0] at fin
 clear hwe
 clear st0 hclose hw huU hvV
 obtain ⟨rb,hrb⟩:∃ rb,W[off+(e+2)]*B=rb:=⟨_,rfl⟩
 rw[hrb] at hor hsh
 generalize sX W off e=w at *
 rw[p1] at fin h1
 generalize g1:v[e+1]=v1 at *
 generalize g2:W[off+(e+2)]=w3 at *
 generalize g3:W[off+(e+1)]=w2 at *
 have t1:IntKind.u64.wrap ((w:Int).tdiv v1)=((w/v1:Nat):Int):=by
  rw[← Int.ofNat_tdiv]
  exact w64 (Nat.lt_of_le_of_lt (Nat.div_le_self _ _) hwB)
 have t2:((w:Int).tmod v1)=((w%v1:Nat):Int):=by rw[← Int.ofNat_tmod]
 have t3:IntKind.u64.wrap ((w:Int)/v1)=((w/v1:Nat):Int):=by
  rw[← Int.natCast_ediv]
  exact w64 (Nat.lt_of_le_of_lt (Nat.div_le_self _ _) hwB)
 generalize w/v1=q at *
 generalize w%v1=r at *
 have hv10:¬ v1=0:=by omega
 have c0:(e:Int)+2<(e:Int)+3:=by omega
 have c1:((e:Int)+2).toNat=e+2:=by omega
 have c2:((e:Int)+1).toNat=e+1:=by omega
 have c3:(0:Int)≤(e:Int)+2:=by omega
 have c4:(0:Int)≤(e:Int)+1:=by omega
 have c5:(e:Int)+1<(e:Int)+3:=by omega
 have i5:IntKind.i64.wrap ((e:Int)+2-1)=(e:Int)+1:=by rw[wrap64]<;>omega
 have hlen:(v.length:Int)=(e:Int)+2:=by omega
 rw[z5] at b1 b2 b3
 have u1:IntKind.u64.wrap (v1:Int)=v1:=w64 (by omega)
 have u2:IntKind.u64.wrap (w3:Int)=w3:=w64 (by omega)
 have u3:IntKind.u64.wrap (w2:Int)=w2:=w64 (by omega)
 simp[S7,hj,g1,g2,g3,c0,c1,c2,c3,c4,c5,i5,hlen,u1,u2,u3,hWa,hWb,hv1,hv10,vE,hsh,hor,vD,rL,t2,t3]
 refine fin _ fun ex s he hs=>?_
 subst he hs
 simp[RJ]
 exact hK
end Go.Proofs.YtfmcplfbnkoglaaGreat

namespace Go.Dig
def lz (t:Nat):Nat:=31-Nat.log2 t
theorem Qt {t:Nat}:lz t<32:=by unfold lz; omega
theorem adC {t:Nat} (ht:t<B):Nat.log2 t<32:=by
 rcases Nat.eq_zero_or_pos t with h | h
 ·subst h; decide
 ·exact (Nat.log2_lt (by omega)).2 ht
theorem C7 {t k:Nat} (_ht:t<B) (hk:k<lz t):t*2^k<2147483648:=by
 have h1:t<2^(Nat.log2 t+1):=Nat.lt_log2_self
 have h2:t*2^k<2^(Nat.log2 t+1)*2^k:=Nat.mul_lt_mul_of_pos_right h1 (Nat.pow_pos (by omega))
 rw[← Nat.pow_add] at h2
 have h3:2^(Nat.log2 t+1+k)≤2^31:=Nat.pow_le_pow_right (by omega) (by unfold lz at hk; omega)
 have h4:(2:Nat)^31=2147483648:=by decide
 omega
theorem PY {t:Nat} (h0:0<t) (ht:t<B):2147483648≤t*2^lz t∧t*2^lz t<B:=by
 have hl:=adC ht
 constructor
 ·have h1:2^Nat.log2 t≤t:=Nat.log2_self_le (by omega)
  have h2:2^Nat.log2 t*2^lz t≤t*2^lz t:=Nat.mul_le_mul_right _ h1
  rw[← Nat.pow_add,show Nat.log2 t+lz t=31 by unfold lz; omega] at h2
  have h4:(2:Nat)^31=2147483648:=by decide
  omega
 ·have h1:t<2^(Nat.log2 t+1):=Nat.lt_log2_self
  have h2:t*2^lz t<2^(Nat.log2 t+1)*2^lz t:=Nat.mul_lt_mul_of_pos_right h1 (Nat.pow_pos (by omega))
  rw[← Nat.pow_add,show Nat.log2 t+1+lz t=32 by unfold lz; omega] at h2
  exact h2
theorem Mr {x n:Nat} (h1:B^n≤x) (h2:x<B^(n+1)):(zf x).length=n+1:=by
 have a:=zG.2 h2
 have b:=f9.2 h1
 omega
theorem fK {D n:Nat} (h:(zf D).length=n+1):B^n≤D∧D<B^(n+1)∧0<D/B^n∧D/B^n<B:=by
 have a:B^n≤D:=f9.1 (by omega)
 have b:D<B^(n+1):=zG.1 (by omega)
 refine ⟨a,b,Nat.div_pos a (vd n),Nat.div_lt_of_lt_mul ?_⟩
 rw[← Nat.pow_succ]; exact b
theorem EX {D n N:Nat} (h:(zf D).length=n+1) (hN:N=lz (D/B^n)):B^n≤D*2^N∧D*2^N<B^(n+1)∧(zf (D*2^N)).length=n+1:=by
 obtain ⟨a,b,c,d⟩:=fK h
 have hl:=(PY c d).2
 rw[← hN] at hl
 have hN32:N<32:=by rw[hN]; exact Qt
 have hB:B=2^(32-N)*2^N:=by
  rw[← Nat.pow_add,Nat.sub_add_cancel (by omega)]; rfl
 have h1:D/B^n+1≤2^(32-N):=by
  have h0:=hl
  generalize D/B^n=t at *
  rw[hB] at h0
  exact Nat.lt_of_mul_lt_mul_right h0
 have h2:D<(D/B^n+1)*B^n:=by
  have:=Nat.lt_mul_div_succ D (vd n)
  rw[Nat.mul_comm] at this
  exact this
 have h3:D<2^(32-N)*B^n:=Nat.lt_of_lt_of_le h2 (Nat.mul_le_mul_right _ h1)
 have h4:D*2^N<2^(32-N)*B^n*2^N:=Nat.mul_lt_mul_of_pos_right h3 (Nat.pow_pos (by omega))
 have h5:2^(32-N)*B^n*2^N=B^(n+1):=by
  rw[Nat.mul_right_comm,← hB,Nat.pow_succ,Nat.mul_comm]
 have h6:B^n≤D*2^N:=Nat.le_trans a (Nat.le_mul_of_pos_right _ (Nat.pow_pos (by omega)))
 rw[h5] at h4
 exact ⟨h6,h4,Mr h6 h4⟩
def rst (A V j:Nat):Nat:=A/B^j%V*B^j+A%B^j
theorem U7 {A V j n:Nat} (hV:V<B^n) (h0:0<V):rst A V j<B^(j+n):=by
 have h1:A/B^j%V+1≤B^n:=Nat.le_trans (Nat.mod_lt _ h0) (Nat.le_of_lt hV)
 have h2:(A/B^j%V+1)*B^j≤B^n*B^j:=Nat.mul_le_mul_right _ h1
 have h3:A%B^j<B^j:=Nat.mod_lt _ (vd j)
 have h4:B^(j+n)=B^n*B^j:=by rw[Nat.pow_add,Nat.mul_comm]
 unfold rst
 rw[h4]
 rw[Nat.add_mul,Nat.one_mul] at h2
 omega
theorem B4 {A V:Nat}:rst A V 0=A%V:=by simp[rst,Nat.mod_one]
theorem abY {A V j:Nat} (h:A/B^j<V):rst A V j=A:=by
 unfold rst
 rw[Nat.mod_eq_of_lt h,Nat.mul_comm]
 exact Nat.div_add_mod A (B^j)
theorem abW {A V j:Nat}:rst A V j%B^j=A%B^j:=by
 unfold rst
 rw[Nat.add_comm,Nat.add_mul_mod_self_right,Nat.mod_mod]
theorem abX {A V j:Nat}:rst A V (j+1)/B^j=A/B^j/B%V*B+A/B^j%B:=by
 unfold rst
 rw[show A/B^(j+1)=A/B^j/B by rw[Nat.pow_succ,Nat.div_div_eq_div_mul]]
 have h1:A%B^(j+1)=A%B^j+B^j*(A/B^j%B):=by rw[Nat.pow_succ,Nat.mod_mul]
 rw[h1,Nat.pow_succ]
 have h2:A/B^j/B%V*(B^j*B)+(A%B^j+B^j*(A/B^j%B))=A%B^j+(A/B^j/B%V*B+A/B^j%B)*B^j:=by grind
 rw[h2,Nat.add_mul_div_right _ _ (vd j),Nat.div_eq_of_lt (Nat.mod_lt _ (vd j)),Nat.zero_add]
theorem B3 {A V j L n:Nat} (hV:V<B^n) (h0:0<V) (hL:j+n+1≤L):seg (zt L (rst A V (j+1))) j (zt (n+1) (A/B^j%V))=zt L (rst A V j):=by
 have hlen:j+(zt (n+1) (A/B^j%V)).length≤(zt L (rst A V (j+1))).length:=by rw[zy,zy]; omega
 have hlt1:=U7 (A:=A) (j:=j+1) hV h0
 have hlt0:=U7 (A:=A) (j:=j) hV h0
 have hle:B^(j+1+n)≤B^L:=Nat.pow_le_pow_right zU (by omega)
 have hle0:B^(j+n)≤B^L:=Nat.pow_le_pow_right zU (by omega)
 have hL1:rst A V (j+1)<B^L:=Nat.lt_of_lt_of_le hlt1 hle
 have o1:ok (zt L (rst A V (j+1))):=yu
 refine Ye ?_ yu (by rw[jp hlen,zy,zy]) ?_
 ·unfold seg
  exact aQ.2 ⟨aQ.2 ⟨ut o1 _,yu⟩,Si o1 _⟩
 ·unfold seg
  rw[val_append,val_append,Me o1 (by rw[zy]; omega),XU o1 (by rw[zy,zy]; omega),yh hL1,yh (Nat.lt_of_lt_of_le hlt0 hle0)]
  have hz:rst A V (j+1)/B^(j+(zt (n+1) (A/B^j%V)).length)=0:=by
   rw[zy]
   exact Nat.div_eq_of_lt (by rw[show j+(n+1)=j+1+n by omega]; exact hlt1)
  have hl:(List.take j (zt L (rst A V (j+1)))).length=j:=by simp[zy]; omega
  have hx:A/B^j%V<B^(n+1):=Nat.lt_trans (Nat.lt_trans (Nat.mod_lt _ h0) hV) (Nat.pow_lt_pow_right (by decide) (by omega))
  rw[hz,hl,yh hx,Nat.mul_zero,Nat.add_zero]
  have h1:rst A V (j+1)%B^j=A%B^j:=by
   have h2:rst A V (j+1)%B^(j+1)%B^j=A%B^(j+1)%B^j:=by rw[abW]
   rw[Nat.mod_mod_of_dvd _ (Nat.pow_dvd_pow B (by omega)),Nat.mod_mod_of_dvd _ (Nat.pow_dvd_pow B (by omega))] at h2
   exact h2
  rw[h1]
  unfold rst
  rw[Nat.mul_comm,Nat.add_comm]
theorem ES {A V j:Nat} (h0:0<V):(rst A V (j+1)/B^j)/V=A/V/B^j%B∧(rst A V (j+1)/B^j)%V=A/B^j%V∧rst A V (j+1)/B^j<V*B:=by
 obtain ⟨s1,s2,s3⟩:=Tf (A:=A/B^j) h0
 rw[abX]
 refine ⟨?_,s2,s3⟩
 rw[s1,Nat.div_div_eq_div_mul,Nat.div_div_eq_div_mul,Nat.mul_comm]
theorem EZ {X N i:Nat} (hN:N<32):(X/2^N)/B^i%B=(X/B^i%B)/2^N+(X/B^(i+1)%B)*2^(32-N)%B ∧
  (X/B^i%B)/2^N ||| (X/B^(i+1)%B)*2^(32-N)%B=(X/B^i%B)/2^N+(X/B^(i+1)%B)*2^(32-N)%B:=by
 have hB:B=2^(32-N)*2^N:=by
  rw[← Nat.pow_add,Nat.sub_add_cancel (by omega)]; rfl
 have hP:0<2^N:=Nat.pow_pos (by omega)
 have hM:0<2^(32-N):=Nat.pow_pos (by omega)
 rw[show X/2^N/B^i=X/B^i/2^N by rw[Nat.div_div_eq_div_mul,Nat.div_div_eq_div_mul,Nat.mul_comm],show X/B^(i+1)=X/B^i/B by rw[Nat.pow_succ,Nat.div_div_eq_div_mul]]
 generalize X/B^i=Y
 have hx:Y%B/2^N<2^(32-N):=by
  apply Nat.div_lt_of_lt_mul
  rw[Nat.mul_comm,← hB]; exact Nat.mod_lt _ zU
 have hc:∀ q,q*2^(32-N)%B=(q%2^N)*2^(32-N):=fun q=>by
  have h:=Nat.mul_mod_mul_right (2^(32-N)) q (2^N)
  rw[Nat.mul_comm (2^N) (2^(32-N)),← hB] at h
  exact h
 have hY:Y/2^N=Y/B*2^(32-N)+Y%B/2^N:=by
  have h1:Y=Y%B+2^N*(Y/B*2^(32-N)):=by
   have h2:=Nat.mod_add_div Y B
   have h3:2^N*(Y/B*2^(32-N))=B*(Y/B):=by
    have:2^N*(Y/B*2^(32-N))=2^(32-N)*2^N*(Y/B):=by
     generalize Y/B=z
     generalize (2:Nat)^N=p
     generalize (2:Nat)^(32-N)=m
     grind
    rw[this,← hB]
   rw[h3]; exact h2.symm
  have h4:Y/2^N=(Y%B+2^N*(Y/B*2^(32-N)))/2^N:=by rw[← h1]
  rw[h4,Nat.add_mul_div_left _ _ hP,Nat.add_comm]
 have hd:2^N ∣ B:=⟨2^(32-N),by rw[hB,Nat.mul_comm]⟩
 rw[hY,hc (Y/B%B),Nat.mod_mod_of_dvd _ hd]
 generalize hq:Y/B%2^N=a
 have ha:a<2^N:=by rw[← hq]; exact Nat.mod_lt _ hP
 generalize Y%B/2^N=c at *
 have hlt:a*2^(32-N)+c<B:=by
  have h1:(a+1)*2^(32-N)≤2^N*2^(32-N):=Nat.mul_le_mul_right _ ha
  rw[Nat.mul_comm (2^N),← hB,Nat.add_mul,Nat.one_mul] at h1
  omega
 constructor
 ·have h2:=hc (Y/B)
  rw[hq] at h2
  rw[Nat.add_mod,h2,Nat.mod_eq_of_lt (a:=c) (by omega),Nat.mod_eq_of_lt hlt,Nat.add_comm]
 ·have h:=Nat.two_pow_add_eq_or_of_lt hx a
  rw[Nat.or_comm,Nat.mul_comm a,← h,Nat.add_comm]
structure Qo (A D n m N X V:Nat):Prop where
 N32:N<32
 X_eq:X=A*2^N
 V_eq:V=D*2^N
 Xlt:X<B^(n+2+m+1)
 Vlen:(zf V).length=n+2
 Vpos:0<V
 Vlt:V<B^(n+2)
 top:X/B^(m+1)<V
 q:X/V=A/D
 r:X%V=(A%D)*2^N
 vtop:0<(zf V).getD (n+1) 0
theorem aeH {A D n m:Nat} (hA:(zf A).length=n+2+m) (hD:(zf D).length=n+2):Qo A D n m (lz (D/B^(n+1))) (A*2^lz (D/B^(n+1))) (D*2^lz (D/B^(n+1))):=by
 have hN32:lz (D/B^(n+1))<32:=Qt
 obtain ⟨h1,h2,h3⟩:=EX (n:=n+1) hD rfl
 obtain ⟨h4,h5,h6,h7⟩:=fK (n:=n+1) hD
 have hP:0<2^lz (D/B^(n+1)):=Nat.pow_pos (by omega)
 have hAlt:A<B^(n+2+m):=zG.1 (Nat.le_of_eq hA)
 generalize lz (D/B^(n+1))=N at *
 obtain ⟨k1,k2,k3,k4⟩:=fK (n:=n+1) h3
 refine ⟨hN32,rfl,rfl,?_,h3,Nat.lt_of_lt_of_le (vd _) h1,h2,?_,Nat.mul_div_mul_right _ _ hP,Nat.mul_mod_mul_right _ _ _,?_⟩
 ·have:2^N≤B:=Nat.le_of_lt (ge hN32)
  rw[Nat.pow_succ]
  exact Nat.lt_of_lt_of_le (Nat.mul_lt_mul_of_pos_right hAlt hP) (Nat.mul_le_mul_left _ this)
 ·apply Nat.div_lt_of_lt_mul
  have a1:A*2^N<B^(n+2+m)*2^N:=Nat.mul_lt_mul_of_pos_right hAlt hP
  have a2:B^(n+1)*2^N≤D*2^N:=Nat.mul_le_mul_right _ h4
  have a3:B^(m+1)*(B^(n+1)*2^N)≤B^(m+1)*(D*2^N):=Nat.mul_le_mul_left _ a2
  have a4:B^(n+2+m)=B^(m+1)*B^(n+1):=by rw[← Nat.pow_add]; congr 1; omega
  rw[a4,Nat.mul_assoc] at a1
  exact Nat.lt_of_lt_of_le a1 a3
 ·have hl:n+1<(zf (D*2^N)).length:=by rw[h3]; omega
  have:(zf (D*2^N)).getD (n+1) 0=D*2^N/B^(n+1):=by
   rw[List.getD_eq_getElem?_getD,List.getElem?_eq_getElem hl,Option.getD_some,pO,Nat.mod_eq_of_lt k4]
  rw[this]
  exact k3
theorem abZ {A V j n L:Nat} (hV:V<B^n) (h0:0<V) (hL:j+n+1≤L):rst A V (j+1)/B^j=val (((zt L (rst A V (j+1))).drop j).take (n+1)):=by
 have o1:ok (zt L (rst A V (j+1))):=yu
 have hlt1:=U7 (A:=A) (j:=j+1) hV h0
 have hL1:rst A V (j+1)<B^L:=Nat.lt_of_lt_of_le hlt1 (Nat.pow_le_pow_right zU (by omega))
 have hlen:n+1≤((zt L (rst A V (j+1))).drop j).length:=by rw[List.length_drop,zy]; omega
 rw[Me (Si o1 _) hlen,XU o1 (by rw[zy]; omega),yh hL1,Nat.mod_eq_of_lt]
 apply Nat.div_lt_of_lt_mul
 rw[← Nat.pow_add,show j+(n+1)=j+1+n by omega]
 exact hlt1
end Go.Dig

namespace Go.Proofs.YtfmcplfbnkoglaaGreat
open Go Go.Am Go.Dig
def Z6 (A D k:Nat):St:={env:=[(0,nD A),(1,nD D),(9,z7 k)],sto:=[]}
abbrev dP (A D:Nat):AV:=AV.tuple [nD (A/D),nD (A%D),iv 0]
theorem PH {x1 x2 x3 y1 y2 y3:AV} (h1:AV.imp x1 y1) (h2:AV.imp x2 y2) (h3:AV.imp x3 y3):AV.imp (.tuple [x1,x2,x3]) (.tuple [y1,y2,y3]):=fun I w v hv=>by
 cases hv with
 | tuple cells vs hs hc =>
  refine .tuple _ _ (by simpa using hs) fun i c hi=>?_
  match i,hi with
  | 0,hi=>simp at hi; subst hi; exact h1 _ _ _ (hc 0 x1 rfl)
  | 1,hi=>simp at hi; subst hi; exact h2 _ _ _ (hc 1 x2 rfl)
  | 2,hi=>simp at hi; subst hi; exact h3 _ _ _ (hc 2 x3 rfl)
  | i+3,hi=>simp at hi
theorem j5 {f:FuncId} {x y y' r:AV} (h:zd Tryz.prog f [x,y'] r) (hy:AV.imp y y'):zd Tryz.prog f [x,y] r:=fun I vs w h1 h2 h3 =>
 h I vs w h1 h2 fun i a hi=>by
  match i,hi with
  | 0,hi=>exact h3 0 a hi
  | 1,hi=>simp at hi; subst hi; exact hy _ _ _ (h3 1 y rfl)
  | i+2,hi=>simp at hi
theorem sj {sz:Nat}:AV.imp (.list sz .full []) (nD 0):=by
 rw[nD,yf]
 exact AV.imp_nil rfl
theorem G6 {m1 m2:Am.Mode} {a c:List Nat} (ha:ok a) (hc:ok c) (hna:a.length<549755813888) (hnc:c.length<549755813888) (f1:stm m1=m1) (f2:stm m2=m2) (hD:val c≠0)
  (hmain:∀ n m,(zf (val c)).length=n+2→(zf (val a)).length=n+2+m→val c≤val a →
   awp Tryz.prog (.loop sy) (Z6 (val a) (val c) 0) (wZ 0 (rX Tryz.prog uo (cy se (dP (val a) (val c)))))) :
  zd Tryz.prog qd [nl m1 a,nl m2 c] (dP (val a) (val c)):=by
 have k1:=yX (m:=m1) ha (by omega)
 have k2:=yX (m:=m2) hc (by omega)
 have hla:=wb ha
 have hlc:=wb hc
 generalize val a=A at *
 generalize val c=D at *
 have kc:=lN (m1:=.plain) (m2:=.plain) (zw A) (zw D) (by omega) (by omega)
 rw[zI,zI] at kc
 have hl0:¬ (zf D).length=0:=by rw[List.length_eq_zero_iff,yB]; exact hD
 have hl0':¬ zf D=[]:=by rw[yB]; exact hD
 refine wR Gr (by simp) ?_
 simp[Ud]
 refine za k1 (by simp[f1]) (by simp) ?_
 simp
 refine za k2 (by simp[f2]) (by simp) ?_
 simp[hl0]
 refine za kc (by simp) (by simp) ?_
 by_cases hlt:A<D
 ·have hc1:yO A D=-1:=by simp[yO,hlt]
  simp[hc1]
  have ka:=gG (m1:=.plain) (m2:=.plain) (a:=zf A) (b:=[]) (zw A) Nd (by omega) (by simp)
  rw[zI] at ka
  refine za (j5 ka (AV.imp_nil (sz:=0) rfl)) (by simp) (by simp) ?_
  simp[se,val]
  rw[dP,Nat.div_eq_of_lt hlt,Nat.mod_eq_of_lt hlt]
  exact PH sj AV.imp.refl AV.imp.refl
 ·have hc1:¬ yO A D<0:=by simp only[yO,if_neg hlt]; split<;>omega
  by_cases h1:(zf D).length=1
  ·have h1z:((zf D).length:Int)=1:=by omega
   have h10:0<(zf D).length:=by omega
   have hDB:D<B:=by
    have:=zG.1 (Nat.le_of_eq h1)
    simpa using this
   have hg:(zf D)[0]=D:=by rw[pO]; simp[Nat.mod_eq_of_lt hDB]
   have ks:=MX (m:=.plain) (a:=zf A) (d:=D) (zw A) (by omega) (by omega) hDB rfl
   rw[zI] at ks
   have hm:A%D<D:=Nat.mod_lt _ (by omega)
   generalize hq:A%D=r at *
   rw[z5] at hDB
   have kf:=qr (x:=r) (by omega)
   have u1:IntKind.u64.wrap (r:Int)=r:=w64 (by omega)
   simp[hc1,h1z,h10,hg]
   refine za ks (by simp) (by simp) ?_
   simp[u1]
   refine za kf (by simp) (by simp) ?_
   simp[se]
   rw[dP,hq]
   exact AV.imp.refl
  ·have h1z:¬ ((zf D).length:Int)=1:=by omega
   simp[hc1,h1z]
   obtain ⟨n,hn⟩:∃ n,(zf D).length=n+2:=⟨(zf D).length-2,by omega⟩
   have hle:(zf D).length≤(zf A).length:=by
    rcases Nat.lt_or_ge (zf A).length (zf D).length with h2 | h2
    ·exact absurd (fj h2) hlt
    ·exact h2
   obtain ⟨m,hm⟩:∃ m,(zf A).length=n+2+m:=⟨(zf A).length-(n+2),by omega⟩
   exact hmain n m hn hm (by omega)
theorem R9 {m:Am.Mode} {a:List Nat} {bits:Nat} (ha:ok a) (hn:a.length<1099511627775) (hb:bits<32):zd Tryz.prog qS [nl m a,z7 bits] (nl .plain (zt (a.length+1) (val a*2^bits))):=by
 refine wR YO (by simp) ?_
 have w:IntKind.i64.wrap ((a.length:Int)+1)=(a.length:Int)+1:=wrap64 (by omega) (by omega)
 have e1:((a.length:Int)+1).toNat=a.length+1:=by omega
 simp[fV,w,eMk,e1]
 refine ⟨by omega,by omega,by omega,?_⟩
 refine zl (Zj a m [] [] 0 bits) (fun _=>True) a.length (by simp[Zj,NF,Uv]) trivial (fun i hi _=>?_) (fun _=>?_)
 ·have e:(i:Int)<a.length:=by omega
  have hpow:=ge hb
  have hak:=xA ha hi
  have hL:=U9 (bits:=bits) (i:=i) ha
  have hLB:shL a bits i<B^(i+1):=by
   have:B^i*2^bits≤B^i*B:=Nat.mul_le_mul_left _ (by omega)
   rw[Nat.pow_succ]; omega
  have hc:shL a bits i/B^i<2^bits:=Nat.div_lt_of_lt_mul hL
  obtain ⟨o1,o2,o3,o4⟩:=FR (c:=shL a bits i/B^i) (a:=a[i]) hb hc hak
  have hsucc:=NE (bits:=bits) hi
  have hL2:=U9 (bits:=bits) (i:=i+1) ha
  have hLN:shL a bits (i+1)<B^(a.length+1):=by
   have h1:B^(i+1)*2^bits≤B^(i+1)*B:=Nat.mul_le_mul_left _ (by omega)
   have h3:B^(i+1+1)=B^(i+1)*B:=Nat.pow_succ _ _
   have h2:B^(i+1+1)≤B^(a.length+1):=Nat.pow_le_pow_right zU (by omega)
   omega
  have htB:(shL a bits i/B^i+a[i]*2^bits)/B<B:=by
   rw[← o3]
   apply Nat.div_lt_of_lt_mul
   exact Nat.mul_lt_mul_of_lt_of_lt hak hpow
  have hstep:=Ta (N:=a.length+1) (i:=i) (t:=a[i]*2^bits) hLB (by omega) (by rw[← hsucc]; exact hLN) htB
  rw[← hsucc,← o2,← o3] at hstep
  have hlen:=zy (n:=a.length+1) (x:=shL a bits i)
  have hi1:i<(zt (a.length+1) (shL a bits i)).length:=by omega
  have hget:(zt (a.length+1) (shL a bits i))[i]=shL a bits i/B^i:=by
   rw[vc,Nat.mod_eq_of_lt (Nat.lt_trans hc hpow)]
  obtain ⟨c,hcE⟩:∃ c,shL a bits i/B^i=c:=⟨_,rfl⟩
  obtain ⟨t,htE⟩:∃ t,a[i]*2^bits=t:=⟨_,rfl⟩
  have htlt:t<B*B:=by rw[← htE]; exact Nat.mul_lt_mul_of_lt_of_lt hak hpow
  rw[hcE,htE] at o1 o4 hstep
  rw[hcE] at hget hc
  obtain ⟨x,hxE⟩:∃ x,t%B=x:=⟨_,rfl⟩
  obtain ⟨q,hqE⟩:∃ q,t/B=q:=⟨_,rfl⟩
  rw[hxE] at o1 o4 hstep
  rw[hqE] at hstep
  have hxB:x<B:=by rw[← hxE]; exact Nat.mod_lt _ zU
  have hqB:q<B:=by rw[← hqE]; exact Nat.div_lt_of_lt_mul htlt
  have hor:=BB (c:=c) (x:=x) (by omega) hxB (by rw[o1]; exact o4)
  rw[o1] at hor
  obtain ⟨y,hyE⟩:∃ y,c+x=y:=⟨_,rfl⟩
  rw[hyE] at hor hstep
  have hBB:B*B=18446744073709551616:=by decide
  rw[hBB] at htlt
  have f1:IntKind.u32.wrap (t:Int)=(x:Int):=by rw[w32,hxE]
  have f2:(t:Int).fdiv (2^min 32 IntKind.u64.bits)=(q:Int):=by rw[cD,hqE]
  have f3:IntKind.u32.wrap (q:Int)=q:=IntWalk.u32_in _ (by rw[z5] at hqB; omega)
  have u1:IntKind.u64.wrap ((a[i]:Nat):Int)=(a[i]:Nat):=w64 (by rw[z5] at hak; omega)
  have hmin:min bits IntKind.u64.bits=bits:=by
   have:IntKind.u64.bits=64:=rfl
   omega
  have u2:IntKind.u64.wrap (((a[i]:Nat):Int)*2^bits)=(t:Int):=by
   rw[show ((a[i]:Nat):Int)*2^bits=((a[i]*2^bits:Nat):Int) by simp,htE]; exact w64 htlt
  have hset:((zE (zt (a.length+1) (shL a bits i))).set i [uv y]).set (i+1) [uv q]=zE (zt (a.length+1) (shL a bits (i+1))):=by
   rw[xa,xa,hstep]
  have wi:IntKind.i64.wrap ((i:Int)+1)=(i:Int)+1:=wrap64 (by omega) (by omega)
  have ei1:(i:Int)<a.length+1:=by omega
  have e2:((i:Int)+1).toNat=i+1:=by omega
  have e3:(0:Int)≤(i:Int)+1:=by omega
  have hi2:i+1<(zt (a.length+1) (shL a bits i)).length:=by omega
  have hnb:¬ ((bits:Int)<0):=by omega
  simp[tl,Zj,e,hi,hi1,hi2,ei1,e2,e3,hget,hor,u1,vE,wu,hmin,u2,f1,f2,f3,wi,splice,hset]
 ·have:zt (a.length+1) (shL a bits a.length)=zt (a.length+1) (val a*2^bits):=by rw[KE]
  have hlt:(zt (a.length+1) (val a*2^bits)).length=a.length+1:=zy
  have ht:List.take (a.length+1) (zE (zt (a.length+1) (val a*2^bits)))=zE (zt (a.length+1) (val a*2^bits)):=List.take_of_length_le (by rw[List.length_map,hlt]; exact Nat.le_refl _)
  simp[tl,Zj,mw,eh,this,hlt,ht]
  exact AV.imp.refl
theorem abc {t:Nat} (h0:0<t) (ht:t<B):∃ p,t*2^lz t=p∧2147483648≤p∧p<4294967296:=⟨_,rfl,(PY h0 ht).1,(PY h0 ht).2⟩
theorem Cw {A D n _m:Nat} {K:Exit→St→Prop} (hD:(zf D).length=n+2) (hn:n<549755813888)
  (hK:∀ q y,(q=53)→awp Tryz.prog uo {env:=[(0,nD A),(1,nD D),(9,z7 (lz (D/B^(n+1)))),(q,y)],sto:=[]} K) :
  awp Tryz.prog (.loop sy) (Z6 A D 0) (wZ 0 (rX Tryz.prog uo K)):=by
 obtain ⟨_,_,ht0,htB⟩:True∧True∧0<D/B^(n+1)∧D/B^(n+1)<B:=⟨trivial,trivial,(fK (n:=n+1) hD).2.2⟩
 have hg:(zf D)[n+1]'(by omega)=D/B^(n+1):=by rw[pO,Nat.mod_eq_of_lt htB]
 have hlen:((zf D).length:Int)=(n:Int)+2:=by omega
 have w0:IntKind.i64.wrap ((n:Int)+2-1)=(n:Int)+1:=by rw[wrap64]<;>omega
 have e1:((n:Int)+1).toNat=n+1:=by omega
 have e2:(0:Int)≤(n:Int)+1:=by omega
 have e3:n+1<(zf D).length:=by omega
 generalize D/B^(n+1)=t at *
 refine zl (Z6 A D) (fun _=>True) (lz t) (by simp[Z6]) trivial (fun k hk _=>?_) (fun _=>?_)
 ·have hs:=C7 htB hk
  have h32:=Qt (t:=t)
  obtain ⟨p,hp⟩:∃ p,t*2^k=p:=⟨_,rfl⟩
  rw[hp] at hs
  have hmin:min k IntKind.u32.bits=k:=by
   have:IntKind.u32.bits=32:=rfl
   omega
  have u1:IntKind.u32.wrap ((t:Int)*2^k)=(p:Int):=by
   rw[show (t:Int)*2^k=((t*2^k:Nat):Int) by simp,hp]; exact IntWalk.u32_in _ (by omega)
  have u2:IntKind.u64.wrap ((k:Int)+1)=(k:Int)+1:=vJ (by omega) (by omega)
  have c1:(p:Int)<2147483648:=by omega
  have c2:¬ ((k:Int)<0):=by omega
  simp[sy,Z6,hlen,w0,e1,e2,e3,hg,vE,hmin,u1,u2,c1,c2]
 ·have h32:=Qt (t:=t)
  obtain ⟨p,hp,h1,h2⟩:=abc ht0 htB
  have hk0:=hK _ (bv false) rfl
  clear hK
  generalize lz t=k at *
  have hmin:min k IntKind.u32.bits=k:=by
   have:IntKind.u32.bits=32:=rfl
   omega
  have u1:IntKind.u32.wrap ((t:Int)*2^k)=(p:Int):=by
   rw[show (t:Int)*2^k=((t*2^k:Nat):Int) by simp,hp]; exact IntWalk.u32_in _ (by omega)
  have c1:¬ (p:Int)<2147483648:=by omega
  have c3:¬ p<2147483648:=by omega
  have c2:¬ ((k:Int)<0):=by omega
  simp[sy,Z6,hlen,w0,e1,e2,e3,hg]
  rw[vE c2,Int.toNat_natCast,hmin,u1]
  generalize (p:Int)=z at *
  simp[c1]
  exact hk0
def qD (A D n m N X V k:Nat):St :=
 {env:=[(4,.sl 72 1 0 (m+1)),(9,z7 N),(10,.sl 1011 1 0 (n+2+m+1)),(11,nD V),(12,iv ((n:Int)+2)),(13,iv m),(74,iv ((m:Int)+1)),(75,iv k)],
  sto:=[(72,.arr 1 (zE (vg (m+1) (A/D) k))),(1011,.arr 1 (zE (zt (n+2+m+1) (rst X V (m+1-k)))))]}
theorem aaR {A D n m N X V:Nat} {K:Exit→St→Prop} (hA:(zf A).length=n+2+m) (hD:(zf D).length=n+2) (hn:n+m<274877906944) {y:AV} (h:Qo A D n m N X V)
  (hK:∀ s,mI s (qD A D n m N X V 0)→awp Tryz.prog (.loop sC) s (wZ 2 (rX Tryz.prog um K))) :
  awp Tryz.prog uo {env:=[(0,nD A),(1,nD D),(9,z7 N),(53,y)],sto:=[]} K:=by
 have hN32:=h.N32
 have kt:=yX (m:=.plain) (a:=zt (n+2+1) V) yu (by rw[zy]; omega)
 have hVlt:V<B^(n+2+1):=Nat.lt_trans h.Vlt (Nat.pow_lt_pow_right (by decide) (by omega))
 rw[yh hVlt] at kt
 have hVl:=h.Vlen
 have w1:IntKind.i64.wrap ((n:Int)+2+m-(n+2))=(m:Int):=by rw[wrap64]<;>omega
 have w2:IntKind.i64.wrap ((m:Int)+1)=(m:Int)+1:=by rw[wrap64]<;>omega
 have e1:((m:Int)+1).toNat=m+1:=by omega
 have e2:(zt (n+2+1) V).length=n+2+1:=zy
 have e3:(zE (zt (n+2+1) V)).length=n+2+1:=by rw[List.length_map,e2]
 simp[uo]
 refine ⟨rfl,?_⟩
 refine Ae 1000 (zw A) (by omega) hN32 (by simp) ?_
 simp
 have ks:=R9 (m:=.plain) (bits:=N) (zw D) (by omega) hN32
 rw[zI,← h.V_eq,hD] at ks
 refine za ks (by simp) (by simp) ?_
 simp
 refine za kt (by simp) (by simp) ?_
 simp[hVl,hA,hD,w1,w2,eMk,e1]
 refine ⟨by omega,by omega,by omega,?_⟩
 rw[zI,← h.X_eq]
 have hz:rst X V (m+1)=X:=abY h.top
 refine hK _ ?_
 simp[qD,hz,YL,rY]
theorem Cy {A D n m N X V:Nat} {K:Exit→St→Prop} (hn:n+m<274877906944) (h:Qo A D n m N X V)
  (hK:∀ q y,q=76→awp Tryz.prog um {(qD A D n m N X V (m+1)) with env:=(qD A D n m N X V (m+1)).env++[(q,y)]} K) :
  ∀ s,mI s (qD A D n m N X V 0)→awp Tryz.prog (.loop sC) s (wZ 2 (rX Tryz.prog um K)):=by
 intro s hs
 refine zl (qD A D n m N X V) (fun _=>True) (m+1) hs trivial (fun k hk _=>?_) (fun _=>?_)
 ·obtain ⟨j,hj⟩:∃ j,m-k=j:=⟨_,rfl⟩
  have hj1:m+1-k=j+1:=by omega
  have hj2:m+1-(k+1)=j:=by omega
  have hj3:m+1-1-k=j:=by omega
  have hlt:=U7 (A:=X) (j:=j+1) h.Vlt h.Vpos
  obtain ⟨d1,d2,d3⟩:=ES (A:=X) (j:=j) h.Vpos
  have hstep:=B3 (A:=X) (V:=V) (j:=j) (L:=n+2+m+1) h.Vlt h.Vpos (by omega)
  have hval:=abZ (A:=X) (V:=V) (j:=j) (n:=n+2) (L:=n+2+m+1) h.Vlt h.Vpos (by omega)
  have hset:=Te (n:=m+1) (D:=A/D) (i:=k) hk
  rw[hj3] at hset
  rw[h.q] at d1
  have hql:=Td (D:=A/D) (show k≤m+1 by omega)
  have hVl:=h.Vlen
  have e:(k:Int)<(m:Int)+1:=by omega
  have w1:IntKind.i64.wrap ((m:Int)-k)=(j:Int):=by rw[wrap64]<;>omega
  have w2:IntKind.i64.wrap ((j:Int)+(n+2))=(j:Int)+(n+2):=by rw[wrap64]<;>omega
  have w3:IntKind.i64.wrap ((j:Int)+(n+2)+1)=(j:Int)+(n+2)+1:=by rw[wrap64]<;>omega
  have w4:IntKind.i64.wrap ((k:Int)+1)=(k:Int)+1:=by rw[wrap64]<;>omega
  have w5:((j:Int)+(n+2)+1).toNat-j=n+3:=by omega
  have ok:dm (zt (n+2+m+1) (rst X V (j+1))) (zf V) j n:=⟨yu,zw _,hVl,by rw[zy]; omega,by rw[zy]; omega⟩
  simp[sC,qD,e,w1,w2,w3,hj1,w5]
  refine ⟨by omega,by omega,rfl,?_⟩
  refine ade 3000 ok (by simp) h.vtop hval (by rw[zI]; exact d3) ?_
  have w6:j<(vg (m+1) (A/D) k).length:=by omega
  have w7:(j:Int)<(m:Int)+1:=by omega
  simp only[zI,d1,d2,hstep]
  generalize hd:A/D/B^j%B=d at *
  have hset':(zE (vg (m+1) (A/D) k)).set j [uv d]=zE (vg (m+1) (A/D) (k+1)):=by rw[xa,hset]
  simp[w6,w7,splice,hset',w4,hj2,qD]
 ·simp[sC,qD]
  have:=hK _ (bv false) rfl
  simp[qD] at this
  exact this
def Z7 (Q R n m N Y k:Nat):St :=
 {env:=[(4,.sl 72 1 0 (m+1)),(5,.sl 99 1 0 (n+2)),(9,z7 N),(10,.sl 1011 1 0 (n+2+m+1)),(100,iv ((n:Int)+2)),(101,iv k)],
  sto:=[(72,.arr 1 (zE (zt (m+1) Q))),(1011,.arr 1 (zE (zt (n+2+m+1) Y))),(99,.arr 1 (zE (ww (n+2) k R)))]}
theorem G5 {R N i:Nat} (hN:N<32):∃ a c d,R*2^N/B^i%B/2^N=a∧(R*2^N/B^(i+1)%B)*2^(32-N)%B=c∧R/B^i%B=d∧a ||| c=d∧a<B∧c<B∧d<B∧(N=0→a=d):=by
 obtain ⟨h1,h2⟩:=EZ (X:=R*2^N) (i:=i) hN
 have hP:0<2^N:=Nat.pow_pos (by omega)
 rw[Nat.mul_div_cancel _ hP] at h1
 refine ⟨_,_,_,rfl,rfl,rfl,by rw[h2,← h1],Nat.lt_of_le_of_lt (Nat.div_le_self _ _) (Nat.mod_lt _ zU),Nat.mod_lt _ zU,Nat.mod_lt _ zU,fun h0=>?_⟩
 subst h0
 rw[Nat.pow_zero,Nat.mul_one,Nat.div_one]
theorem ae6 {a c d:Nat} (ha:a<B) (hc:c<B) (h:a ||| c=d) (hd:d<B):rt .or .u32 (a:Int) (c:Int)=(d:Int):=by
 have:=BB (c:=a) (x:=c) ha hc (by rw[h]; exact hd)
 rw[h] at this
 exact this
theorem aaQ {A D n m N X V:Nat} (hn:n+m<274877906944) (hD:(zf D).length=n+2) (h:Qo A D n m N X V) :
  ∀ q y,q=76→awp Tryz.prog um {(qD A D n m N X V (m+1)) with env:=(qD A D n m N X V (m+1)).env++[(q,y)]} (cy se (dP A D)):=by
 intro q y hq
 subst hq
 have hN:=h.N32
 have hY:rst X V 0=A%D*2^N:=by rw[B4,h.r]
 have hDlt:D<B^(n+2):=zG.1 (Nat.le_of_eq hD)
 have hD0:0<D:=by
  rcases Nat.eq_zero_or_pos D with h0 | h0
  ·subst h0; simp[yf] at hD
  ·exact h0
 have hRlt:A%D<B^(n+2):=Nat.lt_trans (Nat.mod_lt _ hD0) hDlt
 have hQlt:A/D<B^(m+1):=by
  rw[← h.q]
  apply Nat.div_lt_of_lt_mul
  have h1:=Nat.lt_mul_div_succ X (vd (m+1))
  have h2:B^(m+1)*(X/B^(m+1)+1)≤B^(m+1)*V:=Nat.mul_le_mul_left _ h.top
  rw[Nat.mul_comm V]
  exact Nat.lt_of_lt_of_le h1 h2
 have w1:((n:Int)+2).toNat=n+2:=by omega
 have kq:=yX (m:=.plain) (a:=zt (m+1) (A/D)) yu (by rw[zy]; omega)
 have kr:=yX (m:=.plain) (a:=zt (n+2) (A%D)) yu (by rw[zy]; omega)
 rw[yh hQlt] at kq
 rw[yh hRlt] at kr
 have lp:∀ s,mI s (Z7 (A/D) (A%D) n m N (A%D*2^N) 0)→awp Tryz.prog (.loop sD) s (wZ 4 (rX Tryz.prog km (cy se (dP A D)))):=by
  intro s hs
  refine zl (Z7 (A/D) (A%D) n m N (A%D*2^N)) (fun _=>True) (n+2) hs trivial (fun i hi _=>?_) (fun _=>?_)
  ·obtain ⟨a,c,d,h1,h2,h3,h4,h5,h6,h7,h8⟩:=G5 (R:=A%D) (i:=i) hN
   have hL:=zy (n:=n+2+m+1) (x:=A%D*2^N)
   have i1:i<(zt (n+2+m+1) (A%D*2^N)).length:=by omega
   have i2:i+1<(zt (n+2+m+1) (A%D*2^N)).length:=by omega
   have g1:=vc i1
   have g2:=vc i2
   have hset:=ff (S:=A%D) hi
   rw[h3] at hset
   have hfl:=fe (n:=n+2) (k:=i) (S:=A%D) (by omega)
   have i3:i<(ww (n+2) i (A%D)).length:=by omega
   have hor:=ae6 h5 h6 h4 h7
   have hmin:min N IntKind.u32.bits=N:=by
    have:IntKind.u32.bits=32:=rfl
    omega
   have hmin2:min (32-N) IntKind.u32.bits=32-N:=by
    have:IntKind.u32.bits=32:=rfl
    omega
   have i4:i+1<n+2+m+1:=by omega
   have s1:∀ y0 a:Nat,y0/2^N=a→(y0:Int).fdiv (2^N)=(a:Int):=fun y0 a h=>by
    rw[show (2:Int)^N=((2^N:Nat):Int) by simp,← Int.ofNat_fdiv,h]
   have s2:∀ y1 c:Nat,y1*2^(32-N)%B=c→IntKind.u32.wrap ((y1:Int)*2^(32-N))=(c:Int):=fun y1 c h=>by
    rw[show (y1:Int)*2^(32-N)=((y1*2^(32-N):Nat):Int) by simp,w32,h]
   have s1':=s1 _ _ h1
   have s2':=s2 _ _ h2
   clear s1 s2 h1 h2
   rw[← g1] at s1'
   rw[← g2] at s2'
   clear g1 g2
   generalize A%D*2^N=Y at *
   generalize A%D=R at *
   generalize hy0:(zt (n+2+m+1) Y)[i]=y0 at *
   generalize hy1:(zt (n+2+m+1) Y)[i+1]=y1 at *
   have hset':(zE (ww (n+2) i R)).set i [uv d]=zE (ww (n+2) (i+1) R):=by rw[xa,hset]
   have e:(i:Int)<(n:Int)+2:=by omega
   have e2:(i:Int)<(n:Int)+2+m+1:=by omega
   have e3:(i:Int)+1<(n:Int)+2+m+1:=by omega
   have e4:((i:Int)+1).toNat=i+1:=by omega
   have e5:(0:Int)≤(i:Int)+1:=by omega
   have w2:IntKind.i64.wrap ((i:Int)+1)=(i:Int)+1:=by rw[wrap64]<;>omega
   have w3:IntKind.u64.wrap ((32:Int)-N)=32-N:=vJ (by omega) (by omega)
   have w4:((32:Int)-N).toNat=32-N:=by omega
   have w5:¬ ((32:Int)-N<0):=by omega
   rcases Nat.eq_zero_or_pos N with hN0 | hN0
   ·have ha:=h8 hN0
    have hN1:¬ 0<N:=by omega
    subst ha
    simp[sD,Z7,e,e2,hy0,i1,i3,wu,hmin,s1',hN1,splice,hset',w2]
   ·simp[sD,Z7,e,e2,e3,e4,e5,hy0,hy1,i1,i2,i3,wu,vE,hmin,hmin2,s1',s2',hN0,splice,hset',w2,w3,w4,w5,hor]
  ·have l1:∀ k z,k≤(zt k z).length:=fun k z=>Nat.le_of_eq zy.symm
   have l2:∀ k z,List.take k (zE (zt k z))=zE (zt k z):=fun k z=>List.take_of_length_le (by rw[List.length_map,zy]; exact Nat.le_refl _)
   simp[sD,Z7,an,km,y8,sU,l1,l2]
   refine za kq (by simp) (by simp) ?_
   simp
   refine za kr (by simp) (by simp) ?_
   simp[se]
   exact AV.imp.refl
 simp[um,qD,Tc,hY,eMk,w1]
 refine ⟨by omega,by omega,by omega,?_⟩
 refine lp _ ?_
 simp[Z7,kU,rY]
theorem jY {m1 m2:Am.Mode} {a c:List Nat} (ha:ok a) (hc:ok c) (hna:a.length<137438953472) (hnc:c.length<137438953472) (f1:stm m1=m1) (f2:stm m2=m2) (hD:val c≠0) :
  zd Tryz.prog qd [nl m1 a,nl m2 c] (dP (val a) (val c)):=by
 refine G6 ha hc (by omega) (by omega) f1 f2 hD fun n m h1 h2 hle=>?_
 have hla:=wb ha
 have hn:n+m<274877906944:=by omega
 have h:=aeH h2 h1
 exact Cw (_m:=m) h1 (by omega) fun q y hq=>by
  subst hq
  exact aaR h2 h1 hn h (Cy hn h (aaQ hn h1 h))
def eu:Nat→Nat→Nat→Nat × Nat
 | a,b,0=>(a,b)
 | a,b,k+1=>eu b (a%b) k
theorem T3:∀ (k a b:Nat),eu a b (k+1)=((eu a b k).2,(eu a b k).1%(eu a b k).2)
 | 0,_,_=>rfl
 | k+1,a,b=>by rw[eu,T3 k b (a%b)]; rfl
theorem Fh:∀ (b a:Nat),∃ N,(∀ k,k<N→(eu a b k).2≠0)∧eu a b N=(Nat.gcd a b,0):=by
 intro b
 induction b using Nat.strongRecOn with
 | ind b ih =>
  intro a
  rcases Nat.eq_zero_or_pos b with h | h
  ·subst h
   exact ⟨0,fun k hk=>absurd hk (Nat.not_lt_zero _),by rw[eu,Nat.gcd_zero_right]⟩
  ·obtain ⟨N,h1,h2⟩:=ih (a%b) (Nat.mod_lt _ h) b
   refine ⟨N+1,fun k hk=>?_,?_⟩
   ·match k with
    | 0=>exact Nat.ne_of_gt h
    | k+1=>exact h1 k (by omega)
   ·rw[eu,h2,Nat.gcd_comm b,← Nat.gcd_rec,Nat.gcd_comm]
theorem K7 {M:Nat}:∀ (k a b:Nat),a<M→b<M→(eu a b k).1<M∧(eu a b k).2<M
 | 0,_,_,h1,h2=>⟨h1,h2⟩
 | k+1,a,b,h1,h2=>K7 k b (a%b) h2 (Nat.lt_of_le_of_lt (Nat.mod_le _ _) h1)
def stG (p:Nat × Nat):St:={env:=[(0,nD p.1),(1,nD p.2)],sto:=[]}
theorem Rk {m1 m2:Am.Mode} {a c:List Nat} (ha:ok a) (hc:ok c) (hna:a.length<137438953472) (hnc:c.length<137438953472) (f1:stm m1=m1) (f2:stm m2=m2) :
  zd Tryz.prog Zw [nl m1 a,nl m2 c] (nD (Nat.gcd (val a) (val c))):=by
 have k1:=gG (m1:=m1) (m2:=.plain) (b:=[]) ha Nd (by omega) (by simp)
 have k2:=gG (m1:=m2) (m2:=.plain) (b:=[]) hc Nd (by omega) (by simp)
 obtain ⟨N,h1,h2⟩:=Fh (val c) (val a)
 obtain ⟨L,hL⟩:∃ L,L=137438953471:=⟨_,rfl⟩
 have hL1:val a<B^L:=yS ha (by omega)
 have hL2:val c<B^L:=yS hc (by omega)
 have hb:=fun k=>K7 k (val a) (val c) hL1 hL2
 generalize hM:B^L=M at *
 have hlen:∀ x,x<M→(zf x).length<137438953472:=fun x hx=>by
  rw[← hM] at hx
  exact Nat.lt_of_le_of_lt (zG.2 hx) (by omega)
 clear hM
 have v0:val []=0:=rfl
 rw[v0,Nat.add_zero] at k1 k2
 generalize val a=A at *
 generalize val c=D at *
 refine zC act (by simp) ?_
 simp[Ln]
 refine za (j5 k1 (AV.imp_nil (sz:=0) rfl)) (by simp[f1]) (by simp) ?_
 simp
 refine za (j5 k2 (AV.imp_nil (sz:=0) rfl)) (by simp[f2]) (by simp) ?_
 simp
 refine zl (fun k=>stG (eu A D k)) (fun _=>True) N (by simp[stG,eu]) trivial (fun k hk _=>?_) (fun _=>?_)
 ·have hne:=h1 k hk
  obtain ⟨b1,b2⟩:=hb k
  have b1':=hlen _ b1
  have b2':=hlen _ b2
  have hs:=T3 k A D
  obtain ⟨x,hx⟩:∃ x,(eu A D k).1=x:=⟨_,rfl⟩
  obtain ⟨y,hy⟩:∃ y,(eu A D k).2=y:=⟨_,rfl⟩
  rw[hx,hy] at hs
  rw[hx] at b1'
  rw[hy] at b2' hne
  have kd:=jY (m1:=.plain) (m2:=.plain) (zw x) (zw y) b1' b2' rfl rfl (by rw[zI]; exact hne)
  rw[zI,zI] at kd
  have hl0:0<(zf y).length:=by
   rcases Nat.eq_zero_or_pos (zf y).length with h | h
   ·rw[List.length_eq_zero_iff,yB] at h; exact absurd h hne
   ·exact h
  simp[dB,stG,hl0,hx,hy]
  refine za kd (by simp) (by simp) ?_
  simp[hs]
 ·simp only[h2]
  simp[dB,Ue,Km,stG,yf]
def xj (neg:Bool) (N D:Nat):AV:=.agg [bv (neg&&decide (N≠0)),nD (N/Nat.gcd N D),nD (D/Nat.gcd N D)]
theorem Pz {N D:Nat} (hD:D≠0):Nat.gcd N D≠0∧(N/Nat.gcd N D=0↔N=0)∧Nat.gcd N D≤D:=by
 have hg:0<Nat.gcd N D:=Nat.gcd_pos_of_pos_right _ (by omega)
 refine ⟨by omega,?_,Nat.gcd_le_right _ (by omega)⟩
 constructor
 ·intro h
  have:=Nat.div_mul_cancel (Nat.gcd_dvd_left N D)
  rw[h,Nat.zero_mul] at this
  exact this.symm
 ·intro h
  rw[h,Nat.zero_div]
theorem cc {neg:Bool} {N D:Nat} (hN:(zf N).length<68719476736) (hD:(zf D).length<68719476736) (h0:D≠0) :
  zd Tryz.prog js [bv neg,nD N,nD D] (.tuple [xj neg N D,iv 0]):=by
 obtain ⟨g0,g1,g2⟩:=Pz (N:=N) h0
 have kg:=Rk (m1:=.plain) (m2:=.plain) (zw N) (zw D) (by omega) (by omega) rfl rfl
 rw[zI,zI] at kg
 have hgl:(zf (Nat.gcd N D)).length<68719476736:=by
  have h1:D<B^(zf D).length:=zG.1 (Nat.le_refl _)
  exact Nat.lt_of_le_of_lt (zG.2 (Nat.lt_of_le_of_lt g2 h1)) hD
 have hl0:¬ (zf D).length=0:=by rw[List.length_eq_zero_iff,yB]; exact h0
 have hl1:¬ zf D=[]:=by rw[yB]; exact h0
 unfold xj
 have hz:(zf (N/Nat.gcd N D)).length=0↔N=0:=by rw[List.length_eq_zero_iff,yB]; exact g1
 generalize Nat.gcd N D=g at *
 have kn:=jY (m1:=.plain) (m2:=.plain) (zw N) (zw g) (by omega) (by omega) rfl rfl (by rw[zI]; exact g0)
 have kd:=jY (m1:=.plain) (m2:=.plain) (zw D) (zw g) (by omega) (by omega) rfl rfl (by rw[zI]; exact g0)
 simp only[zI] at kn kd
 refine zC AJ (by simp) ?_
 simp[QV,hl0]
 refine za kg (by simp) (by simp) ?_
 simp
 refine za kn (by simp) (by simp) ?_
 simp
 refine za kd (by simp) (by simp) ?_
 cases neg
 ·simp[ct]
 ·by_cases hN0:N=0
  ·have:=hz.2 hN0
   simp[ct,hN0,yf]
  ·have:0<(zf (N/g)).length:=by omega
   simp[ct,this,hN0]
theorem qw {neg:Bool} {N D:Nat} (hN:(zf N).length<68719476736) (hD:(zf D).length<68719476736) (h0:D≠0) :
  zd Tryz.prog rj [bv neg,nD N,nD D] (xj neg N D):=by
 have k:=cc (neg:=neg) hN hD h0
 unfold xj at *
 generalize N/Nat.gcd N D=n at *
 generalize D/Nat.gcd N D=d at *
 refine zC AL (by simp) ?_
 simp[QW]
 refine za k (by simp) (by simp) ?_
 simp[No]
theorem P4 {P:Program} {k:IntKind} {a:Int}:zr P (Op.unary .neg (Value.int k a))=some (Value.int k (k.wrap (-a))):=by
 simp[zr,Op.unary,Op.intArith,pure]
theorem abr {k:IntKind} {a:Int}:ofV (Value.int k a)=.val (.int k a):=rfl
theorem qn {x:Nat} (h:x<18446744073709551616):(zf x).length≤2:=zG.2 (by
 have:B^2=18446744073709551616:=by decide
 omega)
theorem kF {n:Int} (h1:-9223372036854775808≤n) (h2:n<9223372036854775808):zd Tryz.prog jt [iv n] (nD n.natAbs):=by
 obtain ⟨x,hx⟩:∃ x,n.natAbs=x:=⟨_,rfl⟩
 have hxl:x<18446744073709551616:=by omega
 have k:=qr (x:=x) hxl
 rw[hx]
 refine zC AM (by simp) ?_
 by_cases h:n<0
 ·have w1:IntKind.i64.wrap (n+1)=n+1:=by rw[wrap64]<;>omega
  have w2:IntKind.i64.wrap (-(n+1))=(x:Int)-1:=by rw[wrap64]<;>omega
  have w2':IntKind.i64.wrap (-1+-n)=(x:Int)-1:=by rw[wrap64]<;>omega
  have w3:IntKind.u64.wrap ((x:Int)-1)=(x:Int)-1:=by rw[vJ]<;>omega
  have w4:IntKind.u64.wrap (x:Int)=x:=w64 hxl
  simp[YX,h,w1,P4,w2,w3,w4]
  refine za k (by simp) (by simp) ?_
  simp[Xp]
 ·have w4:IntKind.u64.wrap n=(x:Int):=by rw[vJ]<;>omega
  simp[YX,h,w4]
  refine za k (by simp) (by simp) ?_
  simp[Xp]
theorem R5 {n:Int} (h1:-9223372036854775808≤n) (h2:n<9223372036854775808):zd Tryz.prog zN [iv n] (xj (decide (n<0)) n.natAbs 1):=by
 have k1:=kF h1 h2
 have k2:=qr (x:=1) (by omega)
 have l1:=qn (x:=n.natAbs) (by omega)
 have l2:=qn (x:=1) (by omega)
 have k3:=qw (neg:=decide (n<0)) (N:=n.natAbs) (D:=1) (by omega) (by omega) (by omega)
 unfold xj at *
 generalize n.natAbs/Nat.gcd n.natAbs 1=p at *
 generalize 1/Nat.gcd n.natAbs 1=q at *
 refine zC M3 (by simp) ?_
 simp[Yp]
 refine za k1 (by simp) (by simp) ?_
 simp
 refine za k2 (by simp) (by simp) ?_
 simp
 refine za k3 (by simp) (by simp) ?_
 simp[YH]
abbrev frA (s:Bool) (N D:Nat):AV:=.agg [bv s,nD N,nD D]
abbrev yo (q:Rat):AV:=frA (decide (q.num<0)) q.num.natAbs q.den
def sg (s:Bool) (N:Nat):Int:=if s then -(N:Int) else N
theorem tH {s:Bool} {N D:Nat} (h:D≠0):xj s N D=yo (mkRat (sg s N) D):=by
 have hab:(sg s N).natAbs=N:=by unfold sg; split<;>omega
 have hm:mkRat (sg s N) D=Rat.normalize (sg s N) D h:=by simp[mkRat,h]
 rw[hm,Rat.normalize_eq]
 unfold xj yo
 simp only[hab]
 have hg:0<Nat.gcd N D:=Nat.gcd_pos_of_pos_right _ (by omega)
 obtain ⟨c,hc⟩:=Nat.gcd_dvd_left N D
 generalize Nat.gcd N D=g at *
 subst hc
 have e1:(sg s (g*c))/(g:Int)=sg s c:=by
  unfold sg
  split
  ·rw[show -((g*c:Nat):Int)=(g:Int)*(-(c:Int)) by rw[Int.natCast_mul,Int.mul_neg]]
   exact Int.mul_ediv_cancel_left _ (by omega)
  ·rw[Int.natCast_mul]
   exact Int.mul_ediv_cancel_left _ (by omega)
 have e2:g*c/g=c:=Nat.mul_div_cancel_left _ hg
 rw[e1,e2]
 have e3:(sg s c).natAbs=c:=by unfold sg; split<;>omega
 have e4:(s&&decide (g*c≠0))=decide (sg s c<0):=by
  have hg0:¬ g=0:=by omega
  unfold sg
  rcases Nat.eq_zero_or_pos c with h0 | h0
  ·subst h0; cases s<;>simp
  ·have hc0:¬ c=0:=by omega
   have hcl:0<c:=h0
   have hng:¬ (c:Int)<0:=by omega
   have hneg:-(c:Int)<0:=by omega
   have hgc:¬ g*c=0:=Nat.mul_ne_zero hg0 hc0
   cases s<;>simp[hng,hgc,hcl]
 rw[e3,e4]
theorem n6 (n:Int):sg (decide (n<0)) n.natAbs=n:=by
 unfold sg
 by_cases h:n<0
 ·simp[h]; omega
 ·simp[h]; omega
theorem LT (n:Int):xj (decide (n<0)) n.natAbs 1=yo (n:Rat):=by
 rw[tH (by decide),n6]
 congr 1
 rw[← Rat.mkRat_self (n:Rat)]; rfl
theorem Pu {n:Int} (h1:-9223372036854775808≤n) (h2:n<9223372036854775808):zd Tryz.prog zN [iv n] (yo n):=by
 rw[← LT]; exact R5 h1 h2
theorem pw (x:AV):∃ y:AV,y=x:=⟨_,rfl⟩
noncomputable def f0 (q:Rat):AV:=Classical.choose (pw (bv (decide (q.num<0))))
noncomputable def f1 (q:Rat):AV:=Classical.choose (pw (nD q.num.natAbs))
noncomputable def f2 (q:Rat):AV:=Classical.choose (pw (nD q.den))
theorem nQ (q:Rat):f0 q=bv (decide (q.num<0)):=Classical.choose_spec (pw _)
theorem lc (q:Rat):f1 q=nD q.num.natAbs:=Classical.choose_spec (pw _)
theorem lf (q:Rat):f2 q=nD q.den:=Classical.choose_spec (pw _)
noncomputable def fr (q:Rat):List AV:=[f0 q,f1 q,f2 q]
@[simp] theorem mE (q:Rat):[f0 q,f1 q,f2 q]=fr q:=rfl
theorem t6 (q:Rat):fr q=[bv (decide (q.num<0)),nD q.num.natAbs,nD q.den]:=by unfold fr; rw[nQ,lc,lf]
noncomputable abbrev fq (q:Rat):AV:=.agg (fr q)
theorem wP (q:Rat):yo q=fq q:=by unfold fq; rw[t6]
abbrev zz:List AV:=[.val (.bool false),.list 0 .full [],.list 0 .full []]
@[simp] theorem aie (q:Rat):rf (f0 q)=true:=by rw[nQ]; rfl
@[simp] theorem agk (q:Rat):strip (f0 q)=f0 q:=by rw[nQ]; rfl
@[simp] theorem aid (q:Rat) (l:Nat):dg l (f0 q)=f0 q:=by rw[nQ]; simp
@[simp] theorem ahq (q:Rat) (l:Nat) (e:ze):frz l e (f0 q)=f0 q:=by rw[nQ]; rfl
@[simp] theorem K9 (q:Rat) (a b:Nat):rn a b (f0 q)=f0 q:=by rw[nQ]; rfl
@[simp] theorem ahr (q:Rat) (M:Nat):Am.low M (f0 q)=true:=by rw[nQ]; rfl
@[simp] theorem agO (q:Rat) (k:Nat):zT k (f0 q)=false:=by rw[nQ]; rfl
@[simp] theorem ahs (q:Rat) (k:Nat):pW k (f0 q)=false:=by rw[nQ]; rfl
@[simp] theorem aig (q:Rat):rf (f1 q)=true:=by rw[lc]; rfl
@[simp] theorem agl (q:Rat):strip (f1 q)=f1 q:=by rw[lc]; rfl
@[simp] theorem aif (q:Rat) (l:Nat):dg l (f1 q)=f1 q:=by rw[lc]; simp
@[simp] theorem aht (q:Rat) (l:Nat) (e:ze):frz l e (f1 q)=f1 q:=by rw[lc]; rfl
@[simp] theorem Ja (q:Rat) (a b:Nat):rn a b (f1 q)=f1 q:=by rw[lc]; rfl
@[simp] theorem ahu (q:Rat) (M:Nat):Am.low M (f1 q)=true:=by rw[lc]; rfl
@[simp] theorem agP (q:Rat) (k:Nat):zT k (f1 q)=false:=by rw[lc]; rfl
@[simp] theorem ahv (q:Rat) (k:Nat):pW k (f1 q)=false:=by rw[lc]; rfl
@[simp] theorem aii (q:Rat):rf (f2 q)=true:=by rw[lf]; rfl
@[simp] theorem agm (q:Rat):strip (f2 q)=f2 q:=by rw[lf]; rfl
@[simp] theorem aih (q:Rat) (l:Nat):dg l (f2 q)=f2 q:=by rw[lf]; simp
@[simp] theorem ahw (q:Rat) (l:Nat) (e:ze):frz l e (f2 q)=f2 q:=by rw[lf]; rfl
@[simp] theorem Jb (q:Rat) (a b:Nat):rn a b (f2 q)=f2 q:=by rw[lf]; rfl
@[simp] theorem ahx (q:Rat) (M:Nat):Am.low M (f2 q)=true:=by rw[lf]; rfl
@[simp] theorem agQ (q:Rat) (k:Nat):zT k (f2 q)=false:=by rw[lf]; rfl
@[simp] theorem ahy (q:Rat) (k:Nat):pW k (f2 q)=false:=by rw[lf]; rfl
@[simp] theorem ado {q:Rat}:(fr q).length=3:=by simp[t6]
@[simp] theorem Jc {q:Rat}:(fr q).all rf=true:=by rw[t6]; simp
@[simp] theorem Y5 {q:Rat}:(fr q).map strip=fr q:=by rw[t6]; simp
@[simp] theorem aeJ {q:Rat} {l:Nat}:(fr q).map (dg l)=fr q:=by rw[t6]; simp
@[simp] theorem adn {q:Rat} {l:Nat} {e:ze}:(fr q).map (frz l e)=fr q:=by rw[t6]; rfl
@[simp] theorem aeK {q:Rat} {a b:Nat}:(fr q).map (rn a b)=fr q:=by rw[t6]; rfl
@[simp] theorem adp {q:Rat} {M:Nat}:(fr q).all (Am.low M)=true:=by rw[t6]; rfl
@[simp] theorem adq {q:Rat} {k:Nat}:xg k (fr q)=false:=by rw[t6]; simp
@[simp] theorem ahE {q:Rat} {k:Nat}:(fr q).any (pW k)=false:=by rw[t6]; rfl
@[simp] theorem afK {q:Rat}:zH (fr q) 0 (some 3)=some (fq q):=by
 rw[uH ado Jc,Y5]
@[simp] theorem afZ {q:Rat} {a b c:AV}:splice [a,b,c] 0 (fr q)=fr q:=by rw[t6]; simp[splice]
@[simp] theorem afp {p q:Rat}:splice (fr p) 0 (fr q)=fr q:=by simp[splice]
@[simp] theorem aft {q:Rat} {a b c d e x y z g h:AV}:splice [a,b,c,d,e,x,y,z,g,h] 5 (fr q)=[a,b,c,d,e,f0 q,f1 q,f2 q,g,h]:=by unfold fr; simp[splice,-mE]
@[simp] theorem agV {q:Rat}:(fr q).drop 3=[]:=by rw[t6]; rfl
theorem yE {n:Int} (h1:-9223372036854775808≤n) (h2:n<9223372036854775808):zd Tryz.prog zN [iv n] (fq n):=by rw[← wP]; exact Pu h1 h2
end Go.Proofs.YtfmcplfbnkoglaaGreat

namespace Go.Pb
def vH (fx:List Int) (v:Int) (k:Nat):List Nat:=(List.range k).filter fun i=>decide (fx.getD i 9=v)
def zK (fx:List Int):List Nat:=vH fx 0 fx.length
def Pb.inK (P:Pb) (fx:List Int) (k:Nat):List Of:=(vH fx 1 k).map fun i:Nat=>P.at i
def Pb.inL (P:Pb) (fx:List Int):List Of:=P.inK fx fx.length
def okX (fx:List Int) (i:Nat):Prop:=fx.getD i 9=-1∨fx.getD i 9=0∨fx.getD i 9=1
instance (fx:List Int) (i:Nat):Decidable (okX fx i):=inferInstanceAs (Decidable (_∨_∨_))
def okF (fx:List Int):Prop:=∀ i,i<fx.length→okX fx i
instance (fx:List Int):Decidable (okF fx):=Nat.decidableBallLT fx.length fun i _=>okX fx i
def Pb.relE (P:Pb) (fx:List Int):Int :=
 if P.chk≠0 then P.chk else if fx.length≠P.of.length then 3 else if ¬ okF fx then 4 else if P.fits (P.inL fx) then 0 else 14
def Pb.relB (P:Pb) (fx:List Int) (r:Nat):Int:=P.bnd r-((P.inL fx).map (P.coef r)).sum
def Pb.relC (P:Pb) (fx:List Int) (r:Nat):List Int:=(zK fx).map fun i:Nat=>P.coef r (P.at i)
def Pb.relG (P:Pb) (fx:List Int):List Int:=(zK fx).map fun i:Nat=>(P.at i).v
section
variable {P:Pb} {fx:List Int} {v:Int} {k i:Nat}
theorem fp:vH fx v 0=[]:=rfl
theorem tK:vH fx v (k+1)=if fx.getD k 9=v then vH fx v k++[k] else vH fx v k:=by
 unfold vH
 rw[List.range_succ,List.filter_append]
 by_cases h:fx.getD k 9=v
 ·rw[if_pos h,List.filter_cons_of_pos (by simpa using h)]; rfl
 ·rw[if_neg h,List.filter_cons_of_neg (by simpa using h),List.filter_nil,List.append_nil]
theorem mO (h:i∈vH fx v k):i<k∧fx.getD i 9=v:=by
 unfold vH at h
 obtain ⟨h1,h2⟩:=List.mem_filter.1 h
 exact ⟨by simpa using h1,by simpa using h2⟩
theorem gc:(vH fx v k).length≤k:=by
 unfold vH
 have:=List.length_filter_le (fun i=>decide (fx.getD i 9=v)) (List.range k)
 rwa [List.length_range] at this
theorem T8:(P.inK fx k).length≤k:=by unfold Pb.inK; rw[List.length_map]; exact gc
theorem wI (h:i<P.of.length):P.at (i:Int)=P.of[i]:=by
 unfold Pb.at; rw[Int.toNat_natCast,List.getD_eq_getElem?_getD,List.getElem?_eq_getElem h]; rfl
theorem at_mem (h:i<P.of.length):P.at (i:Int)∈P.of:=by rw[wI h]; exact List.getElem_mem h
theorem LR (h:k≤P.of.length):∀ o∈P.inK fx k,o∈P.of:=fun o ho=>by
 obtain ⟨i,hi,rfl⟩:=List.mem_map.1 ho
 have:=(mO hi).1
 exact at_mem (by omega)
end
end Go.Pb
