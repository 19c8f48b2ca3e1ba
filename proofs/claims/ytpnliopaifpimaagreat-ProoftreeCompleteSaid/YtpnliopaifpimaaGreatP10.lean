/- What the proof rests on, part 10: PB Q0 VE WW WX WY VG VH VI VJ VK VL VM RFx YS WZ VA VB VD VN Q1 Q2 Q3 Q4 Q5 Q6 Q7 PD QD PE QGp QA QB QC PF BA QE Y1 BBs BB CM BC QDp GQ QV GF VO VP PT5 VQ. -/
import Derived.Test.YtpnliopaifpimaaGreatP9
set_option maxRecDepth 100000
set_option maxHeartbeats 4000000
namespace Go.Pb
structure Of where
 b:Int
 w:Nat→Int
 v:Int
structure Pb where
 sup:Nat→Int
 opn:Nat→Int
 cls:Nat→Int
 cl:List Int
 of:List Of
def sh {α:Type} (f:α→Int) (l:List α) (k:Nat):Int:=((l.take k).map f).sum
section
variable {α:Type} {f g:α→Int} {l:List α} {k:Nat} {o:α}
theorem Y9:sh f l 0=0:=rfl
theorem fo (h:l[k]?=some o):l.take (k+1)=l.take k++[o]:=by rw[List.take_add_one,h]; rfl
theorem cr (h:l[k]?=some o):sh f l (k+1)=sh f l k+f o:=by
 unfold sh
 rw[fo h,List.map_append,List.sum_append]
 simp
theorem Zv:sh f l l.length=(l.map f).sum:=by simp[sh]
theorem kJ {a b:Int} (h:∀ o∈l,a≤f o∧f o≤b):∀ k,k≤l.length→a*k≤sh f l k∧sh f l k≤b*k
 | 0,_=>by simp[sh]
 | k+1,hk=>by
  have hk':k<l.length:=by omega
  have hg:l[k]?=some l[k]:=by simp[hk']
  obtain ⟨h1,h2⟩:=kJ h k (by omega)
  obtain ⟨h3,h4⟩:=h l[k] (List.getElem_mem hk')
  rw[cr hg,Int.natCast_add,Int.mul_add,Int.mul_add]
  omega
theorem AI {a b:Int} (h:∀ o∈l,a≤f o∧f o≤b):a*l.length≤(l.map f).sum∧(l.map f).sum≤b*l.length:=by
 have:=kJ h l.length (Nat.le_refl _)
 rwa [Zv] at this
end
def okB (w:Nat→Int):Prop:=∀ j,j<6→0≤w j∧w j≤4
instance (w:Nat→Int):Decidable (okB w):=by unfold okB; exact inferInstance
def jX (w:Nat→Int):Prop:=∀ j,j<6→w j=0
instance (w:Nat→Int):Decidable (jX w):=by unfold jX; exact inferInstance
def eqB (w u:Nat→Int):Prop:=∀ j,j<6→w j=u j
instance (w u:Nat→Int):Decidable (eqB w u):=by unfold eqB; exact inferInstance
def leB (w u:Nat→Int):Prop:=∀ j,j<6→w j≤u j
instance (w u:Nat→Int):Decidable (leB w u):=by unfold leB; exact inferInstance
def Pb.clOf (P:Pb) (b:Int):Int:=P.cl.getD b.toNat 0
def Pb.rows (P:Pb):Nat:=P.cl.length+12
def Pb.coef (P:Pb) (r:Nat) (o:Of):Int :=
 if r<P.cl.length then (if o.b=r then 1 else 0)
 else if r<P.cl.length+6 then o.w (r-P.cl.length)
 else if P.cls (r-P.cl.length-6)=0∨P.cls (r-P.cl.length-6)=P.clOf o.b then 0 else o.w (r-P.cl.length-6)
def Pb.bnd (P:Pb) (r:Nat):Int :=
 if r<P.cl.length then 1 else if r<P.cl.length+6 then P.sup (r-P.cl.length) else P.opn (r-P.cl.length-6)
def Pb.fits (P:Pb) (l:List Of):Prop:=∀ r,r<P.rows→(l.map (P.coef r)).sum≤P.bnd r
instance (P:Pb) (l:List Of):Decidable (P.fits l):=by unfold Pb.fits; exact inferInstance
def Pb.okC (P:Pb) (j:Nat):Prop:=0≤P.cls j∧P.cls j≤4∧0≤P.opn j∧P.opn j≤P.sup j∧(P.cls j=0→P.opn j=P.sup j)
instance (P:Pb) (j:Nat):Decidable (P.okC j):=by unfold Pb.okC; exact inferInstance
def Pb.okCs (P:Pb):Prop:=∀ j,j<6→P.okC j
instance (P:Pb):Decidable P.okCs:=Nat.decidableBallLT 6 fun j _=>P.okC j
def kI (c:Int):Prop:=0≤c∧c≤4
instance (c:Int):Decidable (kI c):=by unfold kI; exact inferInstance
def Pb.frameE (P:Pb):Int :=
 if ¬ okB P.sup then 4 else if ¬ P.okCs then 4 else if 8<P.cl.length∨160<P.of.length then 3 else if ∀ c∈P.cl,kI c then 0 else 4
def qT (n:Nat) (o:Of):Int:=if o.b<0∨(n:Int)≤o.b then 6 else if o.v<1∨1000000<o.v then 4 else if okB o.w then 0 else 4
def Pb.offE (P:Pb) (o:Of):Int:=if qT P.cl.length o≠0 then qT P.cl.length o else if jX o.w then 4 else if P.fits [o] then 0 else 14
def nr (o o':Of):Prop:=o.b=o'.b∧eqB o.w o'.w
instance (o o':Of):Decidable (nr o o'):=by unfold nr; exact inferInstance
def Pb.offI (P:Pb) (i:Nat) (o:Of):Int:=if P.offE o≠0 then P.offE o else if ∃ o'∈P.of.take i,nr o' o then 7 else 0
def Pb.chkL (P:Pb):Nat→Int
 | 0=>0
 | i+1=>if P.chkL i=0 then (match P.of[i]? with | some o=>P.offI i o | none=>0) else P.chkL i
def Pb.chk (P:Pb):Int:=if P.frameE=0 then P.chkL P.of.length else P.frameE
section
variable {P:Pb}
theorem P5 {i:Nat} (h:P.chkL i≠0):∀ d,P.chkL (i+d)=P.chkL i
 | 0=>rfl
 | d+1=>by
  have:=P5 h d
  rw[← Nat.add_assoc,Pb.chkL,this,if_neg h]
theorem gY {i k:Nat} {o:Of} (h0:P.chkL i=0) (hi:P.of[i]?=some o) (he:P.offI i o≠0) (hk:i<k):P.chkL k=P.offI i o:=by
 have h1:P.chkL (i+1)=P.offI i o:=by rw[Pb.chkL,if_pos h0,hi]
 have h2:=P5 (P:=P) (i:=i+1) (by rw[h1]; exact he) (k-(i+1))
 rw[show i+1+(k-(i+1))=k by omega] at h2
 rw[h2,h1]
theorem P4 {i:Nat} {o:Of} (h0:P.chkL i=0) (hi:P.of[i]?=some o) (he:P.offI i o=0):P.chkL (i+1)=0:=by rw[Pb.chkL,if_pos h0,hi]; exact he
theorem D1 {k:Nat} (h:P.chkL k=0):∀ i o,i<k→P.of[i]?=some o→P.offI i o=0:=by
 induction k with
 | zero=>intro i o hi; omega
 | succ k ih =>
  have hk:P.chkL k=0:=by
   rw[Pb.chkL] at h
   split at h
   ·rename_i h0; exact h0
   ·exact h
  intro i o hi ho
  by_cases e:i=k
  ·subst e
   rw[Pb.chkL,if_pos hk,ho] at h
   exact h
  ·exact ih hk i o (by omega) ho
structure Pb.Good (P:Pb):Prop where
 sup:okB P.sup
 set:P.okCs
 n:P.cl.length≤8
 k:P.of.length≤160
 cl:∀ c∈P.cl,kI c
 off:∀ o∈P.of,P.offE o=0
 new:∀ (i l:Nat) o o',l<i→P.of[i]?=some o→P.of[l]?=some o'→¬ nr o' o
theorem vR (h:P.chk=0):P.Good:=by
 unfold Pb.chk at h
 split at h
 ·rename_i hf
  unfold Pb.frameE at hf
  split at hf
  ·cases hf
  ·rename_i h1
   split at hf
   ·cases hf
   ·rename_i h2
    split at hf
    ·cases hf
    ·rename_i h3
     split at hf
     ·rename_i h4
      have hz:=D1 h
      refine ⟨Decidable.not_not.1 h1,Decidable.not_not.1 h2,by omega,by omega,h4,fun o ho=>?_,fun i l o o' hl hi hlo hs=>?_⟩
      ·obtain ⟨i,hi,rfl⟩:=List.getElem_of_mem ho
       have:=hz i P.of[i] hi (by simp[hi])
       unfold Pb.offI at this
       split at this
       ·exact this
       ·rename_i h5; exact Decidable.not_not.1 h5
      ·have hi':i<P.of.length:=(List.getElem?_eq_some_iff.1 hi).1
       have:=hz i o hi' hi
       unfold Pb.offI at this
       split at this
       ·rename_i h5; exact h5 this
       ·rw[if_pos ⟨o',List.mem_of_getElem? (i:=l) (by rw[List.getElem?_take,if_pos hl]; exact hlo),hs⟩] at this
        cases this
     ·cases hf
 ·rename_i hf; exact absurd h hf
theorem wS {o:Of} (h:P.offE o=0):qT P.cl.length o=0∧¬ jX o.w∧P.fits [o]:=by
 unfold Pb.offE at h
 split at h
 ·rename_i h1; exact absurd h h1
 ·rename_i h1
  split at h
  ·cases h
  ·rename_i h2
   split at h
   ·rename_i h3; exact ⟨Decidable.not_not.1 h1,h2,h3⟩
   ·cases h
theorem vJ {n:Nat} {o:Of} (h:qT n o=0):(0≤o.b∧o.b<n)∧(1≤o.v∧o.v≤1000000)∧okB o.w:=by
 unfold qT at h
 split at h
 ·cases h
 ·rename_i h1
  split at h
  ·cases h
  ·rename_i h2
   split at h
   ·rename_i h3; exact ⟨by omega,by omega,h3⟩
   ·cases h
theorem nf {r:Nat} {o:Of} (hw:okB o.w) (hr:r<P.rows):0≤P.coef r o∧P.coef r o≤4:=by
 unfold Pb.rows at hr
 unfold Pb.coef
 split
 ·split<;>omega
 ·split
  ·exact hw _ (by omega)
  ·split
   ·omega
   ·exact hw _ (by omega)
end
end Go.Pb

namespace Go.Proofs.YtpnliopaifpimaaGreat
open Go Go.Am Go.Pb
def bI (w:Nat→Int):List Int:=[w 0,w 1,w 2,w 3,w 4,w 5]
@[irreducible] def bC (w:Nat→Int):List AV:=(bI w).map iv
theorem tn (w:Nat→Int):bC w=[iv (w 0),iv (w 1),iv (w 2),iv (w 3),iv (w 4),iv (w 5)]:=by unfold bC; rfl
section
variable {w u:Nat→Int} {k l a b M:Nat} {e:zf}
@[simp] theorem agh:(bC w).length=6:=by rw[tn]; rfl
@[simp] theorem ah3:(bC w).all rf=true:=by rw[tn]; rfl
theorem agi {x:AV} (h:x∈bC w):∃ n,x=iv n:=by
 unfold bC at h
 obtain ⟨n,_,rfl⟩:=List.mem_map.1 h
 exact ⟨n,rfl⟩
@[simp] theorem ajA:(∀ x,x∈bC w→rf x=true)=True:=eq_true fun x h=>by obtain ⟨n,rfl⟩:=agi h; rfl
@[simp] theorem aak:(bC w).map strip=bC w:=by rw[tn]; rfl
@[simp] theorem alW:(bC w).map (dg l)=bC w:=by rw[tn]; simp
@[simp] theorem ale:wy k (bC w)=false:=by rw[tn]; simp
theorem MS (h:k<6):(bC w)[k]?=some (iv (w k)):=by
 rw[tn]
 match k,h with
 | 0,_=>rfl
 | 1,_=>rfl
 | 2,_=>rfl
 | 3,_=>rfl
 | 4,_=>rfl
 | 5,_=>rfl
 | n+6,h=>omega
@[simp] theorem akO {h:k<(bC w).length}:(bC w)[k]=iv (w k):=by
 have h2:k<6:=by simpa using h
 have:=MS (w:=w) h2
 rw[List.getElem?_eq_getElem h] at this
 exact Option.some.inj this
@[simp] theorem ajH:zH (bC w) 0 (some 6)=some (.agg (bC w)):=by rw[sM agh ah3,aak]
theorem YS (h:k<6):zH (bC w) k none=some (iv (w k)):=by
 simp[zH,MS h]
theorem TZ (h:k<6):uS (bC w) k none=some (iv (w k)):=by
 simp[uS,MS h]
@[simp] theorem lD:eR 6 (bC w)=true:=by unfold bC; rw[Ro]; rfl
@[simp] theorem aks:Zi (bC w)=bI w:=by unfold bC; exact YW _
theorem Mq:(bI w=bI u)↔eqB w u:=by
 unfold bI eqB
 constructor
 ·intro h j hj
  simp only[List.cons.injEq,and_true] at h
  obtain ⟨h0,h1,h2,h3,h4,h5⟩:=h
  match j,hj with
  | 0,_=>exact h0
  | 1,_=>exact h1
  | 2,_=>exact h2
  | 3,_=>exact h3
  | 4,_=>exact h4
  | 5,_=>exact h5
  | n+6,h=>omega
 ·intro h
  rw[h 0 (by omega),h 1 (by omega),h 2 (by omega),h 3 (by omega),h 4 (by omega),h 5 (by omega)]
end
@[irreducible] def oC (o:Of):List AV:=iv o.b::(bC o.w++[iv o.v])
theorem pc (o:Of):oC o=[iv o.b,iv (o.w 0),iv (o.w 1),iv (o.w 2),iv (o.w 3),iv (o.w 4),iv (o.w 5),iv o.v]:=by unfold oC; rw[tn]; rfl
section
variable {o:Of} {k l:Nat}
@[simp] theorem ahb:(oC o).length=8:=by rw[pc]; rfl
@[simp] theorem adu:(oC o).all rf=true:=by rw[pc]; rfl
@[simp] theorem ajR:(∀ x,x∈oC o→rf x=true)=True:=eq_true fun x h=>List.all_eq_true.1 adu x h
@[simp] theorem abG:(oC o).map strip=oC o:=by rw[pc]; rfl
@[simp] theorem amp:(oC o).map (dg l)=oC o:=by rw[pc]; simp
@[simp] theorem alK:wy k (oC o)=false:=by rw[pc]; simp
@[simp] theorem akz:(oC o)[0]?=some (iv o.b):=by rw[pc]; rfl
@[simp] theorem akA:(oC o)[7]?=some (iv o.v):=by rw[pc]; rfl
@[simp] theorem amn {h:0<(oC o).length}:(oC o)[0]=iv o.b:=by have:=akz (o:=o); rw[List.getElem?_eq_getElem h] at this; exact Option.some.inj this
@[simp] theorem amo {h:7<(oC o).length}:(oC o)[7]=iv o.v:=by have:=akA (o:=o); rw[List.getElem?_eq_getElem h] at this; exact Option.some.inj this
theorem Bo (h:k<6):(oC o)[1+k]?=some (iv (o.w k)):=by
 rw[pc]
 match k,h with
 | 0,_=>rfl
 | 1,_=>rfl
 | 2,_=>rfl
 | 3,_=>rfl
 | 4,_=>rfl
 | 5,_=>rfl
 | n+6,h=>omega
@[simp] theorem ajN:zH (oC o) 0 (some 8)=some (.agg (oC o)):=by rw[sM ahb adu,abG]
@[simp] theorem aik:zH (oC o) 0 none=some (iv o.b):=by simp[zH]
@[simp] theorem ail:zH (oC o) 7 none=some (iv o.v):=by simp[zH]
@[simp] theorem ain:zH (oC o) 1 (some 6)=some (.agg (bC o.w)):=by rw[pc,tn]; rfl
theorem Zf (h:k<6):zH (oC o) (1+k) none=some (iv (o.w k)):=by simp[zH,Bo h]
end
def clR (l:List Int):List (List AV):=l.map fun c=>[iv c]
abbrev clA (l:List Int):AV:=.list 1 .plain (clR l)
def ofR (l:List Of):List (List AV):=l.map oC
abbrev ofA (l:List Of):AV:=.list 8 .plain (ofR l)
section
variable {l:List Int} {L:List Of} {k:Nat} {c:Int} {o:Of}
@[simp] theorem lm:(clR l).length=l.length:=by simp[clR]
@[simp] theorem alf:wh (clR l)=true:=by simp[clR,wh]
@[simp] theorem alg:zT (clR l)=clR l:=by simp[clR,zT]
@[simp] theorem qM:(ofR L).length=L.length:=by simp[ofR]
@[simp] theorem alL:wh (ofR L)=true:=by simp[ofR,wh]
@[simp] theorem alM:zT (ofR L)=ofR L:=by simp[ofR,zT]
end
@[irreducible] def pbX (P:Pb) (c o:AV):List AV:=bC P.sup++bC P.opn++bC P.cls++[c,o]
theorem xw (P:Pb) (c o:AV):pbX P c o=[iv (P.sup 0),iv (P.sup 1),iv (P.sup 2),iv (P.sup 3),iv (P.sup 4),iv (P.sup 5),iv (P.opn 0),iv (P.opn 1),iv (P.opn 2),iv (P.opn 3),iv (P.opn 4),iv (P.opn 5),
  iv (P.cls 0),iv (P.cls 1),iv (P.cls 2),iv (P.cls 3),iv (P.cls 4),iv (P.cls 5),c,o]:=by unfold pbX; rw[tn,tn,tn]; rfl
abbrev pbC (P:Pb):List AV:=pbX P (clA P.cl) (ofA P.of)
section
variable {P:Pb} {c o:AV} {k l:Nat}
@[simp] theorem ae4:(pbX P c o).length=20:=by rw[xw]; rfl
theorem ahj (hc:rf c=true) (ho:rf o=true):(pbX P c o).all rf=true:=by rw[xw]; simp[hc,ho]
@[simp] theorem BI:(pbC P).all rf=true:=ahj rfl rfl
@[simp] theorem aja:(∀ x,x∈pbC P→rf x=true)=True:=eq_true fun x h=>List.all_eq_true.1 BI x h
@[simp] theorem BJ:(pbX P c o).map strip=pbX P (strip c) (strip o):=by rw[xw,xw]; rfl
@[simp] theorem alN:(pbX P c o).map (dg l)=pbX P (dg l c) (dg l o):=by rw[xw,xw]; simp
@[simp] theorem ak6:wy k (pbX P c o)=(zP k c||zP k o):=by rw[xw]; simp[wy]
@[simp] theorem aip:zH (pbC P) 0 (some 20)=some (.agg (pbC P)):=by rw[sM ae4 BI,BJ]; rfl
@[simp] theorem aiq:zH (pbX P c o) 0 (some 6)=some (.agg (bC P.sup)):=by rw[xw,tn]; rfl
@[simp] theorem aio:zH (pbX P c o) 6 (some 6)=some (.agg (bC P.opn)):=by rw[xw,tn]; rfl
@[simp] theorem aij:zH (pbX P c o) 12 (some 6)=some (.agg (bC P.cls)):=by rw[xw,tn]; rfl
@[simp] theorem ahh:(pbX P c o)[18]?=some c:=by rw[xw]; rfl
@[simp] theorem ahi:(pbX P c o)[19]?=some o:=by rw[xw]; rfl
@[simp] theorem ajF:zH (pbX P c o) 18 none=some c:=by rw[xw]; rfl
@[simp] theorem ajG:zH (pbX P c o) 19 none=some o:=by rw[xw]; rfl
@[simp] theorem ak4 {h:18<(pbX P c o).length}:(pbX P c o)[18]=c:=by have:=ahh (P:=P) (c:=c) (o:=o); rw[List.getElem?_eq_getElem h] at this; exact Option.some.inj this
@[simp] theorem ak5 {h:19<(pbX P c o).length}:(pbX P c o)[19]=o:=by have:=ahi (P:=P) (c:=c) (o:=o); rw[List.getElem?_eq_getElem h] at this; exact Option.some.inj this
theorem vd (h:k<6):zH (pbX P c o) k none=some (iv (P.sup k)):=by
 rw[xw]
 match k,h with
 | 0,_=>rfl
 | 1,_=>rfl
 | 2,_=>rfl
 | 3,_=>rfl
 | 4,_=>rfl
 | 5,_=>rfl
 | n+6,h=>omega
theorem yA (h:k<6):zH (pbX P c o) (6+k) none=some (iv (P.opn k)):=by
 rw[xw]
 match k,h with
 | 0,_=>rfl
 | 1,_=>rfl
 | 2,_=>rfl
 | 3,_=>rfl
 | 4,_=>rfl
 | 5,_=>rfl
 | n+6,h=>omega
theorem yn (h:k<6):zH (pbX P c o) (12+k) none=some (iv (P.cls k)):=by
 rw[xw]
 match k,h with
 | 0,_=>rfl
 | 1,_=>rfl
 | 2,_=>rfl
 | 3,_=>rfl
 | 4,_=>rfl
 | 5,_=>rfl
 | n+6,h=>omega
theorem ab1 (h:k<6):(pbX P c o)[k]?=some (iv (P.sup k)):=by have:=vd (P:=P) (c:=c) (o:=o) h; simpa [zH] using this
theorem ab0 (h:k<6):(pbX P c o)[6+k]?=some (iv (P.opn k)):=by have:=yA (P:=P) (c:=c) (o:=o) h; simpa [zH] using this
theorem T0 (h:k<6):(pbX P c o)[12+k]?=some (iv (P.cls k)):=by have:=yn (P:=P) (c:=c) (o:=o) h; simpa [zH] using this
@[simp] theorem ajW {x:AV}:splice (pbX P c o) 18 [x]=pbX P x o:=by rw[xw,xw]; rfl
@[simp] theorem ajX {x:AV}:splice (pbX P c o) 19 [x]=pbX P c x:=by rw[xw,xw]; rfl
end
open Go.Dig Go.LP
def zR (f:Nat→Int) (n:Nat):List (List AV):=mR (fun i=>[iv (f i)]) n
section
variable {f g:Nat→Int} {n i k:Nat} {e:zf}
@[simp] theorem alU:(zR f n).length=n:=Rz
@[simp] theorem alc {hi:i<(zR f n).length}:(zR f n)[i]=[iv (f i)]:=QT
theorem k6 {x:Int}:(zR f n).set i [iv x]=zR (upd f i x) n:=by
 unfold zR
 rw[C8]
 exact eT fun j _=>by unfold upd; split<;>rfl
theorem Sx (h:∀ i,i<n→f i=g i):zR f n=zR g n:=eT fun i hi=>by rw[h i hi]
theorem Ql:List.replicate n [iv 0]=zR (fun _=>0) n:=by
 unfold zR mR
 apply List.ext_getElem
 ·simp
 ·intro i h1 h2
  simp
@[simp] theorem alT:((zR f n).map fun r=>r.map (frz k e))=zR f n:=bZ fun _=>rfl
@[simp] theorem amt:yC k (zR f n)=zR f n:=bZ fun _=>by simp
@[simp] theorem alV:uH k (zR f n)=false:=C7 fun _=>by simp
@[simp] theorem amu:wh (zR f n)=true:=Ka fun _=>by simp
@[simp] theorem amv:zT (zR f n)=zR f n:=bZ fun _=>by simp
theorem ahR:zR f n=clR ((List.range n).map f):=by unfold zR mR clR; rw[List.map_map]; rfl
end
end Go.Proofs.YtpnliopaifpimaaGreat

set_option maxRecDepth 20000
namespace Go.Proofs.YtpnliopaifpimaaGreat
open Go Go.Am Go.Wr Go.Dig
abbrev uZ (x:Fr):List UInt8:=ku x.1 x.2.1 x.2.2
theorem Tz {x:Fr} (h:wI x):(uZ x).length≤400000000000:=by
 obtain ⟨h1,h2,h3,h4⟩:=h
 have e1:=jp h1 (by omega)
 have e2:=jp h2 (by omega)
 have e3:=vS (x:=if x.1=true then 1 else 0) (by split<;>omega)
 show (ku x.1 x.2.1 x.2.2).length≤_
 unfold ku
 simp only[List.length_append]
 omega
theorem YM {P:List Fr} (hP:∀ x∈P,wI x):∀ k,k≤P.length→((P.take k).flatMap uZ).length≤k*400000000000
 | 0,_=>by simp
 | k+1,h=>by
  have:=YM hP k (by omega)
  have h2:=Tz (hP _ (List.getElem_mem (show k<P.length by omega)))
  rw[List.take_succ_eq_append_getElem (by omega),List.flatMap_append,List.length_append]
  have e:([P[k]].flatMap uZ)=uZ P[k]:=by simp
  rw[e]
  omega
noncomputable def Pm (P:List Fr) (k:Nat):St:={env:=[(3,sv (enc P.length++(P.take k).flatMap uZ)),(14,.list 3 .plain (v9 P)),(15,iv P.length),(16,iv k)],sto:=[]}
theorem agG {N:Nz} (hP:∀ x∈N.P,wI x) (hl:N.P.length≤40):ze Tryz.prog xL [.agg (zc N)] (sv (enc N.P.length++N.P.flatMap uZ)):=by
 obtain ⟨K,O,U,I,P⟩:=N
 simp only at hP hl ⊢
 have w0:IntKind.u64.wrap (P.length:Int)=(P.length:Int):=w64 (by omega)
 have hll:=vS (x:=P.length) (by omega)
 refine zn kV (by simp) ?_
 simp[sG,w0]
 refine za (pU (x:=P.length) (by omega)) (by simp) (by simp) ?_
 simp
 refine yl (Pm P) P.length (by simp[Pm]) (fun k hk=>?_) ?_
 ·have ht:=YM hP k (Nat.le_of_lt hk)
  have hx:=hP _ (List.getElem_mem hk)
  have hxl:=Tz hx
  have hst:Pm P (k+1)={env:=[(3,sv (enc P.length++((P.take k).flatMap uZ++uZ P[k]))),(14,.list 3 .plain (v9 P)),(15,iv P.length),(16,iv ((k:Int)+1))],sto:=[]}:=by
   rw[Pm,List.take_succ_eq_append_getElem hk,List.flatMap_append]
   simp
  have w1:=zm (k:=k) (by omega)
  rw[Pm]
  generalize (P.take k).flatMap uZ=L at *
  generalize he:P[k]=x at *
  have kl:=agR (s:=x.1) (m1:=.plain) (m2:=.plain) hx.1 hx.2.1 (by have:=hx.2.2.1; omega) (by have:=hx.2.2.2; omega) rfl rfl
  simp[wz,hk,he]
  refine za kl (by simp) (by simp) ?_
  have hxl':(ku x.1 x.2.1 x.2.2).length≤400000000000:=hxl
  simp
  rw[sm (by simp; omega)]
  simp[w1,hst]
 ·rw[Pm]
  simp[wz,tu,amG]
end Go.Proofs.YtpnliopaifpimaaGreat

set_option maxRecDepth 20000
namespace Go.Proofs.YtpnliopaifpimaaGreat
open Go Go.Am Go.Wr Go.Dig
theorem aix : ue Tryz.prog xP "saleroom/prooftree.encode" = some xL := by kernel_rfl
theorem aiz : ue Tryz.prog xG "saleroom/prooftree.encode" = some xz := by kernel_rfl
theorem aiy : ue Tryz.prog xa "saleroom/prooftree.encode" = some xg := by kernel_rfl
theorem aiS:yy Tryz.prog xL=true:=by kernel_rfl
theorem aiU:yy Tryz.prog xz=true:=by kernel_rfl
theorem aiT:yy Tryz.prog xg=true:=by kernel_rfl
theorem aif {N : Nz} {σ : Nat → Option zf} {K : AV → Option zf → Prop} (hP : ∀ x ∈ N.P, wI x) (hz : okZ N = true) (h : K (sv (encZ N)) none) : tp "saleroom/prooftree.encode" (ofZ N) [] σ K := by
 unfold ofZ
 unfold okZ at hz
 unfold encZ at h
 split at hz
 ·rename_i hk
  simp only[hk,if_true] at h ⊢
  simp only[tp,aix,aiS]
  simp only[Bool.and_eq_true,decide_eq_true_eq] at hz
  exact ⟨trivial,za (agG hP hz.1.2) nt (.inl rfl) h⟩
 ·rename_i hk
  simp only[hk,if_false] at h ⊢
  split at hz
  ·rename_i hk
   simp only[hk,if_true] at h ⊢
   simp only[tp,aiz,aiU]
   simp only[Bool.and_eq_true,decide_eq_true_eq] at hz
   exact ⟨trivial,za (agI hz.1.1.1 hz.1.1.2 hz.1.2) nt (.inl rfl) h⟩
  ·rename_i hk
   simp only[hk,if_false] at h ⊢
   split at hz
   ·rename_i hk
    simp only[hk,if_true]
    simp only[tp,aiy,aiT]
    exact ⟨trivial,za agH nt (.inl rfl) h⟩
   ·cases hz
end Go.Proofs.YtpnliopaifpimaaGreat

set_option maxRecDepth 20000
namespace Go.Wr
abbrev xl (N:Nz):List UInt8:=enc N.K.toNat++encZ N
def s4 (T:List Nz):List UInt8:=enc T.length++T.flatMap xl
end Go.Wr
namespace Go.Proofs.YtpnliopaifpimaaGreat
open Go Go.Am Go.Wr Go.Dig
theorem UV {d l:Nat} {rows:List (List AV)} {b:List UInt8} {s:St} {K:St→Prop}:yY 1 1 s (some d) K [.list 1 (.own l) rows,sv b] =
  (rows.length+b.length≤140737488355328∧rows.length+b.length≤9223372036854775807∧lk s.sto l=none∧K ((s.dg l).put (some d) (.list 1 (.own l) (rows++q7 b)))):=by
 simp[yY,xb,str]
theorem UU {d by_:Nat} {b:List UInt8} {s:St} {K:St→Prop}:yY 0 by_ s (some d) K [sv b] =
  (lk s.sto (s.base+d)=none∧K ((s.dg (s.base+d)).put (some d) (.list 1 (.own (s.base+d)) (q7 b)))):=by
 simp[yY,str]
theorem U5 {sz by_:Nat} {a:Opd} {d:Option Nat} {os:List zi} {s:St} {KS:St→Prop}:zl Tryz.prog (⟨d,.append sz by_,[a],none⟩::os) s KS=yY sz by_ s d (bm Tryz.prog os KS) [ev s a]:=propext Iff.rfl
theorem Ch {l:Nat} {N:Nz}:dg l (ofZ N)=ofZ N:=by
 unfold ofZ
 split
 ·rfl
 ·split
  ·rfl
  ·split<;>rfl
theorem KM {k:Nat} {N:Nz}:zP k (ofZ N)=false:=by
 unfold ofZ
 split
 ·simp[zP]
 ·split
  ·simp[zP]
  ·split<;>simp[zP]
abbrev zI (T:List Nz):List (List AV):=T.map zc
def dm (T:List Nz) (k:Nat):St:={env:=[(4,.list 1 (.own 15) (q7 (enc T.length++(T.take k).flatMap xl))),(16,.list 5 .plain (zI T)),(17,iv T.length),(18,iv k)],sto:=[]}
theorem UX {T:List Nz} {k:Nat} {KK:Exit→St→Prop} (hk:k<T.length) (hP:∀ N∈T,∀ x∈N.P,wI x) (hl:T.length≤65536) (hz:okZ T[k]=true) (hb:(s4 T).length≤1000000000000) :
  awp Tryz.prog wO (dm T k) (cF (dm T) (k+1) KK):=by
 have hx:=hP _ (List.getElem_mem hk)
 have hpre:(enc T.length++(T.take (k+1)).flatMap xl).length≤1000000000000:=by
  have e:T.flatMap xl=(T.take (k+1)).flatMap xl++(T.drop (k+1)).flatMap xl:=by rw[← List.flatMap_append,List.take_append_drop]
  unfold s4 at hb
  rw[e] at hb
  simp only[List.length_append] at hb ⊢
  omega
 have e2:(T.take (k+1)).flatMap xl=(T.take k).flatMap xl++xl T[k]:=by
  rw[List.take_succ_eq_append_getElem hk,List.flatMap_append]
  simp
 have hst:dm T (k+1)={env:=[(4,.list 1 (.own 15) (q7 (enc T.length++((T.take k).flatMap xl++xl T[k])))),(16,.list 5 .plain (zI T)),(17,iv T.length),(18,iv ((k:Int)+1))],sto:=[]}:=by
  rw[dm,e2]; rfl
 rw[e2] at hpre
 have w1:=zm (k:=k) (by omega)
 rw[dm]
 generalize (T.take k).flatMap xl=L at *
 generalize he:T[k]=N at *
 have hK:∃ c:Nat,N.K=c∧c≤3:=by
  unfold okZ at hz
  by_cases h1:N.K=1
  ·exact ⟨1,h1,by omega⟩
  ·by_cases h2:N.K=2
   ·exact ⟨2,h2,by omega⟩
   ·by_cases h3:N.K=3
    ·exact ⟨3,h3,by omega⟩
    ·rw[if_neg h1,if_neg h2,if_neg h3] at hz; cases hz
 obtain ⟨c,hc,hc3⟩:=hK
 have wc:IntKind.u64.wrap (c:Int)=(c:Int):=w64 (by omega)
 have hcn:N.K.toNat=c:=by omega
 have hN:xl N=enc c++encZ N:=by show enc N.K.toNat++encZ N=_; rw[hcn]
 rw[hN] at hst hpre
 simp only[List.length_append] at hpre
 simp[wO,hk,he]
 refine za (Kq (N:=N)) (by simp) (by simp) ?_
 simp[-ux,pK]
 refine adl hx ?_
 rw[hz]
 simp[-ux,hc,wc]
 refine za (pU (x:=c) (by omega)) (by simp) (by simp) ?_
 simp[-ux,pK,Zs,UV,Ch,KM,-List.map_append]
 refine ⟨by omega,by omega,?_⟩
 refine aif hx hz ?_
 simp[-ux,Zs,UV,Ch,w1,hst]
 omega
theorem Ct {T:List Nz} (hP:∀ N∈T,∀ x∈N.P,wI x) (hl:T.length≤65536) (hok:∀ N∈T,okZ N=true) (hb:(s4 T).length≤1000000000000):ze Tryz.prog wK [.list 5 .plain (zI T)] (.tuple [sv (s4 T),iv 0]):=by
 have hl':¬ (65536:Int)<T.length:=by omega
 have w0:IntKind.u64.wrap (T.length:Int)=(T.length:Int):=w64 (by omega)
 refine zn go (by simp) ?_
 simp[pD,hl',w0]
 refine za (pU (x:=T.length) (by omega)) (by simp) (by simp) ?_
 simp[U5,UU]
 refine yl (dm T) T.length (by simp[dm]) (fun k hk=>?_) ?_
 ·exact UX hk hP hl (hok _ (List.getElem_mem hk)) hb
 ·rw[dm]
  simp[wO,m8,Mt,pO,s4,-List.map_append]
end Go.Proofs.YtpnliopaifpimaaGreat

set_option maxRecDepth 20000
namespace Go.Proofs.YtpnliopaifpimaaGreat
open Go Go.Am Go.Wr Go.Dig Go.Tr Go.LP
def Pq (T:List Nz) (f:Nat→Int) (i:Nat):St:={env:=[(0,.list 5 .plain (zI T)),(3,.sl 21 1 0 T.length),(22,.list 5 .plain (zI T)),(23,iv T.length),(24,iv i)],sto:=[(21,.arr 1 (zR f T.length))]}
def mM (T:List Nz) (i:Nat) (u v:Int) (f:Nat→Int) (q:Nat):St:={env:=[(0,.list 5 .plain (zI T)),(3,.sl 21 1 0 T.length),(22,.list 5 .plain (zI T)),(23,iv T.length),(24,iv i),(4,iv i),(35,.list 1 .full [[iv u],[iv v]]),(36,iv 2),(37,iv q)],sto:=[(21,.arr 1 (zR f T.length))]}
def cd (T:List Nz) (i:Nat) (f:Nat→Int) (x:Int):Prop:=∃ u:Nat,x=u∧i<u∧u<T.length∧f u=0
theorem JY {T:List Nz} {i:Nat} {a b:Int} {f:Nat→Int} {KK:Exit→St→Prop} (_hT:T.length≤65536) (_hi:i<T.length) (hf:∀ k,0≤f k)
  (bad:(¬ cd T i f a∨∃ u:Nat,a=u∧cd T i f a∧¬ cd T i (upd f u 1) b)→KK .ret {env:=[(2,bv false)],sto:=[]})
  (good:∀ u v:Nat,a=u→b=v→cd T i f a→cd T i (upd f u 1) b→KK (.exit 2) {env:=[(0,.list 5 .plain (zI T)),(3,.sl 21 1 0 T.length),(22,.list 5 .plain (zI T)),(23,iv T.length),(24,iv i),(4,iv i),(35,.list 1 .full [[iv a],[iv b]]),(36,iv 2),(37,iv 2),(38,bv false)],sto:=[(21,.arr 1 (zR (upd (upd f u 1) v 1) T.length))]}) :
  awp Tryz.prog (.loop z4) (mM T i a b f 0) KK:=by
 have w0:=zm (k:=0) (by omega)
 have w1:=zm (k:=1) (by omega)
 simp at w0 w1
 have no:∀ {g:Nat→Int} {x:Int},(∀ k,0≤g k)→¬ cd T i g x→x≤i∨(¬ x≤i∧(T.length:Int)≤x)∨∃ u:Nat,x=u∧¬ (u:Int)≤i∧¬ (T.length:Int)≤u∧0<g u∧u<T.length∧(u:Int)<T.length:=fun {g x} hg h=>by
  by_cases d1:x≤i
  ·exact .inl d1
  ·by_cases d2:(T.length:Int)≤x
   ·exact .inr (.inl ⟨d1,d2⟩)
   ·obtain ⟨u,rfl⟩:∃ u:Nat,x=u:=⟨x.toNat,by omega⟩
    have d3:0<g u:=by
     have h0:=hg u
     by_cases e:g u=0
     ·exact absurd ⟨u,rfl,by omega,by omega,e⟩ h
     ·omega
    exact .inr (.inr ⟨u,rfl,d1,d2,d3,by omega,by omega⟩)
 have q0:∀ (v:Int) (st1:Nat→St) (K2:Exit→St→Prop) (u:Nat),i<u→u<T.length→f u=0→st1 1=mM T i u v (upd f u 1) 1→awp Tryz.prog z4 (mM T i u v f 0) (cF st1 1 K2):=fun v st1 K2 u u1 u2 u3 hs=>by
  have u1':¬ (u:Int)≤i:=by omega
  have u2':¬ (T.length:Int)≤u:=by omega
  have u2'':(u:Int)<T.length:=by omega
  have wu:IntKind.i64.wrap 1=1:=by decide
  simp[z4,mM,u1',u2',u2,u2'',u3,w0,hs,splice,k6]
 by_cases c1:cd T i f a
 ·have c1':=c1
  obtain ⟨u,rfl,u1,u2,u3⟩:=c1
  have hf':∀ k,0≤upd f u 1 k:=fun k=>by unfold upd; split; decide; exact hf k
  by_cases c2:cd T i (upd f u 1) b
  ·have c2':=c2
   obtain ⟨v,rfl,v1,v2,v3⟩:=c2
   refine yl (fun q=>mM T i u v (if q=0 then f else if q=1 then upd f u 1 else upd (upd f u 1) v 1) q) 2 (by simp) (fun k hk=>?_) ?_
   ·have:k=0∨k=1:=by omega
    rcases this with rfl | rfl
    ·exact q0 _ _ _ u u1 u2 u3 (by simp)
    ·have v1':¬ (v:Int)≤i:=by omega
     have v2':¬ (T.length:Int)≤v:=by omega
     have v2'':(v:Int)<T.length:=by omega
     simp[z4,mM,v1',v2',v2,v2'',v3,w0,w1,splice,k6]
   ·simp[z4,mM]
    exact good u v rfl rfl c1' c2'
  ·refine yl (fun q=>mM T i u b (if q=0 then f else upd f u 1) q) 1 (by simp) (fun k hk=>?_) ?_
   ·have:k=0:=by omega
    subst this
    exact q0 _ _ _ u u1 u2 u3 (by simp)
   ·have fin:=bad (.inr ⟨u,rfl,c1',c2⟩)
    rcases no hf' c2 with d | ⟨d,d'⟩ | ⟨v,rfl,v1,v2,v3,v4,v5⟩
    ·simp[z4,mM,d]
     exact fin
    ·simp[z4,mM,d,d']
     exact fin
    ·simp[z4,mM,v1,v2,v3,v4,v5]
     exact fin
 ·refine yl (fun q=>mM T i a b f q) 0 rfl (fun k hk=>absurd hk (Nat.not_lt_zero k)) ?_
  have fin:=bad (.inl c1)
  rcases no hf c1 with d | ⟨d,d'⟩ | ⟨v,rfl,v1,v2,v3,v4,v5⟩
  ·simp[z4,mM,d]
   exact fin
  ·simp[z4,mM,d,d']
   exact fin
  ·simp[z4,mM,v1,v2,v3,v4,v5]
   exact fin
end Go.Proofs.YtpnliopaifpimaaGreat

set_option maxRecDepth 20000
namespace Go.Proofs.YtpnliopaifpimaaGreat
open Go Go.Am Go.Wr Go.Dig Go.Tr Go.LP
noncomputable def vw (T:List Nz):Bool:=@decide (yx (ntZ T)) (Classical.propDecidable _)
theorem vx {T:List Nz}:vw T=true↔yx (ntZ T):=by unfold vw; exact @decide_eq_true_iff _ (Classical.propDecidable _)
theorem te {T:List Nz} (h:¬ yx (ntZ T)):vw T=false:=by
 cases e:vw T with
 | false=>rfl
 | true=>exact absurd (vx.1 e) h
abbrev cR4 (T:List Nz) (i:Nat):Nat→Int:=fun k=>(cnt (ntZ T) i k:Nat)
def K6 (T:List Nz) (f:Nat→Int) (k:Nat):St:={env:=[(66,.sl 21 1 1 (T.length-1)),(67,iv (T.length-1:Nat)),(68,iv k)],sto:=[(21,.arr 1 (zR f T.length))]}
theorem JZ {T:List Nz} {i:Nat} {KK:Exit→St→Prop} (hT:T.length≤65536) (hi:i<T.length) (hP:∀ N∈T,∀ x∈N.P,wI x) (hI:Pre (ntZ T) i)
  (bad:vw T=false→KK .ret {env:=[(2,bv false)],sto:=[]}):awp Tryz.prog uM (Pq T (cR4 T i) i) (stepW (fun i=>Pq T (cR4 T i) i) (fun i=>Pre (ntZ T) i) (i+1) KK):=by
 have hx:=hP _ (List.getElem_mem hi)
 have w1:=zm (k:=i) (by omega)
 have hok:=RD hi
 have hK:=Zr hi
 have hU:=Y3 hi
 have hIn:=TW hi
 generalize he:T[i]=N at *
 have hi2:(i:Int)<T.length:=by omega
 simp[uM,Pq,hi,he]
 refine za (Kq (N:=N)) (by simp) (by simp) ?_
 simp[-ux,pK,KM]
 refine adl hx ?_
 cases hz:okZ N with
 | false =>
  simp
  exact bad (te fun h=>by have:=hok.1 (h.ok i hi); rw[hz] at this; cases this)
 | true =>
  simp[-ux,pK]
  refine Bj ?_
  unfold MA
  by_cases hk:N.K=2
  ·rw[if_pos hk]
   rw[hk] at hK
   simp
   refine JY (a:=N.U) (b:=N.I) (f:=cR4 T i) hT hi (fun k=>Int.natCast_nonneg _) (fun h=>?_) (fun u v hu hv hu2 hv2=>?_)
   ·simp
    refine bad (te ?_)
    rcases h with h | ⟨u,hu,h1,h2⟩
    ·exact EK hi hK fun u hu a b c=>h ⟨u,by omega,a,b,by show ((cnt (ntZ T) i u:Nat):Int)=0; omega⟩
    ·refine EJ (u:=u) hi hK (by omega) fun v hv a b hne c=>h2 ⟨v,by omega,a,b,?_⟩
     unfold upd
     rw[if_neg hne]
     show ((cnt (ntZ T) i v:Nat):Int)=0
     omega
   ·obtain ⟨u',hu',u1,u2,u3⟩:=hu2
    obtain ⟨v',hv',v1,v2,v3⟩:=hv2
    have e1:u'=u:=by omega
    have e2:v'=v:=by omega
    subst e1 e2
    have hne:u'≠v':=by
     intro e
     subst e
     unfold upd at v3
     rw[if_pos rfl] at v3
     cases v3
    have cu:cnt (ntZ T) i u'=0:=by have:((cnt (ntZ T) i u':Nat):Int)=0:=u3; omega
    have cv:cnt (ntZ T) i v'=0:=by
     unfold upd at v3
     rw[if_neg fun e=>hne e.symm] at v3
     have:((cnt (ntZ T) i v':Nat):Int)=0:=v3
     omega
    have hpre:=ES hI (hok.2 hz) hK (by omega) (by omega) u1 u2 v1 v2 hne cu cv
    have hf:upd (upd (cR4 T i) u' 1) v' 1=cR4 T (i+1):=by
     funext k
     show _=((cnt (ntZ T) (i+1) k:Nat):Int)
     rw[Ra hK (by omega) (by omega) hne k,cu,cv]
     unfold upd
     split
     ·rfl
     ·split
      ·rfl
      ·rfl
    simp[rJ,w1,hf,hpre]
  ·rw[if_neg hk]
   simp
   refine yl (fun _=>{env:=[(0,.list 5 .plain (zI T)),(3,.sl 21 1 0 T.length),(22,.list 5 .plain (zI T)),(23,iv T.length),(24,iv i),(4,iv i),(35,uw),(36,iv 0),(37,iv 0)],sto:=[(21,.arr 1 (zR (cR4 T i) T.length))]}) 0 (by simp) (fun k hk=>absurd hk (Nat.not_lt_zero k)) ?_
   have hK2:(ntZ T).K i≠2:=by rw[hK]; exact hk
   have hpre:=ab5 hI (hok.2 hz) hK2
   have hf:cR4 T i=cR4 T (i+1):=by
    funext k
    show ((cnt (ntZ T) i k:Nat):Int)=((cnt (ntZ T) (i+1) k:Nat):Int)
    rw[NX hK2]
   simp[z4,rJ,w1,hf,hpre]
theorem TM {T:List Nz} (hP:∀ N∈T,∀ x∈N.P,wI x) (hT:T.length<4611686018427387904):ze Tryz.prog ul [.list 5 .plain (zI T)] (bv (vw T)):=by
 refine zn XK (by simp) ?_
 by_cases h1:T.length<1
 ·have h1':(T.length:Int)<1:=by omega
  have hb:=te fun h:yx (ntZ T)=>by have:=h.one; rw[gJ] at this; omega
  simp[sI,h1',hb,wU]
 have h1':¬ (T.length:Int)<1:=by omega
 by_cases h2:65536<T.length
 ·have h2':(65536:Int)<T.length:=by omega
  have hb:=te fun h:yx (ntZ T)=>by have:=h.most; rw[gJ] at this; omega
  simp[sI,h1',h2',hb,wU]
 have h2':¬ (65536:Int)<T.length:=by omega
 simp[sI,h1',h2',eMk]
 refine ⟨by omega,by omega,?_⟩
 rw[Ql,show (fun _=>(0:Int))=cR4 T 0 from rfl]
 refine zw (fun i=>Pq T (cR4 T i) i) (fun i=>Pre (ntZ T) i) T.length (by simp[Pq]) ab8 (fun i hi hI=>JZ (by omega) hi hP hI fun h=>?_) (fun hI=>?_)
 ·simp[h,wU]
 ·have e0:1≤T.length:=by omega
  have e1:((T.length-1:Nat):Int)=(T.length:Int)-1:=by omega
  simp[uM,lf,Pq]
  refine ⟨by omega,?_⟩
  refine zw (K6 T (cR4 T T.length)) (fun k=>∀ j,1≤j→j<k+1→cnt (ntZ T) T.length j≠0) (T.length-1) (by simp[K6]) (fun j h1 h2=>by omega) (fun k hk hJ=>?_) (fun hJ=>?_)
  ·have w1:=zm (k:=k) (by omega)
   have hk1:1+k<T.length:=by omega
   have hk2:(k:Int)<((T.length-1:Nat):Int):=by omega
   obtain ⟨c,hc⟩:∃ c,cnt (ntZ T) T.length (1+k)=c:=⟨_,rfl⟩
   by_cases h0:c=0
   ·subst h0
    have hb:=te (T:=T) (Y2 (k:=1+k) (by omega) (by show 1+k<T.length; omega) (by show cnt (ntZ T) T.length (1+k)≠1; omega))
    simp[uN,K6,hk2,hk1,hc,hb,wU]
   ·have h0':¬ (c:Int)=0:=by omega
    simp[uN,K6,hk2,hk1,hc,h0,w1]
    intro j a b
    by_cases e:j=1+k
    ·subst e; omega
    ·exact hJ j a (by omega)
  ·have hb:vw T=true:=vx.2 (ab7 hI e0 (by show T.length≤65536; omega) fun k a b=>hJ k a (by have:k<T.length:=b; omega))
   simp[uN,K6,lc,hb,wU]
end Go.Proofs.YtpnliopaifpimaaGreat

set_option maxRecDepth 20000

set_option maxRecDepth 20000

set_option maxRecDepth 20000
namespace Go.Proofs.YtpnliopaifpimaaGreat
open Go Go.Am Go.Wr Go.Dig Go.Tr Go.LP
noncomputable def fH (T:List Nz):Nat:=if vw T=true then lvs (ntZ T) T.length else 0
def K7 (T:List Nz) (k:Nat):St:={env:=[(3,iv (lvs (ntZ T) k)),(9,.list 5 .plain (zI T)),(10,iv T.length),(11,iv k)],sto:=[]}
theorem Fu {T:List Nz} {k:Nat} (hk:k<T.length) (h:T[k].K=2):lvs (ntZ T) (k+1)=lvs (ntZ T) k:=by simp only[lvs]; rw[Zr hk,if_pos h]
theorem Ft {T:List Nz} {k:Nat} (hk:k<T.length) (h:¬ T[k].K=2):lvs (ntZ T) (k+1)=lvs (ntZ T) k+1:=by simp only[lvs]; rw[Zr hk,if_neg h]
theorem L2 {T:List Nz} (hP:∀ N∈T,∀ x∈N.P,wI x) (hT:T.length<4611686018427387904):ze Tryz.prog sD [.list 5 .plain (zI T)] (iv (fH T)):=by
 refine zn XI (by simp) ?_
 simp[j5]
 refine za (TM hP hT) (by simp) (by simp) ?_
 unfold fH
 cases hb:vw T with
 | false=>simp[pP]
 | true =>
  have ht:=(vx.1 hb).most
  rw[gJ] at ht
  simp
  refine yl (K7 T) T.length (by simp[K7,lvs]) (fun k hk=>?_) ?_
  ·have w1:=zm (k:=k) (by omega)
   have hl:=L8 (T:=ntZ T) k
   have wc:=zm (k:=lvs (ntZ T) k) (by omega)
   by_cases h:T[k].K=2
   ·have e:=Fu hk h
    simp[uL,K7,hk,h,w1,e]
   ·have e:=Ft hk h
    simp[uL,K7,hk,h,w1,wc,e]
  ·simp[uL,m9,K7,pP]
end Go.Proofs.YtpnliopaifpimaaGreat

set_option maxRecDepth 20000
namespace Go.Proofs.YtpnliopaifpimaaGreat
open Go Go.Am Go.Wr Go.Dig Go.Tr Go.LP
noncomputable def ga (T:List Nz):Nat:=if vw T=true then mst (ntZ T) T.length else 0
noncomputable def Sh (T:List Nz) (i:Nat):St:={env:=[(3,.sl 14 1 0 T.length),(4,iv (mst (ntZ T) i)),(15,.list 5 .plain (zI T)),(16,iv T.length),(17,iv i)],sto:=[(14,.arr 1 (zR (sZ (ntZ T) i) T.length))]}
def K3 (T:List Nz) (i:Nat) (M:Int) (u v:Int) (f:Nat→Int) (q:Nat):St:={env:=[(3,.sl 14 1 0 T.length),(4,iv M),(15,.list 5 .plain (zI T)),(16,iv T.length),(17,iv i),(5,iv i),(36,.list 1 .full [[iv u],[iv v]]),(37,iv 2),(38,iv q)],sto:=[(14,.arr 1 (zR f T.length))]}
theorem QB {T:List Nz} (hP:∀ N∈T,∀ x∈N.P,wI x) (hT:T.length<4611686018427387904):ze Tryz.prog tf [.list 5 .plain (zI T)] (iv (ga T)):=by
 refine zn UH (by simp) ?_
 simp[gQ]
 refine za (TM hP hT) (by simp) (by simp) ?_
 unfold ga
 cases hb:vw T with
 | false=>simp[nE]
 | true =>
  have hTr:=vx.1 hb
  have ht:=hTr.most
  rw[gJ] at ht
  simp[eMk]
  refine ⟨by omega,by omega,?_⟩
  have e0:zR (fun _=>0) T.length=zR (sZ (ntZ T) 0) T.length:=Sx fun k hk=>(Cf hTr hk).symm
  rw[Ql,e0]
  refine zw (Sh T) (fun _=>True) T.length (by simp[Sh,mst]) trivial (fun i hi _=>?_) (fun _=>?_)
  ·have w1:=zm (k:=i) (by omega)
   have hi2:(i:Int)<T.length:=by omega
   have hK:=Zr hi
   have hU:=Y3 hi
   have hIn:=TW hi
   have hat:=ad0 hTr (i:=i) hi
   have hdl:=Li hTr i hi
   have hml:=Kg hTr i (Nat.le_of_lt hi)
   have hpos:=bT (T:=ntZ T) (i:=i)
   have hm:mst (ntZ T) (i+1)=max (mst (ntZ T) i) (dep (ntZ T) i):=rfl
   have wd:IntKind.i64.wrap (dep (ntZ T) i:Int)=dep (ntZ T) i:=by rw[wrap64]<;>omega
   have uu:upd (sZ (ntZ T) i) i (dep (ntZ T) i:Int) i=dep (ntZ T) i:=by simp[upd]
   have hleaf:¬ (ntZ T).K i=2→zR (upd (sZ (ntZ T) i) i (dep (ntZ T) i)) T.length=zR (sZ (ntZ T) (i+1)) T.length:=fun h=>Sx fun k hk=>by
    rw[QA hTr hi h hk]; rfl
   have hbranch:∀ u v:Nat,(ntZ T).K i=2→(ntZ T).U i=u→(ntZ T).I i=v→zR (upd (upd (upd (sZ (ntZ T) i) i (dep (ntZ T) i)) u (dep (ntZ T) i)) v (dep (ntZ T) i)) T.length=zR (sZ (ntZ T) (i+1)) T.length:=fun u v h a b=>Sx fun k hk=>by
    rw[Tv hTr hi h a b hk]; rfl
   have hkids:(ntZ T).K i=2→∃ u v:Nat,(ntZ T).U i=u∧(ntZ T).I i=v∧i<u∧u<T.length∧i<v∧v<T.length:=fun h=>by
    obtain ⟨u,v,a,b,c,d,e,f,_⟩:=UA hTr hi h
    exact ⟨u,v,a,b,c,d,e,f⟩
   obtain ⟨d,hd⟩:∃ d,dep (ntZ T) i=d:=⟨_,rfl⟩
   obtain ⟨M,hM⟩:∃ M,mst (ntZ T) i=M:=⟨_,rfl⟩
   rw[hd] at hat hdl hpos hm wd hleaf hbranch
   rw[hM] at hml hm
   obtain ⟨f,hf⟩:∃ f,sZ (ntZ T) i=f:=⟨_,rfl⟩
   rw[hf] at hat hleaf hbranch
   have hmx:max (M:Int) (d:Int)=((max M d:Nat):Int):=by omega
   generalize he:T[i]=N at *
   have hst:Sh T i={env:=[(3,.sl 14 1 0 T.length),(4,iv M),(15,.list 5 .plain (zI T)),(16,iv T.length),(17,iv i)],sto:=[(14,.arr 1 (zR f T.length))]}:=by rw[Sh,hM,hf]
   have hst2:Sh T (i+1)={env:=[(3,.sl 14 1 0 T.length),(4,iv (max M d:Nat)),(15,.list 5 .plain (zI T)),(16,iv T.length),(17,iv ((i:Int)+1))],sto:=[(14,.arr 1 (zR (sZ (ntZ T) (i+1)) T.length))]}:=by rw[Sh,hm]; rfl
   rw[hst]
   have ud:upd f i (d:Int) i=d:=by simp[upd]
   simp[qd,hi,hi2,he,hat,wd,splice,k6,ud,hmx]
   refine za (Kq (N:=N)) (by simp) (by simp) ?_
   simp[-ux,pK]
   refine Bj ?_
   unfold MA
   by_cases hk:N.K=2
   ·rw[if_pos hk]
    rw[hk] at hK
    obtain ⟨u,v,hu,hv,u1,u2,v1,v2⟩:=hkids hK
    have hb2:=hbranch u v hK hu hv
    rw[hU] at hu
    rw[hIn] at hv
    rw[hu,hv]
    have u2':(u:Int)<T.length:=by omega
    have v2':(v:Int)<T.length:=by omega
    have k0:=zm (k:=0) (by omega)
    have k1:=zm (k:=1) (by omega)
    simp at k0 k1
    generalize hg:upd f i (d:Int)=g at *
    have ug:upd g u (d:Int) i=d:=by unfold upd; rw[if_neg (by omega)]; exact ud
    simp
    refine yl (fun q=>K3 T i (max M d:Nat) u v (if q=0 then g else if q=1 then upd g u d else upd (upd g u d) v d) q) 2 (by simp[K3]) (fun q hq=>?_) ?_
    ·have:q=0∨q=1:=by omega
     rcases this with rfl | rfl
     ·simp[vn,K3,u2,u2',hi,hi2,k0,ud,splice,k6]
     ·simp[vn,K3,v2,v2',hi,hi2,k1,ug,splice,k6]
    ·simp[vn,K3,qc,w1,hb2,hst2]
   ·rw[if_neg hk]
    have hK2:¬ (ntZ T).K i=2:=by rw[hK]; exact hk
    have hl:=hleaf hK2
    generalize hg:upd f i (d:Int)=g at *
    simp
    refine yl (fun _=>{env:=[(3,.sl 14 1 0 T.length),(4,iv (max M d:Nat)),(15,.list 5 .plain (zI T)),(16,iv T.length),(17,iv i),(5,iv i),(36,uw),(37,iv 0),(38,iv 0)],sto:=[(14,.arr 1 (zR g T.length))]}) 0 (by simp) (fun k hk=>absurd hk (Nat.not_lt_zero k)) ?_
    simp[vn,qc,w1,hl,hst2]
  ·simp[qd,l9,Sh,nE]
end Go.Proofs.YtpnliopaifpimaaGreat

set_option maxRecDepth 20000

namespace Go.Proofs.YtpnliopaifpimaaGreat
open Go Go.Am Go.Dig Go.LP
structure RF where
 s:Bool
 a:List Nat
 c:List Nat
def RF.fine (x:RF):Prop:=ok x.a∧ok x.c∧x.a.length<17179869184∧x.c.length<17179869184
def RF.v (x:RF):Bool:=vfr x.s x.a x.c
def RF.of (q:Rat):RF:=⟨decide (q.num<0),zh q.num.natAbs,zh q.den⟩
noncomputable def h0 (x:RF):AV:=Classical.choose (n9 (bv x.s))
noncomputable def h1 (x:RF):AV:=Classical.choose (n9 (nl .plain x.a))
noncomputable def h2 (x:RF):AV:=Classical.choose (n9 (nl .plain x.c))
theorem kB (x:RF):h0 x=bv x.s:=Classical.choose_spec (n9 _)
theorem fg (x:RF):h1 x=nl .plain x.a:=Classical.choose_spec (n9 _)
theorem fh (x:RF):h2 x=nl .plain x.c:=Classical.choose_spec (n9 _)
noncomputable def hr (x:RF):List AV:=[h0 x,h1 x,h2 x]
@[simp] theorem ak2 (x:RF):[h0 x,h1 x,h2 x]=hr x:=rfl
noncomputable abbrev hq (x:RF):AV:=.agg (hr x)
theorem air (q:Rat):h0 (RF.of q)=f0 q:=by rw[kB,fa]; rfl
theorem ais (q:Rat):h1 (RF.of q)=f1 q:=by rw[fg,fb]; rfl
theorem ait (q:Rat):h2 (RF.of q)=f2 q:=by rw[fh,fc]; rfl
theorem Mu (q:Rat):hr (RF.of q)=fr q:=by unfold hr fr; rw[air,ais,ait]
theorem ni (x:RF):hr x=[bv x.s,nl .plain x.a,nl .plain x.c]:=by unfold hr; rw[kB,fg,fh]
section
variable {x:RF} {l k a b M:Nat} {e:zf}
@[simp] theorem amb:rf (h0 x)=true:=by rw[kB]; rfl
@[simp] theorem ako:strip (h0 x)=h0 x:=by rw[kB]; rfl
@[simp] theorem ama:dg l (h0 x)=h0 x:=by rw[kB]; simp
@[simp] theorem aly:frz l e (h0 x)=h0 x:=by rw[kB]; rfl
@[simp] theorem alz:Am.low M (h0 x)=true:=by rw[kB]; rfl
@[simp] theorem akY:zP k (h0 x)=false:=by rw[kB]; rfl
@[simp] theorem alA:mP k (h0 x)=false:=by rw[kB]; rfl
@[simp] theorem amd:rf (h1 x)=true:=by rw[fg]; rfl
@[simp] theorem akp:strip (h1 x)=h1 x:=by rw[fg]; rfl
@[simp] theorem amc:dg l (h1 x)=h1 x:=by rw[fg]; simp
@[simp] theorem alB:frz l e (h1 x)=h1 x:=by rw[fg]; rfl
@[simp] theorem alC:Am.low M (h1 x)=true:=by rw[fg]; rfl
@[simp] theorem akZ:zP k (h1 x)=false:=by rw[fg]; rfl
@[simp] theorem alD:mP k (h1 x)=false:=by rw[fg]; rfl
@[simp] theorem amf:rf (h2 x)=true:=by rw[fh]; rfl
@[simp] theorem akq:strip (h2 x)=h2 x:=by rw[fh]; rfl
@[simp] theorem ame:dg l (h2 x)=h2 x:=by rw[fh]; simp
@[simp] theorem alE:frz l e (h2 x)=h2 x:=by rw[fh]; rfl
@[simp] theorem alF:Am.low M (h2 x)=true:=by rw[fh]; rfl
@[simp] theorem ak0:zP k (h2 x)=false:=by rw[fh]; rfl
@[simp] theorem alG:mP k (h2 x)=false:=by rw[fh]; rfl
@[simp] theorem ag0:(hr x).length=3:=by simp[ni]
@[simp] theorem aiu:(hr x).all rf=true:=by rw[ni]; simp
@[simp] theorem abb:(hr x).map strip=hr x:=by rw[ni]; simp
@[simp] theorem aml:(hr x).map (dg l)=hr x:=by rw[ni]; simp
@[simp] theorem alI:wy k (hr x)=false:=by rw[ni]; simp
@[simp] theorem ajL:zH (hr x) 0 (some 3)=some (hq x):=by rw[sM ag0 aiu,abb]
@[simp] theorem ahW {y:AV}:zH (y::hr x) 1 (some 3)=some (hq x):=by
 simp only[zH,hr,List.length_cons,List.length_nil,List.drop_succ_cons,List.drop_zero,List.take]
 simp
@[simp] theorem aj0 {y z w:AV}:splice [y,z,w] 0 (hr x)=hr x:=by rw[ni]; simp[splice]
end
theorem aep {x:RF} (h:x.fine):ze Tryz.prog mT [hq x] (bv x.v):=by
 unfold hq; rw[ni]; exact ft h.1 h.2.1 h.2.2.1 h.2.2.2 rfl rfl
noncomputable def hR (f:Nat→RF) (n:Nat):List (List AV):=mR (fun j=>hr (f j)) n
noncomputable abbrev hL (f:Nat→RF) (n:Nat):AV:=.list 3 .plain (hR f n)
section
variable {f:Nat→RF} {n i k:Nat}
@[simp] theorem alH:(hR f n).length=n:=Rz
@[simp] theorem ak1 {hi:i<(hR f n).length}:(hR f n)[i]=hr (f i):=QT
@[simp] theorem amg:wh (hR f n)=true:=Ka fun _=>by simp
@[simp] theorem amh:zT (hR f n)=hR f n:=bZ fun _=>by simp
theorem adp {g:Nat→Rat} (h:∀ j,j<n→f j=RF.of (g j)):hR f n=fR g n:=eT fun j hj=>by rw[h j hj,Mu]
end
@[simp] theorem amz {x:RF}:(hr x)[0]?=some (h0 x):=rfl
@[simp] theorem amA {x:RF}:(hr x)[1]?=some (h1 x):=rfl
@[simp] theorem amB {x:RF}:(hr x)[2]?=some (h2 x):=rfl
@[simp] theorem amj {x:RF} {h:1<(hr x).length}:(hr x)[1]=h1 x:=rfl
@[simp] theorem amk {x:RF} {h:2<(hr x).length}:(hr x)[2]=h2 x:=rfl
def KY (x:RF) (D:Nat):Prop:=x.a.length≤D∧x.c.length≤D
noncomputable def R6 (s t:Bool) (a c a' c':List Nat) (k:Nat):St :=
 {env:=[(2,.ptr 2 0),(3,.ptr 3 0),(5,iv k)],sto:=[(2,.var [bv s,nl .plain a,nl .plain c]),(3,.var [bv t,nl .plain a',nl .plain c'])]}
noncomputable def R7 (s t:Bool) (a c a' c':List Nat) (k:Nat):St :=
 {env:=[(2,.ptr 2 0),(3,.ptr 3 0),(6,iv k)],sto:=[(2,.var [bv s,nl .plain a,nl .plain c]),(3,.var [bv t,nl .plain a',nl .plain c'])]}
theorem Rr {a b:List Nat} (hl:a.length=b.length) (h:∀ j,j<a.length→a[j]?=b[j]?):a=b:=by
 apply List.ext_getElem?
 intro j
 by_cases hj:j<a.length
 ·exact h j hj
 ·rw[List.getElem?_eq_none (by omega),List.getElem?_eq_none (by omega)]
theorem acu {s t:Bool} {a c a' c':List Nat} (hn:a.length<4611686018427387904) (hm:c.length<4611686018427387904) :
  ze Tryz.prog Tl [.agg [bv s,nl .plain a,nl .plain c],.agg [bv t,nl .plain a',nl .plain c']] (bv (decide (s=t∧a=a'∧c=c'))):=by
 refine zn ac9 (by simp) ?_
 by_cases e1:s=t
 rotate_left
 ·have e1':(s == t)=false:=by simp[e1]
  rw[decide_eq_false fun h=>e1 h.1]
  simp[apL,wD sC,e1',mJ]
 subst e1
 by_cases e2:a.length=a'.length
 rotate_left
 ·have e2':¬ (a.length:Int)=a'.length:=by omega
  rw[decide_eq_false fun h=>e2 (by rw[h.2.1])]
  simp[apL,wD sC,e2',mJ]
 have e2':(a.length:Int)=a'.length:=by omega
 by_cases e3:c.length=c'.length
 rotate_left
 ·have e3':¬ (c.length:Int)=c'.length:=by omega
  rw[decide_eq_false fun h=>e3 (by rw[h.2.2])]
  simp[apL,wD sC,e2,e3',mJ]
 have e3':(c.length:Int)=c'.length:=by omega
 simp[apL,wD sC,e2,e3]
 refine zw (R6 s s a c a' c') (fun k=>∀ j,j<k→a[j]?=a'[j]?) a.length (by simp[R6]) (fun j hj=>by omega) (fun k hk hI=>?_) (fun hI0=>?_)
 ·have e:(k:Int)<a.length:=by omega
  have w:=zm (k:=k) (by omega)
  have hk':k<a'.length:=by omega
  have e':(k:Int)<a'.length:=by omega
  by_cases h:a[k]=a'[k]
  ·have h':(a[k]:Int)=a'[k]:=by rw[h]
   simp[jM,R6,e,hk,hk',e',h,w]
   intro j hj
   by_cases ej:j=k
   ·subst ej; simp[hk,hk',h]
   ·exact hI j (by omega)
  ·have h':¬ (a[k]:Int)=a'[k]:=by omega
   rw[decide_eq_false (p:=a=a') fun h2=>h (by simp only[h2])]
   simp[jM,R6,e,hk,hk',e',h',mJ]
 ·have hae:=Rr e2 hI0
  subst hae
  simp[jM,R6,UP]
  refine zw (R7 s s a c a c') (fun k=>∀ j,j<k→c[j]?=c'[j]?) c.length (by simp[R7]) (fun j hj=>by omega) (fun k hk hI=>?_) (fun hI1=>?_)
  ·have e:(k:Int)<c.length:=by omega
   have w:=zm (k:=k) (by omega)
   have hk':k<c'.length:=by omega
   have e':(k:Int)<c'.length:=by omega
   by_cases h:c[k]=c'[k]
   ·have h':(c[k]:Int)=c'[k]:=by rw[h]
    simp[jN,R7,e,hk,hk',e',h,w]
    intro j hj
    by_cases ej:j=k
    ·subst ej; simp[hk,hk',h]
    ·exact hI j (by omega)
   ·have h':¬ (c[k]:Int)=c'[k]:=by omega
    rw[decide_eq_false (p:=c=c') fun h2=>h (by simp only[h2])]
    simp[jN,R7,e,hk,hk',e',h',mJ]
  ·have hce:=Rr e3 hI1
   subst hce
   simp[jN,R7,UO,mJ]
@[simp] theorem amw {q:Rat}:(fr q)[0]?=some (f0 q):=rfl
@[simp] theorem al7 {q:Rat} {h:0<(fr q).length}:(fr q)[0]=f0 q:=rfl
@[simp] theorem amx {q:Rat}:(fr q)[1]?=some (f1 q):=rfl
@[simp] theorem amy {q:Rat}:(fr q)[2]?=some (f2 q):=rfl
@[simp] theorem al8 {q:Rat} {h:1<(fr q).length}:(fr q)[1]=f1 q:=rfl
@[simp] theorem al9 {q:Rat} {h:2<(fr q).length}:(fr q)[2]=f2 q:=rfl
end Go.Proofs.YtpnliopaifpimaaGreat

set_option maxRecDepth 20000

set_option maxRecDepth 20000

namespace Go.Wr
open Go.Dig Go.Proofs.YtpnliopaifpimaaGreat
theorem Lk {a:List Nat} {l:List UInt8} (ha:ok a) (hl:a.length≤2000):se (0,km a++l)=(a,(0,l)):=by
 unfold se km
 rw[List.append_assoc,t0 hl (by omega)]
 exact Ko (by omega) fun d hd=>by have:=ha d hd; rw[z9] at this; omega
theorem CE {x:Fr} {l:List UInt8} (h:wI x) (h1:x.2.1.length≤2000) (h2:x.2.2.length≤2000) (hv:vFr x=true):yk (0,uZ x++l)=(x,(0,l)):=by
 obtain ⟨g,a,c⟩:=x
 obtain ⟨o1,o2,_,_⟩:=h
 have e0:uZ (g,a,c)++l=enc (if g=true then 1 else 0)++(km a++(km c++l)):=by
  show ku g a c++l=_
  unfold ku
  simp only[List.append_assoc]
 have e1:=t0 (most:=1) (n:=if g=true then 1 else 0) (l:=km a++(km c++l)) (by split<;>omega) (by split<;>omega)
 have hg:decide ((if g=true then 1 else 0)=1)=g:=by cases g<;>rfl
 rw[e0]
 unfold yk
 simp only[e1,Lk o1 h1,Lk o2 h2,hg,if_true]
 rw[if_pos (show vfr g a c=true from hv)]
def Su (N:Nz):Nd:=⟨N.K.toNat,N.O.toNat,N.U.toNat,N.I.toNat,N.P⟩
theorem FV {l:List UInt8}:∀ {P:List Fr},(∀ x∈P,wI x∧x.2.1.length≤2000∧x.2.2.length≤2000∧vFr x=true)→∀ k (_:k≤P.length),yc yk k (0,P.flatMap uZ++l)=(P.take k,(0,(P.drop k).flatMap uZ++l))
 | P,_,0,_=>rfl
 | P,h,k+1,hk=>by
  obtain ⟨a1,a2,a3,a4⟩:=h _ (List.getElem_mem (show k<P.length by omega))
  have e:(P.drop k).flatMap uZ++l=uZ P[k]++((P.drop (k+1)).flatMap uZ++l):=by
   rw[List.drop_eq_getElem_cons (show k<P.length by omega)]
   simp only[List.flatMap_cons,List.append_assoc]
  rw[yc,FV h k (by omega),e,CE a1 a2 a3 a4,if_neg (by simp),List.take_succ_eq_append_getElem (by omega)]
def abk (N:Nz):Prop:=∀ x∈N.P,wI x∧x.2.1.length≤2000∧x.2.2.length≤2000
theorem abC {N:Nz} {l:List UInt8} (h:abk N) (hz:okZ N=true):yL (0,xl N++l)=(Su N,(0,l)):=by
 obtain ⟨K,O,U,I,P⟩:=N
 have hz0:=hz
 unfold okZ at hz
 dsimp only at hz
 by_cases h1:K=1
 ·subst h1
  simp only[if_true,Bool.and_eq_true,decide_eq_true_eq] at hz
  obtain ⟨⟨z1,z2⟩,z3⟩:=hz
  obtain ⟨rfl,rfl,rfl⟩:=RJ z1
  have e:xl ⟨1,0,0,0,P⟩++l=enc 1++(enc P.length++(P.flatMap uZ++l)):=by
   show (enc 1++encZ ⟨1,0,0,0,P⟩)++l=_
   unfold encZ
   simp only[if_true,List.append_assoc]
  have u1:=t0 (most:=3) (n:=1) (l:=enc P.length++(P.flatMap uZ++l)) (by omega) (by omega)
  have u2:=t0 (most:=40) (n:=P.length) (l:=P.flatMap uZ++l) z2 (by omega)
  have u3:=FV (l:=l) (P:=P) (fun x hx=>by
   obtain ⟨a,b,c⟩:=h x hx
   exact ⟨a,b,c,List.all_eq_true.1 z3 x hx⟩) P.length (Nat.le_refl _)
  rw[List.take_length,List.drop_length] at u3
  rw[e]
  unfold yL
  simp only[u1,u2,u3]
  rfl
 ·by_cases h2:K=2
  ·subst h2
   rw[if_neg h1,if_pos rfl] at hz
   simp only[Bool.and_eq_true,decide_eq_true_eq] at hz
   obtain ⟨⟨⟨r1,r2⟩,r3⟩,rfl⟩:=hz
   have c:∀ {x:Int},rg x=true→x.toNat≤65536:=fun {x} h=>by have:=qO h; omega
   have e:xl ⟨2,O,U,I,[]⟩++l=enc 2++(enc O.toNat++(enc U.toNat++(enc I.toNat++l))):=by
    show (enc 2++encZ ⟨2,O,U,I,[]⟩)++l=_
    unfold encZ
    simp
   have u1:=t0 (most:=3) (n:=2) (l:=enc O.toNat++(enc U.toNat++(enc I.toNat++l))) (by omega) (by omega)
   have u2:=t0 (most:=65536) (n:=O.toNat) (l:=enc U.toNat++(enc I.toNat++l)) (c r1) (by have:=c r1; omega)
   have u3:=t0 (most:=65536) (n:=U.toNat) (l:=enc I.toNat++l) (c r2) (by have:=c r2; omega)
   have u4:=t0 (most:=65536) (n:=I.toNat) (l:=l) (c r3) (by have:=c r3; omega)
   rw[e]
   unfold yL
   simp only[u1,u2,u3,u4]
   rfl
  ·by_cases h3:K=3
   ·subst h3
    rw[if_neg h1,if_neg h2,if_pos rfl] at hz
    simp only[Bool.and_eq_true,decide_eq_true_eq] at hz
    obtain ⟨z1,rfl⟩:=hz
    obtain ⟨rfl,rfl,rfl⟩:=RJ z1
    have e:xl ⟨3,0,0,0,[]⟩++l=enc 3++l:=by
     show (enc 3++encZ ⟨3,0,0,0,[]⟩)++l=_
     unfold encZ
     simp
    have u1:=t0 (most:=3) (n:=3) (l:=l) (by omega) (by omega)
    rw[e]
    unfold yL
    simp only[u1]
    rfl
   ·rw[if_neg h1,if_neg h2,if_neg h3] at hz; cases hz
theorem KT {l:List UInt8}:∀ {T:List Nz},(∀ N∈T,abk N∧okZ N=true)→∀ k (_:k≤T.length),yc yL k (0,T.flatMap xl++l)=((T.take k).map Su,(0,(T.drop k).flatMap xl++l))
 | T,_,0,_=>rfl
 | T,h,k+1,hk=>by
  obtain ⟨a1,a2⟩:=h _ (List.getElem_mem (show k<T.length by omega))
  have e:(T.drop k).flatMap xl++l=xl T[k]++((T.drop (k+1)).flatMap xl++l):=by
   rw[List.drop_eq_getElem_cons (show k<T.length by omega)]
   simp only[List.flatMap_cons,List.append_assoc]
  rw[yc,KT h k (by omega),e,abC a1 a2,if_neg (by simp),List.take_succ_eq_append_getElem (by omega),List.map_append]
  rfl
theorem Lf {T:List Nz} (h:∀ N∈T,abk N∧okZ N=true) (hl:T.length≤65536):eG (s4 T)=0∧Qz (s4 T)=T.map Su:=by
 have u:=t0 (most:=65536) (n:=T.length) (l:=T.flatMap xl) hl (by omega)
 have v:=KT (l:=[]) h T.length (Nat.le_refl _)
 rw[List.append_nil,List.take_length,List.drop_length] at v
 have t:Qj (s4 T)=(T.map Su,(0,[])):=by
  unfold Qj s4
  simp only[u,v]
  rfl
 have e:eG (s4 T)=0:=by unfold eG; rw[t]; rfl
 exact ⟨e,by unfold Qz; rw[e,t]; rfl⟩
def Kp (N:Nd):Nz:=⟨N.K,N.O,N.U,N.I,N.P⟩
theorem anQ {n:Nat} (h:n≤65536):rg (n:Int)=true:=by
 unfold rg
 simp
 omega
end Go.Wr

set_option maxRecDepth 20000
namespace Go.Proofs.YtpnliopaifpimaaGreat
open Go Go.Am Go.Wr Go.Dig Go.Tr Go.LP
def Jc (P:List Fr) (k:Nat):St:={env:=[(0,.list 3 .plain (v9 P)),(1,.list 3 .plain (v9 P)),(5,iv k)],sto:=[]}
theorem E5 {P:List Fr} (hl:P.length<4611686018427387904) (hP:∀ x∈P,wI x):ze Tryz.prog fO [.list 3 .plain (v9 P),.list 3 .plain (v9 P)] (bv true):=by
 refine zn Jl (by simp) ?_
 simp[Yy]
 refine yl (Jc P) P.length (by simp[Jc]) (fun k hk=>?_) ?_
 ·have w1:=zm (k:=k) (by omega)
  have hx:=hP _ (List.getElem_mem hk)
  generalize he:P[k]=x at *
  have ks:=acu (s:=x.1) (t:=x.1) (a:=x.2.1) (c:=x.2.2) (a':=x.2.1) (c':=x.2.2) (by have:=hx.2.2.1; omega) (by have:=hx.2.2.2; omega)
  simp at ks
  simp[l7,Jc,hk,he]
  refine za ks (by simp) (by simp) ?_
  simp[w1,Jc]
 ·simp[l7,dN,Jc,Xe]
def Jd (T:List Nz) (k:Nat):St:={env:=[(0,.list 5 .plain (zI T)),(1,.list 5 .plain (zI T)),(5,iv k)],sto:=[]}
theorem B4 {T:List Nz} (hl:T.length<4611686018427387904) (hP:∀ N∈T,N.P.length<4611686018427387904∧∀ x∈N.P,wI x):ze Tryz.prog lS [.list 5 .plain (zI T),.list 5 .plain (zI T)] (bv true):=by
 refine zn Jp (by simp) ?_
 simp[YG]
 refine yl (Jd T) T.length (by simp[Jd]) (fun k hk=>?_) ?_
 ·have w1:=zm (k:=k) (by omega)
  have hx:=hP _ (List.getElem_mem hk)
  generalize he:T[k]=N at *
  simp[n0,Jd,hk,he]
  refine za (E5 hx.1 hx.2) (by simp) (by simp) ?_
  simp[w1,Jd]
 ·simp[n0,dS,Jd,Xi]
theorem Fy {T:List Nd}:Zq T=zI (T.map Kp):=by
 unfold Zq zI
 rw[List.map_map]
 rfl
open Go.Pb
def Pi (w:Nat→Int) (k:Nat):St:={env:=[(5,.agg (bC w)),(6,iv k)],sto:=[]}
theorem MU {w:Nat→Int}:ze Tryz.prog pW [.agg (bC w)] (iv (if okB w then 0 else 4)):=by
 refine zn PL (by simp) ?_
 simp[bL]
 refine zw (Pi w) (fun i=>∀ j,j<i→0≤w j∧w j≤4) 6 (by simp[Pi]) (fun j hj=>by omega) (fun i hi hI=>?_) (fun hI=>?_)
 ·have e:(i:Int)<6:=by omega
  have w1:=zm (k:=i) (by omega)
  by_cases c1:w i<0
  ·rw[if_neg fun h=>by have:=h i hi; omega]
   simp[ti,Pi,e,TZ hi,c1,nk]
  ·by_cases c2:4<w i
   ·rw[if_neg fun h=>by have:=h i hi; omega]
    simp[ti,Pi,e,TZ hi,c1,c2,nk]
   ·simp[ti,Pi,e,TZ hi,c1,c2,w1]
    exact fun j hj=>by
     by_cases e:j=i
     ·subst e; omega
     ·exact hI j (by omega)
 ·rw[if_pos (show okB w from hI)]
  simp[ti,Pi,amY,nk]
section
variable {P:Pb} {r n:Nat} {o:Of}
theorem La (h:0≤o.b∧o.b<P.cl.length):∃ b:Nat,o.b=b∧b<P.cl.length∧P.cl[b]?=some (P.clOf o.b):=by
 refine ⟨o.b.toNat,by omega,by omega,?_⟩
 unfold Pb.clOf
 have h2:o.b.toNat<P.cl.length:=by omega
 rw[List.getD_eq_getElem?_getD,List.getElem?_eq_getElem h2]
 rfl
@[simp] theorem akc {l:List Int} {b:Nat} {h:b<(clR l).length}:(clR l)[b]=[iv (l[b]'(by simpa using h))]:=by simp[clR]
theorem Ca (hn:P.cl.length≤1000) (hb:0≤o.b∧o.b<P.cl.length) (hr:r<P.rows):ze Tryz.prog xO [.agg (pbC P),iv r,.agg (oC o)] (iv (P.coef r o)):=by
 unfold Pb.rows at hr
 obtain ⟨n,hn'⟩:∃ n,P.cl.length=n:=⟨_,rfl⟩
 have w1:IntKind.i64.wrap ((r:Int)-n)=(r:Int)-n:=by rw[wrap64]<;>omega
 refine zn aj (by simp) ?_
 unfold Pb.coef
 rw[hn'] at hr hb hn ⊢
 by_cases h1:r<n
 ·rw[if_pos h1]
  have c1:((r:Int)-n)<0:=by omega
  by_cases h2:o.b=r
  ·rw[if_pos h2]
   simp[xc,hn',w1,c1,h2,xe]
  ·rw[if_neg h2]
   simp[xc,hn',w1,c1,h2,xe]
 ·rw[if_neg h1]
  have c1:¬ ((r:Int)-n)<0:=by omega
  obtain ⟨k,hk⟩:∃ k,r=n+k:=⟨r-n,by omega⟩
  have e1:(r:Int)-n=k:=by omega
  have e2:r-n=k:=by omega
  rw[e1] at w1 c1
  by_cases h2:k<6
  ·rw[if_pos (by omega),e2]
   have c2:(k:Int)<6:=by omega
   simp[xc,hn',e1,w1,c1,c2,Bo h2,xe]
  ·obtain ⟨j,hj0⟩:∃ j,k=6+j:=⟨k-6,by omega⟩
   rw[if_neg (by omega),e2,show k-6=j by omega]
   have c2:¬ (k:Int)<6:=by omega
   have hj:j<6:=by omega
   have hj':(j:Int)<6:=by omega
   have e3:(k:Int)-6=j:=by omega
   have w2:IntKind.i64.wrap (j:Int)=j:=by rw[wrap64]<;>omega
   obtain ⟨b,hb1,hb2,hb3⟩:=La (P:=P) (o:=o) (by rw[hn']; exact hb)
   have hbn:(b:Int)<n:=by omega
   have hbn':b<n:=by omega
   have hc:P.cl[b]?=some (P.clOf (b:Int)):=by rw[← hb1]; exact hb3
   have hE:P.cl[b]=P.clOf (b:Int):=by rw[List.getElem?_eq_getElem hb2] at hc; exact Option.some.inj hc
   rw[hb1]
   by_cases h3:P.cls j=0
   ·rw[if_pos (.inl h3)]
    simp[xc,hn',e1,w1,c1,c2,e3,w2,hj',T0 hj,h3,xe]
   ·by_cases h4:P.cls j=P.clOf (b:Int)
    ·rw[if_pos (.inr h4)]
     rw[h4] at h3
     simp[xc,hn',e1,w1,c1,c2,e3,w2,hj',T0 hj,h3,hb1,hbn,hbn',hE,h4,xe]
    ·rw[if_neg (by intro h; exact h.elim h3 h4)]
     simp[xc,hn',e1,w1,c1,c2,e3,w2,hj',T0 hj,h3,hb1,hbn,hbn',hE,h4,Zf hj,xe]
end
section
variable {P:Pb} {r n:Nat} {o:Of} {L:List Of}
theorem B0 (hn:P.cl.length≤1000):ze Tryz.prog uF [.agg (pbC P)] (iv P.rows):=by
 refine zn al (by simp) ?_
 have w1:IntKind.i64.wrap ((P.cl.length:Int)+12)=(P.cl.length:Int)+12:=by rw[wrap64]<;>omega
 have e:((P.rows:Nat):Int)=(P.cl.length:Int)+12:=by unfold Pb.rows; omega
 rw[e]
 simp[mY,w1,lG]
theorem GC (hn:P.cl.length≤1000) (hr:r<P.rows):ze Tryz.prog vZ [.agg (pbC P),iv r] (iv (P.bnd r)):=by
 unfold Pb.rows at hr
 obtain ⟨n,hn'⟩:∃ n,P.cl.length=n:=⟨_,rfl⟩
 have w1:IntKind.i64.wrap ((r:Int)-n)=(r:Int)-n:=by rw[wrap64]<;>omega
 refine zn bw (by simp) ?_
 unfold Pb.bnd
 rw[hn'] at hr hn ⊢
 by_cases h1:r<n
 ·rw[if_pos h1]
  have c1:((r:Int)-n)<0:=by omega
  simp[v7,hn',w1,c1,uf]
 ·rw[if_neg h1]
  have c1:¬ ((r:Int)-n)<0:=by omega
  obtain ⟨k,hk⟩:∃ k,r=n+k:=⟨r-n,by omega⟩
  have e1:(r:Int)-n=k:=by omega
  have e2:r-n=k:=by omega
  rw[e1] at w1 c1
  by_cases h2:k<6
  ·rw[if_pos (by omega),e2]
   have c2:(k:Int)<6:=by omega
   simp[v7,hn',e1,w1,c1,c2,ab1 h2,uf]
  ·obtain ⟨j,hj0⟩:∃ j,k=6+j:=⟨k-6,by omega⟩
   rw[if_neg (by omega),e2,show k-6=j by omega]
   have c2:¬ (k:Int)<6:=by omega
   have hj:j<6:=by omega
   have hj':(j:Int)<6:=by omega
   have e3:(k:Int)-6=j:=by omega
   have w2:IntKind.i64.wrap (j:Int)=j:=by rw[wrap64]<;>omega
   simp[v7,hn',e1,w1,c1,c2,e3,w2,hj',ab0 hj,uf]
end
def K5 (P:Pb) (L:List Of) (r:Nat):St:={env:=[(1,ofA L),(2,.ptr 2 0),(5,.fn (.func xO) []),(11,iv P.rows),(12,iv r)],sto:=[(2,.var (pbC P))]}
def R2 (P:Pb) (L:List Of) (r k:Nat):St :=
 {env:=[(1,ofA L),(2,.ptr 2 0),(5,.fn (.func xO) []),(6,iv r),(7,iv (sh (P.coef r) L k)),(11,iv P.rows),(12,iv r),(15,ofA L),(16,iv L.length),(17,iv k)],sto:=[(2,.var (pbC P))]}
@[simp] theorem akB {l:List Of} {b:Nat} {h:b<(ofR l).length}:(ofR l)[b]=oC (l[b]'(by simpa using h)):=by simp[ofR]
section
variable {P:Pb} {r n:Nat} {o:Of} {L:List Of}
theorem CB (hn:P.cl.length≤1000) (hL:L.length≤1000) (hb:∀ o∈L,0≤o.b∧o.b<P.cl.length) (hw:∀ o∈L,okB o.w):ze Tryz.prog uE [.agg (pbC P),ofA L] (bv (decide (P.fits L))):=by
 have hok:yy Tryz.prog xO=true:=by kernel_rfl
 have hR:P.rows≤1012:=by unfold Pb.rows; omega
 refine zn ak (by simp) ?_
 simp[mX]
 refine za (B0 hn) (by simp) (by simp) ?_
 simp
 refine zw (K5 P L) (fun r=>∀ q,q<r→(L.map (P.coef q)).sum≤P.bnd q) P.rows (by simp[K5]) (fun q hq=>by omega) (fun r hr hI=>?_) (fun hI=>?_)
 ·have e:(r:Int)<P.rows:=by omega
  have w1:=zm (k:=r) (by omega)
  simp[tL,K5,e]
  refine zw (R2 P L r) (fun _=>True) L.length (by simp[R2,Y9]) trivial (fun k hk _=>?_) (fun _=>?_)
  ·have e':(k:Int)<L.length:=by omega
   have hg:L[k]?=some L[k]:=by simp[hk]
   have hm:L[k]∈L:=List.getElem_mem hk
   have w2:=zm (k:=k) (by omega)
   obtain ⟨p1,p2⟩:=kJ (f:=P.coef r) (fun o ho=>nf (P:=P) (hw o ho) hr) k (by omega)
   obtain ⟨p3,p4⟩:=nf (P:=P) (hw _ hm) hr
   have w3:IntKind.i64.wrap (sh (P.coef r) L k+P.coef r L[k])=sh (P.coef r) L k+P.coef r L[k]:=by rw[wrap64]<;>omega
   have hs:=cr (f:=P.coef r) hg
   simp[tK,R2,e',hk,hok]
   refine za (Ca hn (hb _ hm) hr) (by simp) (by simp) ?_
   simp[w2,w3,hs,R2]
  ·have hall:sh (P.coef r) L L.length=(L.map (P.coef r)).sum:=Zv
   simp[tK,R2,py]
   refine za (GC hn hr) (by simp) (by simp) ?_
   by_cases hc:P.bnd r<(L.map (P.coef r)).sum
   ·have hf:¬ P.fits L:=fun h=>by have:=h r hr; omega
    simp[hall,hc,hf,rV]
   ·simp[hall,hc,pz,w1,K5]
    exact fun q hq=>by
     by_cases eq:q=r
     ·subst eq; omega
     ·exact hI q (by omega)
 ·have hf:P.fits L:=hI
  simp[tL,K5,hf,pA,rV]
end
section
variable {P:Pb} {r n:Nat} {o:Of} {L:List Of}
theorem acK:ze Tryz.prog mn [iv n,.agg (oC o)] (iv (qT n o)):=by
 refine zn Sp (by simp) ?_
 unfold qT
 by_cases c1:o.b<0
 ·rw[if_pos (.inl c1)]
  simp[vN,c1,vV]
 ·by_cases c2:(n:Int)≤o.b
  ·rw[if_pos (.inr c2)]
   simp[vN,c1,c2,vV]
  ·rw[if_neg (by omega)]
   by_cases c3:o.v<1
   ·rw[if_pos (.inl c3)]
    simp[vN,c1,c2,c3,vV]
   ·by_cases c4:1000000<o.v
    ·rw[if_pos (.inr c4)]
     simp[vN,c1,c2,c3,c4,vV]
    ·rw[if_neg (by omega)]
     simp[vN,c1,c2,c3,c4]
     refine za (MU (w:=o.w)) (by simp) (by simp) ?_
     simp[vV]
theorem LU {f:FuncId} {x y y' r:AV} (h:ze Tryz.prog f [x,y'] r) (hy:AV.imp y y'):ze Tryz.prog f [x,y] r:=fun I vs w h1 h2 h3 =>
 h I vs w h1 h2 fun i a hi=>by
  match i,hi with
  | 0,hi=>exact h3 0 a hi
  | 1,hi=>simp at hi; subst hi; exact hy _ _ _ (h3 1 y rfl)
  | i+2,hi=>simp at hi
theorem GB:[iv 0,iv 0,iv 0,iv 0,iv 0,iv 0]=bC (fun _=>0):=by rw[tn]
theorem aeS (hn:P.cl.length≤1000):ze Tryz.prog sW [.agg (pbC P),.agg (oC o)] (iv (P.offE o)):=by
 have hk:kds Tryz.prog Op.maxDepth vg=some (List.replicate 6 (.i .i64)):=by kernel_rfl
 have hg:Tryz.prog.eqGuardType Tryz.prog.depth vg=false:=by kernel_rfl
 have hA:agT Tryz.prog vg=true:=by kernel_rfl
 have hz:decide (bI o.w=bI (fun _=>0))=decide (jX o.w):=by
  rw[decide_eq_decide,Mq]
  exact Iff.rfl
 refine zn bA (by simp) ?_
 simp[nM]
 refine za (acK (n:=P.cl.length) (o:=o)) (by simp) (by simp) ?_
 unfold Pb.offE
 by_cases c1:qT P.cl.length o=0
 ·obtain ⟨hb,_,hw⟩:=vJ c1
  rw[if_neg (fun h=>h c1)]
  simp[c1,GB]
  rw[gG hk hg hA lD lD]
  by_cases c2:jX o.w
  ·rw[if_pos c2]
   simp[hz,c2,wB]
  ·rw[if_neg c2]
   simp[hz,c2]
   have hf:=CB (P:=P) (L:=[o]) hn (by simp) (fun x hx=>by rw[List.mem_singleton.1 hx]; exact hb) (fun x hx=>by rw[List.mem_singleton.1 hx]; exact hw)
   refine za (LU hf (qn (rows:=[oC o]))) (by simp) (by simp) ?_
   by_cases c3:P.fits [o]
   ·simp[c3,wB]
   ·simp[c3,wB]
 ·rw[if_pos c1]
  simp[c1,wB]
end
section
variable {P:Pb} {r n:Nat} {o:Of} {L:List Of}
def mh (P:Pb) (k:Nat):St:={env:=[(1,.ptr 1 0),(16,iv k)],sto:=[(1,.var (pbC P))]}
def Uv (P:Pb) (k:Nat):St:={env:=[(76,clA P.cl),(77,iv P.cl.length),(78,iv k)],sto:=[]}
theorem frC (P:Pb) (h:∀ i,(hi:i<P.cl.length)→kI P.cl[i]):∀ c∈P.cl,kI c:=fun c hc=>by
 obtain ⟨i,hi,rfl⟩:=List.getElem_of_mem hc
 exact h i hi
theorem aek:ze Tryz.prog sV [.agg (pbC P)] (iv P.frameE):=by
 refine zn bz (by simp) ?_
 simp[nL]
 refine za (MU (w:=P.sup)) (by simp) (by simp) ?_
 unfold Pb.frameE
 by_cases c1:okB P.sup
 ·rw[if_neg (fun h=>h c1)]
  simp[c1]
  refine zw (mh P) (fun r=>∀ q,q<r→P.okC q) 6 (by simp[mh]) (fun q hq=>by omega) (fun k hk hI=>?_) (fun hI=>?_)
  ·have e:(k:Int)<6:=by omega
   have w1:=zm (k:=k) (by omega)
   by_cases d:P.okC k
   ·have d':=d
    unfold Pb.okC at d'
    obtain ⟨d1,d2,d3,d4,d5⟩:=d'
    have b1:¬ P.cls k<0:=by omega
    have b2:¬ 4<P.cls k:=by omega
    have b3:¬ P.opn k<0:=by omega
    have b4:¬ P.sup k<P.opn k:=by omega
    have hx:∀ q,q<k+1→P.okC q:=fun q hq=>by
     by_cases eq:q=k
     ·subst eq; exact d
     ·exact hI q (by omega)
    by_cases b5:P.cls k=0
    ·have b6:=d5 b5
     rw[b5] at b1 b2
     rw[b6] at b3 b4
     simp[zZ,mh,e,yA hk,yn hk,vd hk,b3,b5,b6,w1]
     exact hx
    ·simp[zZ,mh,e,yA hk,yn hk,vd hk,b1,b2,b3,b4,b5,w1]
     exact hx
   ·rw[if_neg (show ¬ P.okCs from fun h=>d (h k hk))]
    by_cases b1:P.cls k<0
    ·simp[zZ,mh,e,yA hk,yn hk,b1,z8]
    ·by_cases b2:4<P.cls k
     ·simp[zZ,mh,e,yA hk,yn hk,b1,b2,z8]
     ·by_cases b3:P.opn k<0
      ·simp[zZ,mh,e,yA hk,yn hk,b1,b2,b3,z8]
      ·by_cases b4:P.sup k<P.opn k
       ·simp[zZ,mh,e,yA hk,yn hk,vd hk,b1,b2,b3,b4,z8]
       ·have b5:P.cls k=0∧¬ P.opn k=P.sup k:=by
         unfold Pb.okC at d
         by_cases b5:P.cls k=0
         ·exact ⟨b5,fun h=>d ⟨by omega,by omega,by omega,by omega,fun _=>h⟩⟩
         ·exact absurd (⟨by omega,by omega,by omega,by omega,fun h=>absurd h b5⟩) d
        simp[zZ,mh,e,yA hk,yn hk,vd hk,b3,b4,b5,z8]
  ·have hs:P.okCs:=hI
   rw[if_pos hs]
   by_cases f1:8<P.cl.length
   ·have f1':(8:Int)<P.cl.length:=by omega
    rw[if_pos (.inl f1)]
    simp[zZ,mh,wY,f1',z8]
   ·have f1':¬ (8:Int)<P.cl.length:=by omega
    by_cases f2:160<P.of.length
    ·have f2':(160:Int)<P.of.length:=by omega
     rw[if_pos (.inr f2)]
     simp[zZ,mh,wY,f1',f2',z8]
    ·have f2':¬ (160:Int)<P.of.length:=by omega
     rw[if_neg (by omega)]
     simp[zZ,mh,wY,f1',f2']
     refine zw (Uv P) (fun r=>∀ q,q<r→(hq:q<P.cl.length)→kI P.cl[q]) P.cl.length (by simp[Uv]) (fun q hq=>by omega) (fun k hk hI=>?_) (fun hI=>?_)
     ·have e:(k:Int)<P.cl.length:=by omega
      have w1:=zm (k:=k) (by omega)
      by_cases d:kI P.cl[k]
      ·have d':=d
       unfold kI at d'
       have b1:¬ P.cl[k]<0:=by omega
       have b2:¬ 4<P.cl[k]:=by omega
       simp[xN,Uv,e,hk,b1,b2,w1]
       exact fun q hq hl=>by
        by_cases eq:q=k
        ·subst eq; exact d
        ·exact hI q (by omega) hl
      ·rw[if_neg (fun h=>d (h _ (List.getElem_mem hk)))]
       unfold kI at d
       by_cases b1:P.cl[k]<0
       ·simp[xN,Uv,e,hk,b1,z8]
       ·have b2:4<P.cl[k]:=by omega
        simp[xN,Uv,e,hk,b1,b2,z8]
     ·have hc:=frC P fun i hi=>hI i hi hi
      rw[if_pos hc]
      simp[xN,Uv,q8,z8]
 ·rw[if_pos c1]
  simp[c1,z8]
end
theorem akw {k:List Int} (h:k.length=7):∃ a b c d e f g,k=[a,b,c,d,e,f,g]:=by
 match k,h with
 | [a,b,c,d,e,f,g],_=>exact ⟨a,b,c,d,e,f,g,rfl⟩
theorem ag3 (b:Bool) (a0 a1 a2 a3 a4 a5 a6:Int):zr Tryz.prog (Instr.checkKey b 10000 apy (apf [a0,a1,a2,a3,a4,a5,a6]))=some ():=by kernel_rfl
theorem Fk {t:TypeId}:gy Tryz.prog t apy 7 where
 kd:=QQ
 ag:=by kernel_rfl
 chk:=fun b k h=>by
  obtain ⟨a0,a1,a2,a3,a4,a5,a6,rfl⟩:=akw h
  exact ag3 b a0 a1 a2 a3 a4 a5 a6
def gI (o:Of):List Int:=o.b::bI o.w
theorem TO {o:Of}:(gI o).length=7:=rfl
theorem Fj {o u:Of}:gI o=gI u↔nr o u:=by
 unfold gI nr
 rw[List.cons.injEq,Mq]
def rp (L:List Of):pj:=L.map fun o=>(gI o,.bool true)
theorem RR {L:List Of}:cc 7 (rp L):=fun x hx=>by
 obtain ⟨o,_,rfl⟩:=List.mem_map.1 hx
 exact TO
theorem ZE {o:Of}:∀ {L:List Of},vp (gI o) (rp L)=if ∃ u∈L,nr u o then some (.bool true) else none
 | []=>by simp[rp,vp]
 | u::L=>by
  have ih:=ZE (o:=o) (L:=L)
  unfold rp at ih ⊢
  rw[List.map_cons,vp,ih]
  by_cases h:gI o=gI u
  ·rw[if_pos h,if_pos ⟨u,by simp,Fj.1 h.symm⟩]
  ·rw[if_neg h]
   by_cases h2:∃ u∈L,nr u o
   ·obtain ⟨x,h3,h4⟩:=h2
    rw[if_pos ⟨x,h3,h4⟩,if_pos ⟨x,by simp[h3],h4⟩]
   ·rw[if_neg h2,if_neg]
    rintro ⟨x,h3,h4⟩
    rcases List.mem_cons.1 h3 with rfl | h3
    ·exact h (Fj.2 h4).symm
    ·exact h2 ⟨x,h3,h4⟩
@[irreducible] def kC (o:Of):List AV:=(gI o).map iv
theorem Uc (o:Of):kC o=[iv o.b,iv (o.w 0),iv (o.w 1),iv (o.w 2),iv (o.w 3),iv (o.w 4),iv (o.w 5)]:=by unfold kC; rfl
section
variable {o:Of} {k l:Nat}
@[simp] theorem ag2:(kC o).length=7:=by rw[Uc]; rfl
@[simp] theorem adr:(kC o).all rf=true:=by rw[Uc]; rfl
@[simp] theorem ajQ:(∀ x,x∈kC o→rf x=true)=True:=eq_true fun x h=>List.all_eq_true.1 adr x h
@[simp] theorem abe:(kC o).map strip=kC o:=by rw[Uc]; rfl
@[simp] theorem amm:(kC o).map (dg l)=kC o:=by rw[Uc]; simp
@[simp] theorem alJ:wy k (kC o)=false:=by rw[Uc]; simp
@[simp] theorem ajM:zH (kC o) 0 (some 7)=some (.agg (kC o)):=by rw[sM ag2 adr,abe]
@[simp] theorem akv:splice [AV.val (Value.int IntKind.i64 o.b),AV.val (Value.int IntKind.i64 0),AV.val (Value.int IntKind.i64 0),AV.val (Value.int IntKind.i64 0),AV.val (Value.int IntKind.i64 0),AV.val (Value.int IntKind.i64 0),AV.val (Value.int IntKind.i64 0)] 1 (bC o.w)=kC o:=by
 rw[Uc,tn]; rfl
end
noncomputable def boolT:TypeId:=match Tryz.prog.underlying xF with
 | some (.map _ e)=>e
 | _=>0
theorem ckM:Tryz.prog.underlying xF=some (.map apy boolT):=by kernel_rfl
theorem ckZ:zr Tryz.prog (zeroValue boolT)=some (.bool false):=by kernel_rfl
theorem ag5 {σ:Nat→Option zf} {K:AV→Option zf→Prop} {L:List Of} {o:Of} {c:Nat} (hs:σ 17=some (.map (pJ (rp L)) c)) :
  ss Tryz.prog xF false σ [.mp 17,.agg (kC o)] K=K (bv (decide (∃ u∈L,nr u o))) none:=by
 have e:kC o=(gI o).map iv:=by unfold kC; rfl
 rw[e,Lr Fk ckM ckZ hs TO RR,ZE]
 by_cases h:∃ u∈L,nr u o
 ·rw[if_pos h,decide_eq_true h]; rfl
 ·rw[if_neg h,decide_eq_false h]; rfl
theorem ajn {s:St} {KS:St→Prop} {L:List Of} {o:Of} (hs:lk s.sto 17=some (.map (pJ (rp L)) (rp L).length)) (hn:¬ ∃ u∈L,nr u o) :
  rP Tryz.prog xF s none KS [.mp 17,.agg (kC o),.val (.bool true)]=KS {s with sto:=pt s.sto 17 (.map (pJ (rp (L++[o]))) (rp (L++[o])).length)}:=by
 have e:kC o=(gI o).map iv:=by unfold kC; rfl
 have e2:jF (gI o) (.bool true) (rp L)=rp (L++[o]):=by
  rw[Xm (by rw[ZE,if_neg hn])]
  simp[rp]
 rw[e,Lt Fk ckM hs TO RR rfl,e2]
 simp
section
variable {P:Pb} {r n:Nat} {o:Of} {L:List Of}
def R1 (P:Pb) (k:Nat):St:={env:=[(3,.ptr 3 0),(5,.mp 17),(19,ofA P.of),(20,iv P.of.length),(21,iv k)],sto:=[(3,.var (pbC P)),(17,.map (pJ (rp (P.of.take k))) (rp (P.of.take k)).length)]}
theorem CF (h:P.frameE=0):P.cl.length≤1000∧P.of.length≤1000000:=by
 unfold Pb.frameE at h
 split at h
 ·cases h
 ·split at h
  ·cases h
  ·split at h
   ·cases h
   ·omega
theorem GU:ze Tryz.prog vf [.agg (pbC P)] (iv P.chk):=by
 refine zn Qd (by simp) ?_
 simp[dO]
 refine za (aek (P:=P)) (by simp) (by simp) ?_
 unfold Pb.chk
 by_cases c1:P.frameE=0
 ·rw[if_pos c1]
  obtain ⟨hn,hk⟩:=CF c1
  simp[c1]
  refine zw (R1 P) (fun k=>P.chkL k=0) P.of.length (by simp[R1,rp,pJ,tS]) rfl (fun k hk' hI=>?_) (fun hI=>?_)
  ·have e:(k:Int)<P.of.length:=by omega
   have hg:P.of[k]?=some P.of[k]:=by simp[hk']
   have w1:=zm (k:=k) (by omega)
   obtain ⟨o,ho⟩:∃ o,P.of[k]=o:=⟨_,rfl⟩
   rw[ho] at hg
   simp[pC,R1,e,hk',ho]
   refine za (aeS (P:=P) (o:=o) hn) (by simp) (by simp) ?_
   by_cases d:P.offE o=0
   ·simp[d]
    rw[ag5 (L:=P.of.take k) (c:=(rp (P.of.take k)).length) (by simp)]
    by_cases d2:∃ u∈P.of.take k,nr u o
    ·have hi:P.offI k o=7:=by unfold Pb.offI; rw[if_neg (fun h=>h d),if_pos d2]
     rw[gY hI hg (by rw[hi]; decide) hk',hi]
     rw[decide_eq_true d2]
     simp[sO]
    ·have hi:P.offI k o=0:=by unfold Pb.offI; rw[if_neg (fun h=>h d),if_neg d2]
     have hx:=P4 hI hg hi
     rw[decide_eq_false d2]
     simp
     rw[ajn (L:=P.of.take k) (by simp) d2,← fo hg]
     simp[w1,hx,R1]
   ·have hi:P.offI k o=P.offE o:=by unfold Pb.offI; rw[if_pos d]
    rw[gY hI hg (by rw[hi]; exact d) hk',hi]
    simp[d,sO]
  ·rw[hI]
   simp[pC,R1,j2,sO]
 ·rw[if_neg c1]
  simp[c1,sO]
theorem Qy (_hn:P.cl.length≤1000) (_hk:P.of.length≤1000000):ze Tryz.prog vf [.agg (pbC P)] (iv P.chk):=GU
end
end Go.Proofs.YtpnliopaifpimaaGreat

namespace Go.Pb
def Pb.at (P:Pb) (i:Int):Of:=P.of.getD i.toNat ⟨0,fun _=>0,0⟩
def Pb.pick (P:Pb) (ch:List Int):List Of:=ch.map P.at
def prv (ch:List Int):Nat→Int
 | 0=>-1
 | k+1=>ch.getD k 0
def okI (n:Nat) (ch:List Int) (k:Nat):Prop:=prv ch k<ch.getD k 0∧ch.getD k 0<n
instance (n:Nat) (ch:List Int) (k:Nat):Decidable (okI n ch k):=inferInstanceAs (Decidable (prv ch k<ch.getD k 0∧ch.getD k 0<n))
def okP (n:Nat) (ch:List Int):Prop:=∀ k,k<ch.length→okI n ch k
instance (n:Nat) (ch:List Int):Decidable (okP n ch):=Nat.decidableBallLT ch.length fun k _=>okI n ch k
def Pb.feaE (P:Pb) (ch:List Int):Int:=if P.chk≠0 then P.chk else if ¬ okP P.of.length ch then 4 else if P.fits (P.pick ch) then 0 else 14
def Pb.valE (P:Pb) (ch:List Int):Int:=if okP P.of.length ch∧P.chk=0 then ((P.pick ch).map fun o=>o.v).sum else 0
section
variable {P:Pb} {n k:Nat} {ch:List Int}
theorem RK (h:∀ q,q<k→okI n ch q):(k:Int)-1≤prv ch k:=by
 induction k with
 | zero=>simp[prv]
 | succ k ih =>
  have h1:=ih fun q hq=>h q (by omega)
  have h2:=(h k (by omega)).1
  simp only[prv]
  omega
theorem aa (h:okP n ch):ch.length≤n:=by
 cases e:ch.length with
 | zero=>omega
 | succ k =>
  have h1:=RK (k:=k) (n:=n) (ch:=ch) fun q hq=>h q (by omega)
  have h2:=h k (by omega)
  unfold okI at h2
  omega
theorem Uh (h:∀ q,q<k→okI n ch q) (hk:okI n ch k):∃ b:Nat,ch.getD k 0=b∧b<n:=by
 have h1:=RK h
 have h2:=hk
 unfold okI at h2
 exact ⟨(ch.getD k 0).toNat,by omega,by omega⟩
theorem anu (h:okP P.of.length ch):∀ o∈P.pick ch,o∈P.of:=fun o ho=>by
 obtain ⟨i,hi,rfl⟩:=List.mem_map.1 ho
 obtain ⟨k,hk,rfl⟩:=List.getElem_of_mem hi
 obtain ⟨b,hb,hbn⟩:=Uh (fun q hq=>h q (by omega)) (h k hk)
 have e:ch.getD k 0=ch[k]:=by rw[List.getD_eq_getElem?_getD,List.getElem?_eq_getElem hk]; rfl
 unfold Pb.at
 rw[← e,hb,Int.toNat_natCast,List.getD_eq_getElem?_getD,List.getElem?_eq_getElem hbn]
 exact List.getElem_mem hbn
theorem vT:(P.pick ch).length=ch.length:=by simp[Pb.pick]
end
def ints (l:List Nat):List Int:=l.map fun i:Nat=>(i:Int)
theorem akD {n:Nat} {l:List Nat} (h1:l.Pairwise (·<·)) (h2:∀ j∈l,j<n):okP n (ints l):=fun k hk=>by
 have hk':k<l.length:=by simpa [ints] using hk
 have e:∀ k,(hk:k<l.length)→(ints l).getD k 0=(l[k]:Int):=fun k hk=>by simp[ints,hk]
 refine ⟨?_,by rw[e k hk']; have:=h2 _ (List.getElem_mem hk'); omega⟩
 cases k with
 | zero=>rw[e 0 hk']; simp only[prv]; omega
 | succ k =>
  simp only[prv]
  rw[e _ hk',e k (by omega)]
  have:=List.pairwise_iff_getElem.1 h1 k (k+1) (by omega) hk' (by omega)
  omega
end Go.Pb

namespace Go.Proofs.YtpnliopaifpimaaGreat
open Go Go.Am Go.Pb
@[simp] theorem akP:clR []=[]:=rfl
@[simp] theorem ak3:ofR []=[]:=rfl
@[simp] theorem aj8 {tok sz:Nat}:apc tok sz []=uw:=Qs rfl
section
variable {P:Pb} {r n:Nat} {o:Of} {L:List Of} {ch:List Int}
theorem getD_lt {l:List Int} {k:Nat} (h:k<l.length):l.getD k 0=l[k]:=by rw[List.getD_eq_getElem?_getD,List.getElem?_eq_getElem h]; rfl
theorem F8 {b:Nat} (h:b<P.of.length):P.at (b:Int)=P.of[b]:=by unfold Pb.at; rw[Int.toNat_natCast,List.getD_eq_getElem?_getD,List.getElem?_eq_getElem h]; rfl
theorem Y8 {k:Nat} (h:k<ch.length):P.pick (ch.take (k+1))=P.pick (ch.take k)++[P.at ch[k]]:=by
 unfold Pb.pick
 rw[fo (o:=ch[k]) (by simp[h]),List.map_append]
 rfl
theorem QX {L M:List Of}:ofR (L++M)=ofR L++ofR M:=by simp[ofR]
theorem p9 {tok sz by_:Nat} {s:St} {KS:St→Prop} {rows:List (List AV)} {m:Am.Mode} {x:List AV} (h0:0<sz) (h1:s.base+tok=tok) (h2:(rows.length+1)*by_≤140737488355328) (h3:rows.length+1≤9223372036854775807) (h4:lk s.sto tok=none)
  (hK:KS ((s.dg tok).put (some tok) (apc tok sz (rows++[x])))):yY sz by_ s (some tok) KS [apc tok sz rows,.list sz m [x]]:=by
 have e:∀ r:List (List AV),apc tok sz r=yE sz tok r:=fun r=>by
  unfold apc yE
  by_cases h:r=[]
  ·subst h; simp
  ·simp[h]
 rw[e,rO h0 h1]
 exact ⟨h2,h3,h4,by rw[← e]; exact hK⟩
end
end Go.Proofs.YtpnliopaifpimaaGreat

namespace Go.Pb
def numK (fx:List Int) (v:Int) (k:Nat):List Nat:=(List.range k).filter fun i=>decide (fx.getD i 9=v)
def Pb.inK (P:Pb) (fx:List Int) (k:Nat):List Of:=(numK fx 1 k).map fun i:Nat=>P.at i
def Pb.inL (P:Pb) (fx:List Int):List Of:=P.inK fx fx.length
def okX (fx:List Int) (i:Nat):Prop:=fx.getD i 9=-1∨fx.getD i 9=0∨fx.getD i 9=1
instance (fx:List Int) (i:Nat):Decidable (okX fx i):=inferInstanceAs (Decidable (_∨_∨_))
def okF (fx:List Int):Prop:=∀ i,i<fx.length→okX fx i
instance (fx:List Int):Decidable (okF fx):=Nat.decidableBallLT fx.length fun i _=>okX fx i
def Pb.relB (P:Pb) (fx:List Int) (r:Nat):Int:=P.bnd r-((P.inL fx).map (P.coef r)).sum
section
variable {P:Pb} {fx:List Int} {v:Int} {k i:Nat}
theorem No:numK fx v 0=[]:=rfl
theorem numK_succ:numK fx v (k+1)=if fx.getD k 9=v then numK fx v k++[k] else numK fx v k:=by
 unfold numK
 rw[List.range_succ,List.filter_append]
 by_cases h:fx.getD k 9=v
 ·rw[if_pos h,List.filter_cons_of_pos (by simpa using h)]; rfl
 ·rw[if_neg h,List.filter_cons_of_neg (by simpa using h),List.filter_nil,List.append_nil]
theorem numK_mem (h:i∈numK fx v k):i<k∧fx.getD i 9=v:=by
 unfold numK at h
 obtain ⟨h1,h2⟩:=List.mem_filter.1 h
 exact ⟨by simpa using h1,by simpa using h2⟩
theorem numK_len:(numK fx v k).length≤k:=by
 unfold numK
 have:=List.length_filter_le (fun i=>decide (fx.getD i 9=v)) (List.range k)
 rwa [List.length_range] at this
theorem aeu:(P.inK fx k).length≤k:=by unfold Pb.inK; rw[List.length_map]; exact numK_len
theorem px (h:i<P.of.length):P.at (i:Int)=P.of[i]:=by
 unfold Pb.at; rw[Int.toNat_natCast,List.getD_eq_getElem?_getD,List.getElem?_eq_getElem h]; rfl
theorem at_mem (h:i<P.of.length):P.at (i:Int)∈P.of:=by rw[px h]; exact List.getElem_mem h
theorem aev (h:k≤P.of.length):∀ o∈P.inK fx k,o∈P.of:=fun o ho=>by
 obtain ⟨i,hi,rfl⟩:=List.mem_map.1 ho
 have:=(numK_mem hi).1
 exact at_mem (by omega)
end
end Go.Pb

namespace Go.Proofs.YtpnliopaifpimaaGreat
open Go Go.Am Go.Pb
section
variable {P:Pb} {r n k:Nat} {o:Of} {L:List Of} {fx:List Int}
@[simp] theorem ahX:zH ((oC o).drop 7) 0 none=some (iv o.v):=by rw[pc]; rfl
@[simp] theorem aj2 {q:Rat} {a b c d:AV}:splice [a,b,c,d] 1 (fr q)=a::fr q:=by unfold fr; simp[splice,-X6]
@[simp] theorem aj1 {q:Rat} {x a b c d:AV}:splice [a,b,c,d] 0 (x::fr q)=x::fr q:=by unfold fr; simp[splice,-X6]
@[simp] theorem aj3 {q:Rat} {x y:AV}:splice (x::fr q) 0 [y]=y::fr q:=by unfold fr; simp[splice,-X6]
@[simp] theorem ajO {q:Rat} {x:AV} (h:rf x=true):zH (x::fr q) 0 (some 4)=some (.agg (strip x::fr q)):=by
 rw[sM (by simp) (by rw[List.all_cons,h,Ex]; rfl),List.map_cons,TE]
@[simp] theorem ajI {x:AV} {l:List AV}:zH (x::l) 0 none=some x:=rfl
@[simp] theorem ajJ {x y:AV} {l:List AV}:zH (x::y::l) 1 none=some y:=rfl
@[simp] theorem akt {l:List Nat}:(ints l).length=l.length:=by simp[ints]
@[simp] theorem aku:ints []=[]:=rfl
@[simp] theorem ajP {l:List Nat} {k:Nat} {h:k<(ints l).length}:(ints l)[k]=((l[k]'(by simpa using h):Nat):Int):=by simp[ints]
end
def PB (w:Nat→Int) (k:Nat):St:={env:=[(1,.ptr 1 0),(3,iv k)],sto:=[(1,.var (bC w))]}
theorem KQ {w:Nat→Int}:ze Tryz.prog nX [.agg (bC w)] (bv (decide (okB w))):=by
 refine zn Md (by simp) ?_
 simp[Z4]
 refine zw (PB w) (fun i=>∀ j,j<i→0≤w j∧w j≤4) 6 (by simp[PB]) (fun j hj=>by omega) (fun i hi hI=>?_) (fun hI=>?_)
 ·have e:(i:Int)<6:=by omega
  have w1:=zm (k:=i) (by omega)
  by_cases c1:w i<0
  ·have hf:¬ okB w:=fun h=>by have:=h i hi; omega
   simp[tN,PB,e,YS hi,c1,hf,amM]
  ·by_cases c2:4<w i
   ·have hf:¬ okB w:=fun h=>by have:=h i hi; omega
    simp[tN,PB,e,YS hi,c1,c2,hf,amM]
   ·simp[tN,PB,e,YS hi,c1,c2,w1]
    exact fun j hj=>by
     by_cases e:j=i
     ·subst e; omega
     ·exact hI j (by omega)
 ·have hf:okB w:=hI
  simp[tN,PB,hf,eh,amM]
section
variable {P:Pb} {r n:Nat} {o:Of}
theorem Uo (hn:P.cl.length≤1000) (hb:0≤o.b) (hr:r<P.rows):∃ c,(o.b<P.cl.length→c=P.coef r o)∧ze Tryz.prog rx [.agg (pbC P),iv r,.agg (oC o)] (.tuple [iv c,iv (P.bnd r)]):=by
 unfold Pb.rows at hr
 unfold Pb.coef Pb.bnd
 obtain ⟨n,hn'⟩:∃ n,P.cl.length=n:=⟨_,rfl⟩
 rw[hn'] at hr hn ⊢
 by_cases h1:r<n
 ·refine ⟨if o.b=r then 1 else 0,fun _=>by rw[if_pos h1],?_⟩
  refine zn r8 (by simp) ?_
  rw[if_pos h1]
  by_cases h2:o.b=r
  ·rw[if_pos h2]
   simp[ur,hn',h1,h2,uA]
  ·rw[if_neg h2]
   simp[ur,hn',h1,h2,uA]
 ·have w0:IntKind.i64.wrap ((n:Int)+6)=(n:Int)+6:=by rw[wrap64]<;>omega
  obtain ⟨k,hk⟩:∃ k,r=n+k:=⟨r-n,by omega⟩
  have e0:(r:Int)-n=k:=by omega
  have e2:r-n=k:=by omega
  have w1:IntKind.i64.wrap (k:Int)=k:=by rw[wrap64]<;>omega
  rw[if_neg h1,if_neg h1,e2]
  have c1:¬ (r:Int)<n:=by omega
  by_cases h2:k<6
  ·have c2:(r:Int)<(n:Int)+6:=by omega
   have h2':(k:Int)<6:=by omega
   refine ⟨o.w k,fun _=>by rw[if_pos (by omega)],?_⟩
   rw[if_pos (by omega)]
   refine zn r8 (by simp) ?_
   simp[ur,hn',w0,c1,c2,e0,w1,h2',Zf h2,vd h2,uA]
  ·obtain ⟨j,hj0⟩:∃ j,k=6+j:=⟨k-6,by omega⟩
   have hj:j<6:=by omega
   have hj':(j:Int)<6:=by omega
   have c2:¬ (r:Int)<(n:Int)+6:=by omega
   have e3:(k:Int)-6=j:=by omega
   have w2:IntKind.i64.wrap (j:Int)=j:=by rw[wrap64]<;>omega
   have hr6:¬ r<n+6:=by omega
   rw[if_neg hr6,if_neg hr6,show k-6=j by omega]
   by_cases h3:P.cls j=0
   ·refine ⟨0,fun _=>by rw[if_pos (.inl h3)],?_⟩
    refine zn r8 (by simp) ?_
    simp[ur,hn',w0,c1,c2,e0,w1,e3,w2,hj',yn hj,yA hj,h3,uA]
   ·by_cases h5:o.b<n
    ·obtain ⟨b,hb1,hb2,hb3⟩:=La (P:=P) (o:=o) (by rw[hn']; exact ⟨hb,h5⟩)
     have hbn:(b:Int)<n:=by omega
     have hbn':b<n:=by omega
     have hc:P.cl[b]?=some (P.clOf (b:Int)):=by rw[← hb1]; exact hb3
     have hE:P.cl[b]=P.clOf (b:Int):=by rw[List.getElem?_eq_getElem hb2] at hc; exact Option.some.inj hc
     rw[hb1]
     by_cases h4:P.cls j=P.clOf (b:Int)
     ·refine ⟨0,fun _=>by rw[if_pos (.inr h4)],?_⟩
      rw[h4] at h3
      refine zn r8 (by simp) ?_
      simp[ur,hn',w0,c1,c2,e0,w1,e3,w2,hj',yn hj,yA hj,h3,hb1,hbn,hbn',hE,h4,uA]
     ·refine ⟨o.w j,fun _=>by rw[if_neg (fun h=>h.elim h3 h4)],?_⟩
      refine zn r8 (by simp) ?_
      simp[ur,hn',w0,c1,c2,e0,w1,e3,w2,hj',yn hj,yA hj,Zf hj,h3,hb1,hbn,hbn',hE,h4,uA]
    ·refine ⟨0,fun h=>absurd h h5,?_⟩
     refine zn r8 (by simp) ?_
     simp[ur,hn',w0,c1,c2,e0,w1,e3,w2,hj',yn hj,yA hj,h3,h5,uA]
end
def oZ:Of:=⟨0,fun _=>0,0⟩
theorem Fz:[iv 0,iv 0,iv 0,iv 0,iv 0,iv 0,iv 0,iv 0]=oC oZ:=by rw[pc]; rfl
def K9 (P:Pb) (L:List Of) (r:Nat):St:={env:=[(1,ofA L),(2,.ptr 2 0),(5,iv r)],sto:=[(2,.var (pbC P))]}
def Pu (P:Pb) (L:List Of) (r k:Nat):St:={env:=[(1,ofA L),(2,.ptr 2 0),(5,iv r),(6,iv (sh (P.coef r) L k)),(7,iv k)],sto:=[(2,.var (pbC P))]}
section
variable {P:Pb} {r n:Nat} {o:Of} {L:List Of}
theorem FU (hn:P.cl.length≤1000) (hL:L.length≤1000) (hb:∀ o∈L,0≤o.b∧o.b<P.cl.length) (hw:∀ o∈L,okB o.w):ze Tryz.prog lP [.agg (pbC P),ofA L] (bv (decide (P.fits L))):=by
 have hR:P.rows≤1012:=by unfold Pb.rows; omega
 have hRi:((P.rows:Nat):Int)=(P.cl.length:Int)+12:=by unfold Pb.rows; omega
 have w0:IntKind.i64.wrap ((P.cl.length:Int)+12)=(P.cl.length:Int)+12:=by rw[wrap64]<;>omega
 refine zn Jo (by simp) ?_
 simp[YF]
 refine zw (K9 P L) (fun r=>∀ q,q<r→(L.map (P.coef q)).sum≤P.bnd q) P.rows (by simp[K9]) (fun q hq=>by omega) (fun r hr hI=>?_) (fun hI=>?_)
 ·have e:(r:Int)<(P.cl.length:Int)+12:=by omega
  have w1:=zm (k:=r) (by omega)
  simp[amS,K9,e,w0]
  refine zw (Pu P L r) (fun _=>True) L.length (by simp[Pu,Y9]) trivial (fun k hk _=>?_) (fun _=>?_)
  ·have e':(k:Int)<L.length:=by omega
   have hg:L[k]?=some L[k]:=by simp[hk]
   have hm:L[k]∈L:=List.getElem_mem hk
   have w2:=zm (k:=k) (by omega)
   obtain ⟨p1,p2⟩:=kJ (f:=P.coef r) (fun o ho=>nf (P:=P) (hw o ho) hr) k (by omega)
   obtain ⟨p3,p4⟩:=nf (P:=P) (hw _ hm) hr
   have w3:IntKind.i64.wrap (sh (P.coef r) L k+P.coef r L[k])=sh (P.coef r) L k+P.coef r L[k]:=by rw[wrap64]<;>omega
   have hs:=cr (f:=P.coef r) hg
   obtain ⟨c,hc,hk'⟩:=Uo (P:=P) (o:=L[k]) hn (hb _ hm).1 hr
   have hc:=hc (hb _ hm).2
   subst hc
   simp[q9,Pu,e',hk]
   refine za hk' (by simp) (by simp) ?_
   simp[w2,w3,hs,Pu]
  ·have hall:sh (P.coef r) L L.length=(L.map (P.coef r)).sum:=Zv
   obtain ⟨z,hz,hz0⟩:∃ z:Of,[iv 0,iv 0,iv 0,iv 0,iv 0,iv 0,iv 0,iv 0]=oC z∧0≤z.b:=⟨oZ,Fz,Int.le_refl 0⟩
   obtain ⟨c,_,hk'⟩:=Uo (P:=P) (o:=z) hn hz0 hr
   have key:∀ K:Exit→St→Prop,K (.exit 2) {env:=[(1,ofA L),(2,.ptr 2 0),(5,iv r),(6,iv (sh (P.coef r) L L.length)),(7,iv L.length),(23,bv false)],sto:=[(2,.var (pbC P))]}→awp Tryz.prog q9 (Pu P L r L.length) (t7 K):=by
    intro K h
    simp[q9,Pu]
    exact h
   refine key _ ?_
   simp[dP,hz]
   refine za hk' (by simp) (by simp) ?_
   by_cases hc:P.bnd r<(L.map (P.coef r)).sum
   ·have hf:¬ P.fits L:=fun h=>by have:=h r hr; omega
    simp[hall,hc,hf,de]
   ·simp[hall,hc,dQ,w1,K9]
    exact fun q hq=>by
     by_cases eq:q=r
     ·subst eq; omega
     ·exact hI q (by omega)
 ·have hf:P.fits L:=hI
  have e:¬ ((P.rows:Nat):Int)<(P.cl.length:Int)+12:=by omega
  simp[amS,K9,w0,e,hf,dR,de]
end
@[simp] theorem aim {u:Of}:zH (oC u).tail 0 (some 6)=some (.agg (bC u.w)):=by rw[pc,tn]; rfl
section
variable {P:Pb} {r n:Nat} {o:Of} {L:List Of}
def kS (P:Pb) (k:Nat):St:={env:=[(1,.ptr 1 0),(3,iv k)],sto:=[(1,.var (pbC P))]}
def ZN (P:Pb) (k:Nat):St:={env:=[(1,.ptr 1 0),(4,iv k)],sto:=[(1,.var (pbC P))]}
def jV (P:Pb) (k:Nat):St:={env:=[(1,.ptr 1 0),(5,iv k)],sto:=[(1,.var (pbC P))]}
def ZO (P:Pb) (o:Of) (k j:Nat):St:={env:=[(1,.ptr 1 0),(5,iv k),(6,.ptr 6 0),(7,iv j)],sto:=[(1,.var (pbC P)),(6,.var (oC o))]}
theorem FA {i:Nat} (h:P.offE o≠0):P.offI i o=P.offE o:=by unfold Pb.offI; rw[if_pos h]
theorem RG (h:o.b<0∨(P.cl.length:Int)≤o.b):P.offE o=6:=by
 have:qT P.cl.length o=6:=by unfold qT; rw[if_pos h]
 unfold Pb.offE; rw[this]; rfl
theorem RH (hb:¬ (o.b<0∨(P.cl.length:Int)≤o.b)) (h:o.v<1∨1000000<o.v):P.offE o=4:=by
 have:qT P.cl.length o=4:=by unfold qT; rw[if_neg hb,if_pos h]
 unfold Pb.offE; rw[this]; rfl
theorem Bq (hb:¬ (o.b<0∨(P.cl.length:Int)≤o.b)) (hv:¬ (o.v<1∨1000000<o.v)) (h:¬ okB o.w):P.offE o=4:=by
 have:qT P.cl.length o=4:=by unfold qT; rw[if_neg hb,if_neg hv,if_neg h]
 unfold Pb.offE; rw[this]; rfl
theorem agM (hb:¬ (o.b<0∨(n:Int)≤o.b)) (hv:¬ (o.v<1∨1000000<o.v)) (h:okB o.w):qT n o=0:=by unfold qT; rw[if_neg hb,if_neg hv,if_pos h]
theorem Br (hf:qT P.cl.length o=0) (h:jX o.w):P.offE o=4:=by unfold Pb.offE; rw[if_neg (fun h=>h hf),if_pos h]
theorem Bp (hf:qT P.cl.length o=0) (hz:¬ jX o.w):P.offE o=if P.fits [o] then 0 else 14:=by unfold Pb.offE; rw[if_neg (fun h=>h hf),if_neg hz]
theorem KG:ze Tryz.prog vB [.agg (pbC P)] (iv P.chk):=by
 have hkd:kds Tryz.prog Op.maxDepth vg=some (List.replicate 6 (.i .i64)):=by kernel_rfl
 have hg:Tryz.prog.eqGuardType Tryz.prog.depth vg=false:=by kernel_rfl
 have hA:agT Tryz.prog vg=true:=by kernel_rfl
 refine zn Me (by simp) ?_
 simp[Z5]
 refine za (KQ (w:=P.sup)) (by simp) (by simp) ?_
 unfold Pb.chk
 by_cases c1:okB P.sup
 ·simp[c1]
  refine zw (kS P) (fun r=>∀ q,q<r→P.okC q) 6 (by simp[kS]) (fun q hq=>by omega) (fun k hk hI=>?_) (fun hI=>?_)
  ·have e:(k:Int)<6:=by omega
   have w1:=zm (k:=k) (by omega)
   by_cases d:P.okC k
   ·have d':=d
    unfold Pb.okC at d'
    obtain ⟨d1,d2,d3,d4,d5⟩:=d'
    have b1:¬ P.cls k<0:=by omega
    have b2:¬ 4<P.cls k:=by omega
    have b3:¬ P.opn k<0:=by omega
    have b4:¬ P.sup k<P.opn k:=by omega
    have hx:∀ q,q<k+1→P.okC q:=fun q hq=>by
     by_cases eq:q=k
     ·subst eq; exact d
     ·exact hI q (by omega)
    by_cases b5:P.cls k=0
    ·have b6:=d5 b5
     rw[b5] at b1 b2
     rw[b6] at b3 b4
     simp[yT,kS,e,yA hk,yn hk,vd hk,b3,b5,b6,w1]
     exact hx
    ·simp[yT,kS,e,yA hk,yn hk,vd hk,b1,b2,b3,b4,b5,w1]
     exact hx
   ·have hF:P.frameE=4:=by unfold Pb.frameE; rw[if_neg (fun h=>h c1),if_pos (show ¬ P.okCs from fun h=>d (h k hk))]
    rw[hF]
    by_cases b1:P.cls k<0
    ·simp[yT,kS,e,yn hk,b1,yb]
    ·by_cases b2:4<P.cls k
     ·simp[yT,kS,e,yn hk,b1,b2,yb]
     ·by_cases b3:P.opn k<0
      ·simp[yT,kS,e,yA hk,yn hk,b1,b2,b3,yb]
      ·by_cases b4:P.sup k<P.opn k
       ·simp[yT,kS,e,yA hk,yn hk,vd hk,b1,b2,b3,b4,yb]
       ·have b5:P.cls k=0∧¬ P.opn k=P.sup k:=by
         unfold Pb.okC at d
         by_cases b5:P.cls k=0
         ·exact ⟨b5,fun h=>d ⟨by omega,by omega,by omega,by omega,fun _=>h⟩⟩
         ·exact absurd (⟨by omega,by omega,by omega,by omega,fun h=>absurd h b5⟩) d
        simp[yT,kS,e,yA hk,yn hk,vd hk,b3,b4,b5,yb]
  ·have hs:P.okCs:=hI
   have key:∀ K:Exit→St→Prop,K (.exit 0) {env:=[(1,.ptr 1 0),(3,iv (6:Nat)),(13,bv false)],sto:=[(1,.var (pbC P))]}→awp Tryz.prog yT (kS P 6) (t7 K):=by
    intro K h
    simp[yT,kS]
    exact h
   refine key _ ?_
   by_cases f1:8<P.cl.length
   ·have f1':(8:Int)<P.cl.length:=by omega
    have hF:P.frameE=3:=by unfold Pb.frameE; rw[if_neg (fun h=>h c1),if_neg (fun h=>h hs),if_pos (.inl f1)]
    simp[qe,f1',hF,yb]
   ·have f1':¬ (8:Int)<P.cl.length:=by omega
    have hn:P.cl.length≤1000:=by omega
    by_cases f2:160<P.of.length
    ·have f2':(160:Int)<P.of.length:=by omega
     have hF:P.frameE=3:=by unfold Pb.frameE; rw[if_neg (fun h=>h c1),if_neg (fun h=>h hs),if_pos (.inr f2)]
     simp[qe,f1',f2',hF,yb]
    ·have f2':¬ (160:Int)<P.of.length:=by omega
     simp[qe,f1',f2']
     refine zw (ZN P) (fun r=>∀ q,q<r→(hq:q<P.cl.length)→kI P.cl[q]) P.cl.length (by simp[ZN]) (fun q hq=>by omega) (fun k hk hI=>?_) (fun hI=>?_)
     ·have e:(k:Int)<P.cl.length:=by omega
      have w1:=zm (k:=k) (by omega)
      by_cases d:kI P.cl[k]
      ·have d':=d
       unfold kI at d'
       have b1:¬ P.cl[k]<0:=by omega
       have b2:¬ 4<P.cl[k]:=by omega
       simp[vO,ZN,e,hk,b1,b2,w1]
       exact fun q hq hl=>by
        by_cases eq:q=k
        ·subst eq; exact d
        ·exact hI q (by omega) hl
      ·have hF:P.frameE=4:=by unfold Pb.frameE; rw[if_neg (fun h=>h c1),if_neg (fun h=>h hs),if_neg (by omega),if_neg (fun h=>d (h _ (List.getElem_mem hk)))]
       rw[hF]
       unfold kI at d
       by_cases b1:P.cl[k]<0
       ·simp[vO,ZN,e,hk,b1,yb]
       ·have b2:4<P.cl[k]:=by omega
        simp[vO,ZN,e,hk,b1,b2,yb]
     ·have hc:=frC P fun i hi=>hI i hi hi
      have hF:P.frameE=0:=by unfold Pb.frameE; rw[if_neg (fun h=>h c1),if_neg (fun h=>h hs),if_neg (by omega),if_pos hc]
      rw[if_pos hF]
      have key:∀ K:Exit→St→Prop,K (.exit 2) {env:=[(1,.ptr 1 0),(4,iv P.cl.length),(78,bv false)],sto:=[(1,.var (pbC P))]}→awp Tryz.prog vO (ZN P P.cl.length) (t7 K):=by
       intro K h
       simp[vO,ZN]
       exact h
      refine key _ ?_
      simp[er]
      refine zw (jV P) (fun k=>P.chkL k=0) P.of.length (by simp[jV]) rfl (fun k hk' hI=>?_) (fun hI=>?_)
      ·have e:(k:Int)<P.of.length:=by omega
       have hgk:P.of[k]?=some P.of[k]:=by simp[hk']
       have w1:=zm (k:=k) (by omega)
       obtain ⟨o,ho⟩:∃ o,P.of[k]=o:=⟨_,rfl⟩
       rw[ho] at hgk
       have fin:P.offE o≠0→P.chkL P.of.length=P.offE o:=fun h=>by
        rw[gY hI hgk (by rw[FA h]; exact h) hk',FA h]
       by_cases b1:o.b<0
       ·rw[fin (by rw[RG (.inl b1)]; decide),RG (.inl b1)]
        simp[xW,jV,e,hk',ho,b1,yb]
       ·by_cases b2:(P.cl.length:Int)≤o.b
        ·rw[fin (by rw[RG (.inr b2)]; decide),RG (.inr b2)]
         simp[xW,jV,e,hk',ho,b1,b2,yb]
        ·have hb:¬ (o.b<0∨(P.cl.length:Int)≤o.b):=by omega
         by_cases b3:o.v<1
         ·rw[fin (by rw[RH hb (.inl b3)]; decide),RH hb (.inl b3)]
          simp[xW,jV,e,hk',ho,b1,b2,b3,yb]
         ·by_cases b4:1000000<o.v
          ·rw[fin (by rw[RH hb (.inr b4)]; decide),RH hb (.inr b4)]
           simp[xW,jV,e,hk',ho,b1,b2,b3,b4,yb]
          ·have hv:¬ (o.v<1∨1000000<o.v):=by omega
           simp[xW,jV,e,hk',ho,b1,b2,b3,b4]
           refine za (KQ (w:=o.w)) (by simp) (by simp) ?_
           by_cases b5:okB o.w
           ·have hf:=agM (n:=P.cl.length) hb hv b5
            have hz:decide (bI o.w=bI (fun _=>0))=decide (jX o.w):=by
             rw[decide_eq_decide,Mq]
             exact Iff.rfl
            simp[b5,GB]
            rw[gG hkd hg hA lD lD]
            by_cases b6:jX o.w
            ·rw[fin (by rw[Br hf b6]; decide),Br hf b6]
             simp[hz,b6,yb]
            ·simp[hz,b6]
             have hfs:=FU (P:=P) (L:=[o]) hn (by simp) (fun x hx=>by rw[List.mem_singleton.1 hx]; omega) (fun x hx=>by rw[List.mem_singleton.1 hx]; exact b5)
             refine za (LU hfs (qn (rows:=[oC o]))) (by simp) (by simp) ?_
             by_cases b7:P.fits [o]
             ·have hE:P.offE o=0:=by rw[Bp hf b6,if_pos b7]
              simp[b7]
              refine zw (ZO P o k) (fun j=>∀ (q:Nat) u,q<j→P.of[q]?=some u→¬ nr u o) k (by simp[ZO]) (fun q u hq=>by omega) (fun j hj hJ=>?_) (fun hJ=>?_)
              ·have ej:(j:Int)<k:=by omega
               have hj2:j<P.of.length:=by omega
               have ej2:(j:Int)<P.of.length:=by omega
               have w2:=zm (k:=j) (by omega)
               obtain ⟨u,hu⟩:∃ u,P.of[j]=u:=⟨_,rfl⟩
               have hgj:P.of[j]?=some u:=by simp[hj2,hu]
               have hzu:decide (bI u.w=bI o.w)=decide (eqB u.w o.w):=by rw[decide_eq_decide,Mq]
               by_cases d1:u.b=o.b
               ·simp[tO,ZO,ej,ej2,hj2,hu,d1]
                rw[gG hkd hg hA lD lD]
                by_cases d2:eqB u.w o.w
                ·have hi:P.offI k o=7:=by
                  unfold Pb.offI
                  rw[if_neg (fun h=>h hE),if_pos ⟨u,List.mem_of_getElem? (i:=j) (by rw[List.getElem?_take,if_pos hj]; exact hgj),d1,d2⟩]
                 rw[gY hI hgk (by rw[hi]; decide) hk',hi]
                 simp[hzu,d2,yb]
                ·simp[hzu,d2,w2,ZO]
                 intro q x hq hx
                 by_cases eq:q=j
                 ·subst eq
                  rw[hgj] at hx
                  rw[← Option.some.inj hx]
                  exact fun h=>d2 h.2
                 ·exact hJ q x (by omega) hx
               ·simp[tO,ZO,ej,ej2,hj2,hu,d1,w2]
                intro q x hq hx
                by_cases eq:q=j
                ·subst eq
                 rw[hgj] at hx
                 rw[← Option.some.inj hx]
                 exact fun h=>d1 h.1
                ·exact hJ q x (by omega) hx
              ·have hi:P.offI k o=0:=by
                unfold Pb.offI
                rw[if_neg (fun h=>h hE),if_neg]
                rintro ⟨u,hu,hs'⟩
                obtain ⟨q,hq⟩:=List.mem_iff_getElem?.1 hu
                rw[List.getElem?_take] at hq
                split at hq
                ·rename_i hqk; exact hJ q u hqk hq hs'
                ·cases hq
               have hx:=P4 hI hgk hi
               have key:∀ K:Exit→St→Prop,K (.exit 6) {env:=[(1,.ptr 1 0),(5,iv k),(6,.ptr 6 0),(7,iv k),(145,bv false)],sto:=[(1,.var (pbC P)),(6,.var (oC o))]}→awp Tryz.prog tO (ZO P o k k) (t7 K):=by
                intro K h
                simp[tO,ZO]
                exact h
               refine key _ ?_
               simp[eo,w1,hx,jV]
             ·have hE:P.offE o=14:=by rw[Bp hf b6,if_neg b7]
              rw[fin (by rw[hE]; decide),hE]
              simp[b7,yb]
           ·rw[fin (by rw[Bq hb hv b5]; decide),Bq hb hv b5]
            simp[b5,yb]
      ·rw[hI]
       have key:∀ K:Exit→St→Prop,K (.exit 4) {env:=[(1,.ptr 1 0),(5,iv P.of.length),(99,bv false)],sto:=[(1,.var (pbC P))]}→awp Tryz.prog xW (jV P P.of.length) (t7 K):=by
        intro K h
        simp[xW,jV]
        exact h
       refine key _ ?_
       simp[ep,yb]
 ·have hF:P.frameE=4:=by unfold Pb.frameE; rw[if_pos c1]
  simp[c1,hF,yb]
theorem pR (_hn:P.cl.length≤1000) (_hk:P.of.length≤1000000):ze Tryz.prog vB [.agg (pbC P)] (iv P.chk):=KG
end
end Go.Proofs.YtpnliopaifpimaaGreat

namespace Go.Pb
open Go.LP
def Pb.cof (P:Pb) (r i:Nat):Rat:=((P.coef r (P.at (i:Int)):Int):Rat)
def Pb.vQ (P:Pb) (i:Nat):Rat:=(((P.at (i:Int)).v:Int):Rat)
def Pb.accV (P:Pb) (fx:List Int) (k:Nat):Int:=((P.inK fx k).map fun o=>o.v).sum
def Pb.exc (P:Pb) (y:Nat→Rat) (R i:Nat):Rat:=P.vQ i-zu R fun r=>y r*P.cof r i
def Pb.bdQ (P:Pb) (fx:List Int) (y:Nat→Rat) (R:Nat):Rat:=((P.accV fx fx.length:Int):Rat)+zu R fun r=>y r*((P.relB fx r:Int):Rat)
def Pb.adQ (P:Pb) (fx:List Int) (y:Nat→Rat) (R k:Nat):Rat:=zu k fun i=>if fx.getD i 9=0∧0<P.exc y R i then P.exc y R i else 0
def Pb.fpQ (P:Pb) (fx:List Int) (y:Nat→Rat):Rat:=P.bdQ fx y P.rows+P.adQ fx y P.rows fx.length
def Pb.lB (P:Pb) (fx:List Int) (r:Nat):Rat:=((P.relB fx r:Int):Rat)
def Pb.exP (P:Pb) (fx:List Int) (y:Nat→Rat) (r i:Nat):Rat:=if fx.getD i 9=0 then P.exc y r i else P.vQ i
def Pb.exM (P:Pb) (fx:List Int) (y:Nat→Rat) (r k i:Nat):Rat:=if i<k then P.exP fx y (r+1) i else P.exP fx y r i
def Pb.fixE (P:Pb) (fx:List Int):Int:=if P.chk≠0 then P.chk else if fx.length≠P.of.length then 3 else if okF fx then 0 else 4
section
variable {P:Pb} {fx:List Int} {v:Int} {k i r:Nat}
theorem Kl (g:Nat→Int):((((numK fx v k).map g).sum:Int):Rat)=zu k fun i=>if fx.getD i 9=v then ((g i:Int):Rat) else 0:=by
 induction k with
 | zero=>rfl
 | succ k ih =>
  rw[numK_succ]
  simp only[zu]
  rw[← ih]
  by_cases h:fx.getD k 9=v
  ·rw[if_pos h,if_pos h,List.map_append,List.sum_append,Rat.intCast_add]; simp
  ·rw[if_neg h,if_neg h]; grind
theorem adF:((P.accV fx k:Int):Rat)=zu k fun i=>if fx.getD i 9=1 then P.vQ i else 0:=by
 unfold Pb.accV Pb.inK
 rw[List.map_map]
 exact Kl _
theorem acf:P.lB fx r=((P.bnd r:Int):Rat)-zu fx.length fun i=>if fx.getD i 9=1 then P.cof r i else 0:=by
 unfold Pb.lB Pb.relB Pb.inL Pb.inK
 rw[Rat.intCast_sub,List.map_map]
 congr 1
 exact Kl _
theorem numK_nodup:(numK fx v k).Nodup:=List.Nodup.sublist List.filter_sublist List.nodup_range
theorem aeR (hG:P.Good) (hi:i<P.of.length):∃ b,b<P.cl.length∧b<P.rows∧P.bnd b=1∧P.cof b i=1:=by
 have hs:=vJ (wS (hG.off _ (at_mem hi))).1
 refine ⟨(P.at (i:Int)).b.toNat,by omega,by unfold Pb.rows; omega,?_,?_⟩
 ·unfold Pb.bnd; rw[if_pos (by omega)]
 ·unfold Pb.cof Pb.coef; rw[if_pos (by omega),if_pos (by omega)]; rfl
theorem agu (hG:P.Good) (hi:i<P.of.length) (hr:r<P.rows):0≤P.cof r i∧P.cof r i≤4:=by
 have:=nf (vJ (wS (hG.off _ (at_mem hi))).1).2.2 hr
 unfold Pb.cof
 constructor
 ·exact_mod_cast this.1
 ·exact_mod_cast this.2
end
structure Pb.Sol (P:Pb) (fx:List Int) (x:Nat→Rat):Prop where
 x0:∀ i,i<fx.length→0≤x i
 one:∀ i,i<fx.length→fx.getD i 9=1→x i=1
 out:∀ i,i<fx.length→fx.getD i 9≠1→fx.getD i 9≠0→x i=0
 row:∀ r,r<P.rows→zu fx.length (fun i=>P.cof r i*x i)≤((P.bnd r:Int):Rat)
def Pb.val (P:Pb) (n:Nat) (x:Nat→Rat):Rat:=zu n fun i=>P.vQ i*x i
section
variable {P:Pb} {fx:List Int} {x y:Nat→Rat}
theorem Pb.Sol.le_one (hG:P.Good) (hl:fx.length=P.of.length) (h:P.Sol fx x) {i:Nat} (hi:i<fx.length):x i≤1:=by
 obtain ⟨b,hb,hr,e1,e2⟩:=aeR (i:=i) hG (by omega)
 have h1:=h.row b hr
 rw[e1,yF hi,e2] at h1
 have h2:0≤zu fx.length (fun j=>if j=i then 0 else P.cof b j*x j):=jW fun j hj=>by
  split
  ·exact Rat.le_refl
  ·exact Rat.mul_nonneg (agu hG (by omega) hr).1 (h.x0 j hj)
 have h3:(((1:Int):Int):Rat)=1:=rfl
 grind
theorem alb (hG:P.Good) (hl:fx.length=P.of.length) (h:P.Sol fx x) (hy:∀ r,r<P.rows→0≤y r):P.val fx.length x≤P.fpQ fx y:=by
 have t1:P.val fx.length x=zu fx.length (fun i=>P.exc y P.rows i*x i)+zu P.rows (fun r=>y r*zu fx.length fun i=>P.cof r i*x i):=by
  have:zu P.rows (fun r=>y r*zu fx.length fun i=>P.cof r i*x i)=zu fx.length fun i=>(zu P.rows fun r=>y r*P.cof r i)*x i:=by
   rw[ya (g:=fun r=>zu fx.length fun i=>y r*(P.cof r i*x i)) fun r _=>dt.symm,XB]
   refine ya fun i _=>?_
   rw[← XC]
   exact ya fun r _=>by grind
  rw[this,← Sm]
  exact ya fun i _=>by unfold Pb.exc; grind
 have t2:zu fx.length (fun i=>P.exc y P.rows i*x i)≤zu fx.length (fun i=>if fx.getD i 9=1 then P.exc y P.rows i else 0)+P.adQ fx y P.rows fx.length:=by
  unfold Pb.adQ
  rw[← Sm]
  refine af fun i hi=>?_
  by_cases h1:fx.getD i 9=1
  ·rw[if_pos h1,if_neg (by omega),h.one i hi h1]; grind
  ·rw[if_neg h1]
   by_cases h0:fx.getD i 9=0
   ·have a:=h.x0 i hi
    have b:=h.le_one hG hl hi
    by_cases hp:0<P.exc y P.rows i
    ·rw[if_pos ⟨h0,hp⟩]
     have:=Rat.mul_nonneg (show 0≤P.exc y P.rows i by grind) (show 0≤1-x i by grind)
     grind
    ·rw[if_neg fun h=>hp h.2]
     have:=Rat.mul_nonneg (show 0≤- P.exc y P.rows i by grind) a
     grind
   ·rw[if_neg fun h=>h0 h.1,h.out i hi h1 h0]; grind
 have t3:zu fx.length (fun i=>if fx.getD i 9=1 then P.exc y P.rows i else 0)=((P.accV fx fx.length:Int):Rat)-zu P.rows (fun r=>y r*zu fx.length fun i=>if fx.getD i 9=1 then P.cof r i else 0):=by
  have:zu P.rows (fun r=>y r*zu fx.length fun i=>if fx.getD i 9=1 then P.cof r i else 0)=zu fx.length fun i=>if fx.getD i 9=1 then (zu P.rows fun r=>y r*P.cof r i) else 0:=by
   rw[ya (g:=fun r=>zu fx.length fun i=>y r*(if fx.getD i 9=1 then P.cof r i else 0)) fun r _=>dt.symm,XB]
   refine ya fun i _=>?_
   by_cases h1:fx.getD i 9=1
   ·rw[if_pos h1]; exact ya fun r _=>by rw[if_pos h1]
   ·rw[if_neg h1]; exact y6 fun r _=>by rw[if_neg h1]; grind
  rw[this,adF,← du]
  refine ya fun i _=>?_
  unfold Pb.exc
  split<;>grind
 have t4:zu P.rows (fun r=>y r*zu fx.length fun i=>P.cof r i*x i)-zu P.rows (fun r=>y r*zu fx.length fun i=>if fx.getD i 9=1 then P.cof r i else 0)≤zu P.rows (fun r=>y r*((P.relB fx r:Int):Rat)):=by
  rw[← du]
  refine af fun r hr=>?_
  have h1:((P.relB fx r:Int):Rat)=((P.bnd r:Int):Rat)-zu fx.length fun i=>if fx.getD i 9=1 then P.cof r i else 0:=acf
  have h2:=h.row r hr
  rw[h1]
  clear t1 t2 t3 h1
  generalize zu fx.length (fun i=>P.cof r i*x i)=a at *
  generalize zu fx.length (fun i=>if fx.getD i 9=1 then P.cof r i else 0)=b at *
  have:=Rat.mul_nonneg (hy r hr) (show 0≤((P.bnd r:Int):Rat)-a by grind)
  grind
 unfold Pb.fpQ Pb.bdQ
 grind
variable {X Y:Nat→Rat} {v:Rat}
def gH (T:List Nat) (i:Nat):Rat:=if i∈T then 1 else 0
theorem QN {n:Nat} {g:Nat→Int}:∀ {T:List Nat},T.Nodup→(∀ j∈T,j<n)→zu n (fun i=>((g i:Int):Rat)*gH T i)=(((T.map g).sum:Int):Rat)
 | [],_,_=>by rw[y6 fun i _=>by simp[gH]]; rfl
 | a::T,h,hn=>by
  obtain ⟨h1,h2⟩:=List.nodup_cons.1 h
  have ih:=QN (n:=n) (g:=g) h2 fun j hj=>hn j (by simp[hj])
  have ha:=hn a (by simp)
  rw[yF ha] at ih ⊢
  simp only[List.map_cons,List.sum_cons,Rat.intCast_add]
  rw[← ih]
  have e1:gH (a::T) a=1:=by simp[gH]
  have e2:gH T a=0:=by simp[gH,h1]
  rw[e1,e2,ya (f:=fun j=>if j=a then 0 else ((g j:Int):Rat)*gH (a::T) j) (g:=fun j=>if j=a then 0 else ((g j:Int):Rat)*gH T j) fun j _=>by
   by_cases e:j=a
   ·rw[if_pos e,if_pos e]
   ·rw[if_neg e,if_neg e]; simp[gH,e]]
  grind
structure Pb.Comp (P:Pb) (fx:List Int) (k:Nat) (T:List Nat):Prop where
 inc:T.Pairwise (·<·)
 lt:∀ j∈T,j<k
 one:∀ i,i<k→fx.getD i 9=1→i∈T
 out:∀ i∈T,fx.getD i 9≠-1
 fit:P.fits (T.map fun i:Nat=>P.at i)
theorem akd {T:List Nat} (hok:∀ i,i<fx.length→okX fx i) (h:P.Comp fx fx.length T):P.Sol fx (gH T) where
 x0:=fun i _=>by unfold gH; split<;>grind
 one:=fun i hi h1=>if_pos (h.one i hi h1)
 out:=fun i hi h1 h0=>by
  have:=hok i hi
  unfold okX at this
  exact if_neg fun hm=>h.out i hm (by omega)
 row:=fun r hr=>by
  have h1:=h.fit r hr
  rw[List.map_map] at h1
  have:=QN (g:=fun i=>P.coef r (P.at (i:Int))) (h.inc.imp fun h=>Nat.ne_of_lt h) h.lt
  unfold Pb.cof
  rw[this]
  exact_mod_cast h1
theorem ake {T:List Nat} (h:P.Comp fx fx.length T):P.val fx.length (gH T)=((((T.map fun i:Nat=>P.at i).map fun o=>o.v).sum:Int):Rat):=by
 unfold Pb.val
 rw[List.map_map]
 exact QN (g:=fun i=>(P.at (i:Int)).v) (h.inc.imp fun h=>Nat.ne_of_lt h) h.lt
end
end Go.Pb

namespace Go.Proofs.YtpnliopaifpimaaGreat
open Go Go.Am Go.Pb
noncomputable def Pp (fx:List Int) (k:Nat):St:={env:=[(19,clA fx),(20,iv fx.length),(21,iv k)],sto:=[]}
section
variable {P:Pb} {fx:List Int} {k:Nat}
theorem fI {x:Int} (hg:fx.getD k 9=x):okX fx k↔¬ x < -1∧¬ 1<x:=by unfold okX; rw[hg]; omega
theorem nR (h:k<fx.length):fx.getD k 9=fx[k]:=by rw[List.getD_eq_getElem?_getD,List.getElem?_eq_getElem h]; rfl
theorem YQ (h:P.fixE fx=0):P.chk=0∧fx.length=P.of.length∧okF fx:=by
 unfold Pb.fixE at h
 split at h
 ·rename_i h1; exact absurd h h1
 ·rename_i h1
  split at h
  ·cases h
  ·rename_i h2
   split at h
   ·rename_i h3; exact ⟨Decidable.not_not.1 h1,Decidable.not_not.1 h2,h3⟩
   ·cases h
theorem aot (h1:P.chk=0) (h2:fx.length=P.of.length) (h3:okF fx):P.fixE fx=0:=by
 unfold Pb.fixE; rw[if_neg fun h=>h h1,if_neg fun h=>h h2,if_pos h3]
theorem CC (hn:P.cl.length≤1000) (hk:P.of.length≤1000000):ze Tryz.prog lM [.agg (pbC P),clA fx] (iv (P.fixE fx)):=by
 refine zn Qc (by simp) ?_
 simp[dL]
 refine za (Qy hn hk) (by simp) (by simp) ?_
 unfold Pb.fixE
 by_cases c1:P.chk=0
 ·rw[if_neg fun h=>h c1]
  by_cases c2:fx.length=P.of.length
  ·have c2':(fx.length:Int)=P.of.length:=by omega
   rw[if_neg fun h=>h c2]
   simp[c1,c2']
   refine zw (Pp fx) (fun k=>∀ q,q<k→okX fx q) fx.length (by simp[Pp,c2']) (fun q hq=>by omega) (fun k hk' hI=>?_) (fun hI=>?_)
   ·have e:(k:Int)<P.of.length:=by omega
    have w1:=zm (k:=k) (by omega)
    have hg:=nR hk'
    by_cases d1:fx[k] < -1
    ·have hf:¬ okF fx:=fun h=>((fI hg).1 (h k hk')).1 d1
     simp[uo,Pp,c2',e,hk',d1,hf,uV]
    ·by_cases d2:1<fx[k]
     ·have hf:¬ okF fx:=fun h=>((fI hg).1 (h k hk')).2 d2
      simp[uo,Pp,c2',e,hk',d1,d2,hf,uV]
     ·simp[uo,Pp,c2',e,hk',d1,d2,w1]
      exact fun q hq=>by
       by_cases eq:q=k
       ·subst eq; exact (fI hg).2 ⟨d1,d2⟩
       ·exact hI q (by omega)
   ·have hf:okF fx:=hI
    simp[uo,Pp,c2',hf,j1,uV]
  ·have c2':¬ (fx.length:Int)=P.of.length:=by omega
   rw[if_pos c2]
   simp[c1,c2',uV]
 ·rw[if_pos c1]
  simp[c1,uV]
theorem Yp:P.accV fx (k+1)=if fx.getD k 9=1 then P.accV fx k+(P.at (k:Int)).v else P.accV fx k:=by
 unfold Pb.accV Pb.inK
 rw[numK_succ]
 split
 ·simp
 ·rfl
theorem bH (hG:P.Good):∀ k,k≤P.of.length→0≤P.accV fx k∧P.accV fx k≤1000000*k
 | 0,_=>⟨Int.le_refl 0,Int.le_refl 0⟩
 | k+1,h=>by
  have ih:=bH hG k (by omega)
  have hv:=(vJ (wS (hG.off _ (at_mem (i:=k) (by omega)))).1).2.1
  rw[Yp]
  split<;>omega
noncomputable def KZ (P:Pb) (fx:List Int) (k:Nat):St:={env:=[(2,.ptr 2 0),(4,.ptr 4 0),(5,iv (P.accV fx k)),(8,clA fx),(9,iv fx.length),(10,iv k)],sto:=[(2,.var (pbC P)),(4,.var zz)]}
theorem F5 (hG:P.Good) (hl:fx.length=P.of.length):ze Tryz.prog mi [.agg (pbC P),clA fx] (fq ((P.accV fx fx.length:Int):Rat)):=by
 have hb:=hG.k
 refine zn Sn (by simp) ?_
 simp[fX]
 refine zw (KZ P fx) (fun _=>True) fx.length (by simp[KZ]; rfl) trivial (fun k hk' _=>?_) (fun _=>?_)
 ·have e:(k:Int)<fx.length:=by omega
  have hko:k<P.of.length:=by omega
  have hko':(k:Int)<P.of.length:=by omega
  have w1:=zm (k:=k) (by omega)
  have hg:=nR hk'
  have hs:=Yp (P:=P) (fx:=fx) (k:=k)
  have hv:=bH (fx:=fx) hG (k+1) (by omega)
  rw[hg] at hs
  by_cases d:fx[k]=1
  ·rw[if_pos d,px hko] at hs
   have w2:IntKind.i64.wrap (P.accV fx k+P.of[k].v)=P.accV fx (k+1):=by rw[hs,wrap64]<;>omega
   simp[t5,KZ,e,hk',hko,hko',d,w1,w2]
  ·rw[if_neg d] at hs
   simp[t5,KZ,e,hk',d,w1,hs]
 ·have hv:=bH (fx:=fx) hG fx.length (by omega)
  simp[t5,KZ,k8]
  refine za (lw (n:=P.accV fx fx.length) (by omega) (by omega)) (by simp) (by simp) ?_
  simp[da]
end
def xD (P:Pb):Nat:=if P.chk=0 then P.rows else 0
def r6 (P:Pb) (r:Nat):List Int:=P.of.map (P.coef r)
section
variable {P:Pb} {r n:Nat} {o:Of} {L:List Of}
theorem Pd (hn:P.cl.length≤1000) (hk:P.of.length≤1000000):ze Tryz.prog rq [.agg (pbC P)] (iv (xD P)):=by
 refine zn PM (by simp) ?_
 simp[bM]
 refine za (Qy hn hk) (by simp) (by simp) ?_
 unfold xD
 by_cases c1:P.chk=0
 ·simp[c1]
  refine za (B0 hn) (by simp) (by simp) ?_
  simp[jA]
 ·simp[c1,jA]
theorem Pe (hn:P.cl.length≤1000) (hk:P.of.length≤1000000):ze Tryz.prog pr [.agg (pbC P)] (iv (xD P)):=by
 refine zn Jn (by simp) ?_
 simp[YE]
 refine za (pR hn hk) (by simp) (by simp) ?_
 unfold xD
 by_cases c1:P.chk=0
 ·have w1:IntKind.i64.wrap ((P.cl.length:Int)+12)=(P.cl.length:Int)+12:=by rw[wrap64]<;>omega
  have e:((P.rows:Nat):Int)=(P.cl.length:Int)+12:=by unfold Pb.rows; omega
  simp[c1,w1,e,dd]
 ·simp[c1,dd]
noncomputable def Jb (P:Pb) (r:Int) (q k:Nat):St:={env:=[(1,iv r),(4,apc 32 1 (clR ((r6 P q).take k))),(6,.ptr 6 0),(20,ofA P.of),(21,iv P.of.length),(22,iv k)],sto:=[(6,.var (pbC P))]}
@[simp] theorem dj:(r6 P r).length=P.of.length:=by simp[r6]
theorem NG {k:Nat} (h:k<P.of.length):clR ((r6 P r).take k)++[[iv (P.coef r P.of[k])]]=clR ((r6 P r).take (k+1)):=by
 rw[fo (l:=r6 P r) (o:=P.coef r P.of[k]) (by simp[r6,h])]
 simp[clR]
theorem KO {k:Nat} (h:P.of.length≤k):(r6 P r).take k=r6 P r:=List.take_of_length_le (by rw[dj]; exact h)
def Pc (P:Pb) (r:Int):AV:=.tuple [if 0≤r∧r<xD P then clA (r6 P r.toNat) else uw,iv (if 0≤r∧r<xD P then P.bnd r.toNat else 0)]
theorem ajl {r:Int} (hn:P.cl.length≤1000) (hk:P.of.length≤1000000):ze Tryz.prog gq [.agg (pbC P),iv r] (Pc P r):=by
 refine wW Mc (by simp) ?_
 unfold Pc
 by_cases b1:r<0
 ·have hc:¬ (0≤r∧r<xD P):=by omega
  simp[gC,b1,hc,ma]
  exact AV.imp.refl
 ·simp[gC,b1]
  refine za (Pd hn hk) (by simp) (by simp) ?_
  by_cases b2:(xD P:Int)≤r
  ·have hc:¬ (0≤r∧r<xD P):=by omega
   simp[b2,hc,ma]
   exact AV.imp.refl
  ·have hc:0≤r∧r<xD P:=by omega
   obtain ⟨q,rfl⟩:∃ q:Nat,r=q:=⟨r.toNat,by omega⟩
   have hG:P.Good:=by
    refine vR ?_
    unfold xD at hc
    split at hc
    ·assumption
    ·omega
   have hq:q<P.rows:=by
    unfold xD at hc
    split at hc<;>omega
   simp[b2,hc]
   refine zw (Jb P q q) (fun _=>True) P.of.length (by simp[Jb]) trivial (fun k hk' _=>?_) (fun _=>?_)
   ·have e:(k:Int)<P.of.length:=by omega
    have w1:=zm (k:=k) (by omega)
    have hm:P.of[k]∈P.of:=List.getElem_mem hk'
    have hs:=vJ (wS (hG.off _ hm)).1
    simp[mu,Jb,e,hk']
    refine za (Ca (P:=P) (r:=q) hn hs.1 hq) (by simp) (by simp) ?_
    simp
    refine p9 (by decide) rfl ?_ ?_ (by simp) ?_
    ·simp only[lm,dj,List.length_take]; omega
    ·simp only[lm,dj,List.length_take]; omega
    ·rw[NG hk']
     simp[w1,Jb]
   ·simp[mu,Jb,am2,KO]
    refine za (GC (P:=P) (r:=q) hn hq) (by simp) (by simp) ?_
    simp[ma]
    exact AV.imp_tuple2 (fJ lA)
end
open Go.Dig Go.LP
section
variable {D:Nat}
theorem Rk {x:RF} {D:Nat} (h:ok x.a∧ok x.c) (hs:KY x D) (hD:D≤1000):x.fine:=⟨h.1,h.2,by have:=hs.1; omega,by have:=hs.2; omega⟩
end
theorem sQ {K:Nat} {n:Int} (h:n.natAbs≤2^K):sz K (n:Rat):=⟨by simpa using h,by simpa using Nat.one_le_two_pow⟩
def RF.q (x:RF):Rat:=mkRat (sg x.s (val x.a)) (val x.c)
theorem akG (q:Rat):(RF.of q).q=q:=by
 unfold RF.q RF.of
 simp only[zJ]
 rw[dk,Rat.mkRat_self]
theorem EL {x:RF} (h:x.v=true):x=RF.of x.q:=by
 obtain ⟨q,h1,h2,h3⟩:=aga h
 have:x=RF.of q:=by cases x; simp only at h1 h2 h3; subst h1 h2 h3; rfl
 rw[this,akG]
def prE (Y:Nat→RF):Nat→Int
 | 0=>0
 | k+1=>if prE Y k≠0 then prE Y k else if (Y k).v=false then 2 else if (Y k).s=true then 4 else 0
def fpE (P:Pb) (fx:List Int) (Y:Nat→RF) (m:Nat):Int:=if P.fixE fx≠0 then P.fixE fx else if m≠P.rows then 3 else prE Y m
def cb (Y:Nat→RF) (m:Nat):Prop:=∀ r,r<m→(Y r).v=true∧(Y r).s=false
theorem anv {Y:Nat→RF} {k:Nat} (h:prE Y k≠0):∀ m,k≤m→prE Y m=prE Y k
 | 0,hm=>by rw[Nat.le_zero.1 hm]
 | m+1,hm=>by
  by_cases e:k=m+1
  ·rw[e]
  ·have ih:=anv h m (by omega)
   simp only[prE]
   rw[ih,if_pos h]
theorem eZ {Y:Nat→RF}:∀ {m:Nat},cb Y m→prE Y m=0
 | 0,_=>rfl
 | m+1,h=>by
  have ih:=eZ (m:=m) fun r hr=>h r (by omega)
  obtain ⟨h1,h2⟩:=h m (by omega)
  simp only[prE]
  rw[if_neg fun e=>e ih,if_neg (by rw[h1]; decide),if_neg (by rw[h2]; decide)]
theorem aa7 {Y:Nat→RF}:∀ {m:Nat},prE Y m=0→cb Y m
 | 0,_=>fun r hr=>by omega
 | m+1,h=>by
  simp only[prE] at h
  split at h
  ·rename_i h0; exact absurd h h0
  ·rename_i h0
   split at h
   ·cases h
   ·rename_i h1
    split at h
    ·cases h
    ·rename_i h2
     have ih:=aa7 (Decidable.not_not.1 h0)
     intro r hr
     by_cases e:r=m
     ·subst e; exact ⟨by simpa using h1,by simpa using h2⟩
     ·exact ih r (by omega)
theorem ady {Y:Nat→RF} {k m:Nat} (h:cb Y k) (hv:(Y k).v=false) (hk:k<m):prE Y m=2:=by
 have h1:prE Y (k+1)=2:=by simp only[prE]; rw[if_neg fun e=>e (eZ h),if_pos hv]
 rw[anv (by rw[h1]; decide) m hk,h1]
theorem adx {Y:Nat→RF} {k m:Nat} (h:cb Y k) (hv:(Y k).v=true) (hs:(Y k).s=true) (hk:k<m):prE Y m=4:=by
 have h1:prE Y (k+1)=4:=by simp only[prE]; rw[if_neg fun e=>e (eZ h),if_neg (by rw[hv]; decide),if_pos hs]
 rw[anv (by rw[h1]; decide) m hk,h1]
theorem Rl {Y:Nat→RF} {k:Nat} (h:cb Y k) (hv:(Y k).v=true) (hs:(Y k).s=false):cb Y (k+1):=fun r hr=>by
 by_cases e:r=k
 ·subst e; exact ⟨hv,hs⟩
 ·exact h r (by omega)
theorem ajm {x:RF} (h:x.v=true):x.s=decide (x.q<0):=by
 have e:=EL h
 have:x.s=decide (x.q.num<0):=congrArg RF.s e
 rw[this,decide_eq_decide]
 exact nS
section
variable {P:Pb} {fx:List Int} {y:Nat→Rat} {S k r i:Nat}
theorem adD (hG:P.Good) (hi:i<P.of.length):sz 20 (P.vQ i):=by
 have hv:=(vJ (wS (hG.off _ (at_mem hi))).1).2.1
 exact sQ (by omega)
theorem agv (hG:P.Good) (hi:i<P.of.length) (hr:r<P.rows):sz 2 (P.cof r i):=by
 have hv:=nf (vJ (wS (hG.off _ (at_mem hi))).1).2.2 hr
 exact sQ (by omega)
theorem Rh (hG:P.Good) (hi:i<P.of.length) (hy:∀ r,r<P.rows→sz S (y r)):∀ R,R≤P.rows→sz (20+R*(S+3)) (P.exc y R i)
 | 0,_=>by
  unfold Pb.exc
  have:zu 0 (fun r=>y r*P.cof r i)=0:=rfl
  rw[this,Rat.sub_eq_add_neg,show P.vQ i+-0=P.vQ i by grind]
  exact zS (adD hG hi) (by omega)
 | R+1,h=>by
  have ih:=Rh hG hi hy R (by omega)
  have:P.exc y (R+1) i=P.exc y R i-y R*P.cof R i:=by unfold Pb.exc; simp only[zu]; grind
  rw[this]
  exact zS (Qb ih (vK (hy R (by omega)) (agv hG hi (by omega)))) (by rw[Nat.add_mul]; omega)
theorem eF (hG:P.Good) (hr:r<P.rows):∀ k,k≤P.of.length→0≤((P.inK fx k).map (P.coef r)).sum∧((P.inK fx k).map (P.coef r)).sum≤4*k:=fun k hk=>by
 have h:=AI (a:=0) (b:=4) (f:=P.coef r) (l:=P.inK fx k) fun o ho=>nf (vJ (wS (hG.off _ (aev hk o ho))).1).2.2 hr
 have:=aeu (P:=P) (fx:=fx) (k:=k)
 omega
theorem Yt (hG:P.Good) (hr:r<P.rows):0≤P.bnd r∧P.bnd r≤4:=by
 unfold Pb.rows at hr
 unfold Pb.bnd
 split
 ·omega
 ·split
  ·exact hG.sup _ (by omega)
  ·have h1:=hG.set (r-P.cl.length-6) (by omega)
   have h2:=hG.sup (r-P.cl.length-6) (by omega)
   unfold Pb.okC at h1
   omega
theorem Q8 (hG:P.Good) (hl:fx.length=P.of.length) (hr:r<P.rows):sz 10 ((P.relB fx r:Int):Rat):=by
 have h1:=eF (fx:=fx) hG hr fx.length (by omega)
 have h2:=Yt hG hr
 have h3:=hG.k
 refine sQ ?_
 unfold Pb.relB Pb.inL
 omega
theorem agd (hG:P.Good) (hl:fx.length=P.of.length):sz 28 ((P.accV fx fx.length:Int):Rat):=by
 have h1:=bH (fx:=fx) hG fx.length (by omega)
 have h3:=hG.k
 exact sQ (by omega)
theorem Mr (hG:P.Good) (hl:fx.length=P.of.length) (hy:∀ r,r<P.rows→sz S (y r)):∀ R,R≤P.rows→sz (28+R*(S+11)) (P.bdQ fx y R)
 | 0,_=>by
  unfold Pb.bdQ
  have:zu 0 (fun r=>y r*((P.relB fx r:Int):Rat))=0:=rfl
  rw[this,show ((P.accV fx fx.length:Int):Rat)+0=((P.accV fx fx.length:Int):Rat) by grind]
  exact zS (agd hG hl) (by omega)
 | R+1,h=>by
  have ih:=Mr hG hl hy R (by omega)
  have:P.bdQ fx y (R+1)=P.bdQ fx y R+y R*((P.relB fx R:Int):Rat):=by unfold Pb.bdQ; simp only[zu]; grind
  rw[this]
  exact zS (kU ih (vK (hy R (by omega)) (Q8 hG hl (by omega)))) (by rw[Nat.add_mul]; omega)
theorem Mn (hG:P.Good) (hl:fx.length=P.of.length) (hy:∀ r,r<P.rows→sz S (y r)):∀ k,k≤fx.length→sz (k*(21+P.rows*(S+3))) (P.adQ fx y P.rows k)
 | 0,_=>PK
 | k+1,h=>by
  have ih:=Mn hG hl hy k (by omega)
  have he:=Rh (i:=k) hG (by omega) hy P.rows (Nat.le_refl _)
  unfold Pb.adQ at ih ⊢
  simp only[zu]
  have e:(k+1)*(21+P.rows*(S+3))=k*(21+P.rows*(S+3))+(20+P.rows*(S+3))+1:=by rw[Nat.add_mul]; omega
  rw[e]
  split
  ·exact kU ih he
  ·exact kU ih (zS PK (Nat.zero_le _))
end
abbrev zfr:AV:=.agg zz
noncomputable def ZL (P:Pb) (fx:List Int) (Y:Nat→RF) (m k:Nat):St :=
 {env:=[(1,clA fx),(2,hL Y m),(3,.ptr 3 0),(6,.ptr 6 0),(35,hL Y m),(36,iv m),(37,iv k)],sto:=[(3,.var (pbC P)),(6,.var zz)]}
noncomputable def R4 (P:Pb) (fx:List Int) (y:Nat→Rat) (m k:Nat):St :=
 {env:=[(1,clA fx),(2,fL y m),(3,.ptr 3 0),(6,.ptr 6 0),(11,.ptr 11 0),(12,.sl 55 3 0 fx.length),(57,iv fx.length),(58,iv k)],
  sto:=[(3,.var (pbC P)),(6,.var zz),(11,.var (fr ((P.accV fx fx.length:Int):Rat))),(55,.arr 3 (fZ P.vQ k fx.length))]}
noncomputable def ZM (P:Pb) (fx:List Int) (y:Nat→Rat) (m k:Nat):St :=
 {env:=[(1,clA fx),(3,.ptr 3 0),(6,.ptr 6 0),(11,.ptr 11 0),(12,.sl 55 3 0 fx.length),(72,fL y m),(73,iv m),(74,iv k)],
  sto:=[(3,.var (pbC P)),(6,.var zz),(11,.var (fr (P.bdQ fx y k))),(55,.arr 3 (fR (P.exP fx y k) fx.length))]}
noncomputable def cB (P:Pb) (fx:List Int) (y:Nat→Rat) (m r k:Nat):St :=
 {env:=[(1,clA fx),(3,.ptr 3 0),(6,.ptr 6 0),(11,.ptr 11 0),(12,.sl 55 3 0 fx.length),(72,fL y m),(73,iv m),(74,iv r),(15,.ptr 15 0),(17,iv (P.bnd r-((P.inK fx k).map (P.coef r)).sum)),(88,clA (r6 P r)),(89,iv fx.length),(90,iv k)],
  sto:=[(3,.var (pbC P)),(6,.var zz),(11,.var (fr (P.bdQ fx y r))),(55,.arr 3 (fR (P.exM fx y r k) fx.length)),(15,.var (fr (y r)))]}
noncomputable def cC (P:Pb) (fx:List Int) (y:Nat→Rat) (k:Nat):St :=
 {env:=[(6,.ptr 6 0),(11,.ptr 11 0),(12,.sl 55 3 0 fx.length),(133,clA fx),(134,iv fx.length),(135,iv k)],
  sto:=[(6,.var zz),(11,.var (fr (P.bdQ fx y P.rows+P.adQ fx y P.rows k))),(55,.arr 3 (fR (P.exP fx y P.rows) fx.length))]}
section
variable {P:Pb} {fx:List Int} {Y:Nat→RF} {m S:Nat}
theorem LW {r k:Nat}:((P.inK fx (k+1)).map (P.coef r)).sum=if fx.getD k 9=1 then ((P.inK fx k).map (P.coef r)).sum+P.coef r (P.at (k:Int)) else ((P.inK fx k).map (P.coef r)).sum:=by
 unfold Pb.inK
 rw[numK_succ]
 split
 ·simp
 ·rfl
theorem LI (hn:P.cl.length≤1000) (hk:P.of.length≤1000000) (hS:S≤10000) (hm:m<1000000) (hf:∀ r,r<m→(Y r).fine) (hy:∀ r,r<m→sz S (Y r).q) :
  ze Tryz.prog pm [.agg (pbC P),clA fx,hL Y m] (.tuple [if fpE P fx Y m=0 then fq (P.fpQ fx fun r=>(Y r).q) else zfr,iv (fpE P fx Y m)]):=by
 refine zn XF (by simp) ?_
 simp[j0]
 refine za (CC (fx:=fx) hn hk) (by simp) (by simp) ?_
 by_cases c1:P.fixE fx=0
 rotate_left
 ·have he:fpE P fx Y m=P.fixE fx:=if_pos c1
  rw[he,if_neg c1]
  simp[c1,wT]
 obtain ⟨hc,hl,hok⟩:=YQ c1
 have hG:=vR hc
 have hrows:=Pd hn hk
 rw[show xD P=P.rows by unfold xD; rw[if_pos hc]] at hrows
 simp[c1]
 refine za hrows (by simp) (by simp) ?_
 by_cases c2:m=P.rows
 rotate_left
 ·have c2':¬ (m:Int)=P.rows:=by omega
  have he:fpE P fx Y m=3:=by unfold fpE; rw[if_neg fun h=>h c1,if_pos c2]
  rw[he]
  simp[c2',wT]
 have he:fpE P fx Y m=prE Y m:=by unfold fpE; rw[if_neg fun h=>h c1,if_neg fun h=>h c2]
 rw[he]
 have c2':(m:Int)=P.rows:=by omega
 simp[c2']
 refine zw (ZL P fx Y m) (cb Y) m (by simp[ZL,c2']) (fun q hq=>by omega) (fun k hk' hI=>?_) (fun hI=>?_)
 ·have e:(k:Int)<P.rows:=by omega
  have w1:=zm (k:=k) (by omega)
  have kv:=aep (hf k hk')
  cases hv:(Y k).v with
  | false =>
   rw[hv] at kv
   rw[ady hI hv hk']
   simp[wL,ZL,c2',e,hk']
   refine za kv (by simp) (by simp) ?_
   simp[wT]
  | true =>
   rw[hv] at kv
   have hq:=EL hv
   have hrq:hr (Y k)=fr (Y k).q:=by rw[← Mu,← hq]
   have ks:=Xn (q:=(Y k).q)
   have hsn:=ajm hv
   cases hs:(Y k).s with
   | true =>
    rw[adx hI hv hs hk']
    rw[hs] at hsn
    have hlt:(Y k).q<0:=of_decide_eq_true hsn.symm
    have h1:=KU.2 hlt
    simp[wL,ZL,c2',e,hk']
    refine za kv (by simp) (by simp) ?_
    simp[hrq]
    refine za ks (by simp) (by simp) ?_
    simp[h1,wT]
   | false =>
    rw[hs] at hsn
    have hlt:¬ (Y k).q<0:=of_decide_eq_false hsn.symm
    have h1:¬ qw (Y k).q<0:=fun h=>hlt (KU.1 h)
    simp[wL,ZL,c2',e,hk']
    refine za kv (by simp) (by simp) ?_
    simp[hrq]
    refine za ks (by simp) (by simp) ?_
    simp[h1,w1,ZL,c2']
    exact Rl hI hv hs
 rw[eZ hI,if_pos rfl]
 obtain ⟨y,hyd⟩:∃ y:Nat→Rat,(fun r=>(Y r).q)=y:=⟨_,rfl⟩
 have hyr:∀ r,(Y r).q=y r:=fun r=>by rw[← hyd]
 rw[hyd]
 have hYL:hR Y m=fR y m:=adp fun r hr=>by rw[← hyr,← EL (hI r hr).1]
 have hy':∀ r,r<P.rows→sz S (y r):=fun r hr=>by rw[← hyr]; exact hy r (by omega)
 subst c2
 clear hI hyd hyr hy hf c2'
 have hrw:P.rows≤20:=by have:=hG.n; unfold Pb.rows; omega
 have hkk:=hG.k
 have Rm:∀ R,R≤P.rows→R*(S+11)≤20*10011:=fun R hR=>Nat.mul_le_mul (by omega) (by omega)
 have Rm3:∀ R,R≤P.rows→R*(S+3)≤20*10003:=fun R hR=>Nat.mul_le_mul (by omega) (by omega)
 have szE:∀ R i,R≤P.rows→i<P.of.length→sz 300000 (P.exP fx y R i):=fun R i hR hi=>by
  unfold Pb.exP
  split
  ·exact zS (Rh hG hi hy' R hR) (by have:=Rm3 R hR; omega)
  ·exact zS (adD hG hi) (by omega)
 have szB:∀ R,R≤P.rows→sz 300000 (P.bdQ fx y R):=fun R hR=>zS (Mr hG hl hy' R hR) (by have:=Rm R hR; omega)
 have szA:∀ k,k≤fx.length→sz 60000000 (P.adQ fx y P.rows k):=fun k hk=>zS (Mn hG hl hy' k hk) (by
  have h1:=Rm3 P.rows (Nat.le_refl _)
  have h2:k*(21+P.rows*(S+3))≤160*(21+20*10003):=Nat.mul_le_mul (by omega) (by omega)
  omega)
 simp[wL,ZL,nN]
 refine za (F5 (fx:=fx) hG hl) (by simp) (by simp) ?_
 have hbig:(fx.length:Int)*56≤140737488355328:=by omega
 have hbig2:(fx.length:Int)≤9223372036854775807:=by omega
 simp[eMk,hbig,hbig2]
 refine zw (R4 P fx y P.rows) (fun _=>True) fx.length (by simp[R4,hYL,← G7 (f:=P.vQ)]) trivial (fun k hk' _=>?_) (fun _=>?_)
 ·have e:(k:Int)<fx.length:=by omega
  have hko:k<P.of.length:=by omega
  have hko':(k:Int)<P.of.length:=by omega
  have w1:=zm (k:=k) (by omega)
  have hv:=(vJ (wS (hG.off _ (at_mem hko))).1).2.1
  rw[px hko] at hv
  have hset:(fZ P.vQ k fx.length).set k (fr ((P.of[k].v:Int):Rat))=fZ P.vQ (k+1) fx.length:=by
   rw[← Cy hk']
   congr 2
   unfold Pb.vQ
   rw[px hko]
  simp[rE,R4,e,hko,hko']
  refine za (lw (n:=P.of[k].v) (by omega) (by omega)) (by simp) (by simp) ?_
  simp[e,hk',w1,R4,hset]
 have hx0:fR P.vQ fx.length=fR (P.exP fx y 0) fx.length:=s5 fun i hi=>by
  unfold Pb.exP Pb.exc
  have:zu 0 (fun r=>y r*P.cof r i)=0:=rfl
  rw[this]
  split<;>grind
 have hb0:fr ((P.accV fx fx.length:Int):Rat)=fr (P.bdQ fx y 0):=by
  congr 1
  unfold Pb.bdQ
  have:zu 0 (fun r=>y r*((P.relB fx r:Int):Rat))=0:=rfl
  rw[this]; grind
 simp[rE,R4,m6,G6,hx0,hb0]
 refine zw (ZM P fx y P.rows) (fun _=>True) P.rows (by simp[ZM]) trivial (fun r hr _=>?_) (fun _=>?_)
 ·have e:(r:Int)<P.rows:=by omega
  have w1:=zm (k:=r) (by omega)
  have hrow:=ajl (P:=P) (r:=(r:Int)) hn hk
  have e0:(0:Int)≤r∧(r:Int)<(xD P:Nat):=by unfold xD; rw[if_pos hc]; omega
  unfold Pc at hrow
  rw[if_pos e0,if_pos e0,Int.toNat_natCast] at hrow
  have hbd:P.bdQ fx y (r+1)=P.bdQ fx y r+y r*((P.relB fx r:Int):Rat):=by unfold Pb.bdQ; simp only[zu]; grind
  have hex:∀ i,P.exc y (r+1) i=P.exc y r i-y r*P.cof r i:=fun i=>by unfold Pb.exc; simp only[zu]; grind
  by_cases z:y r=0
  ·have z0:qw (y r)=0:=NK.2 z
   have hb1:P.bdQ fx y (r+1)=P.bdQ fx y r:=by rw[hbd,z]; grind
   have hx1:fR (P.exP fx y r) fx.length=fR (P.exP fx y (r+1)) fx.length:=s5 fun i hi=>by
    unfold Pb.exP
    rw[hex,z]
    split<;>grind
   simp[uK,ZM,e,hr]
   refine za (Xn (q:=y r)) (by simp) (by simp) ?_
   simp[z0,rD,w1,ZM,hb1,hx1]
  ·have z0:¬ qw (y r)=0:=fun h=>z (NK.1 h)
   simp[uK,ZM,e,hr]
   refine za (Xn (q:=y r)) (by simp) (by simp) ?_
   simp[z0]
   refine za hrow (by simp) (by simp) ?_
   simp
   have hM0:fR (P.exM fx y r 0) P.of.length=fR (P.exP fx y r) P.of.length:=s5 fun i _=>if_neg (Nat.not_lt_zero i)
   refine zw (cB P fx y P.rows r) (fun _=>True) fx.length (by simp[cB,Pb.inK,No,hl,hM0]) trivial (fun k hk' _=>?_) (fun _=>?_)
   ·have e2:(k:Int)<fx.length:=by omega
    have hko:k<P.of.length:=by omega
    have hko':(k:Int)<P.of.length:=by omega
    have w2:=zm (k:=k) (by omega)
    have hg:=nR hk'
    have hcl:k<(clR (r6 P r)).length:=by simpa using hko
    have hrl:(clR (r6 P r))[k]=[iv (P.coef r P.of[k])]:=by simp[clR,r6]
    have hcf:=nf (vJ (wS (hG.off _ (at_mem hko))).1).2.2 hr
    have hin:=LW (P:=P) (fx:=fx) (r:=r) (k:=k)
    have hs1:=eF (fx:=fx) hG hr k (by omega)
    have hbo:=Yt hG hr
    rw[hg] at hin
    have hck:P.cof r k=((P.coef r P.of[k]:Int):Rat):=by unfold Pb.cof; rw[px hko]
    rw[px hko] at hin hcf
    have keep:(fx[k]=0→P.coef r P.of[k]=0)→fR (P.exM fx y r k) fx.length=fR (P.exM fx y r (k+1)) fx.length:=fun h=>s5 fun i hi=>by
     unfold Pb.exM
     by_cases h1:i<k
     ·rw[if_pos h1,if_pos (by omega)]
     ·rw[if_neg h1]
      by_cases h2:i=k
      ·subst h2
       rw[if_pos (by omega)]
       unfold Pb.exP
       rw[hex,hck,hg]
       by_cases h3:fx[i]=0
       ·rw[if_pos h3,if_pos h3,h h3]; grind
       ·rw[if_neg h3,if_neg h3]
      ·rw[if_neg (by omega)]
    obtain ⟨A,hA⟩:∃ A,((P.inK fx k).map (P.coef r)).sum=A:=⟨_,rfl⟩
    obtain ⟨c,hcc⟩:∃ c,P.coef r P.of[k]=c:=⟨_,rfl⟩
    rw[hA] at hin hs1
    rw[hcc] at hin hcf keep hrl hck
    by_cases d0:c=0
    ·subst d0
     have hin':((P.inK fx (k+1)).map (P.coef r)).sum=A:=by rw[hin]; split<;>omega
     have kp:=keep fun _=>rfl
     simp[-vA,xR,cB,e2,v8 hcl,hrl,hA,w2,hin',kp]
    ·by_cases d1:fx[k]=1
     ·rw[if_pos d1] at hin
      have kp:=keep fun h=>by rw[d1] at h; cases h
      have w3:IntKind.i64.wrap (P.bnd r-A-c)=P.bnd r-(A+c):=by rw[wrap64]<;>omega
      have hgx:k<(clR fx).length:=by simpa using hk'
      have hgc:(clR fx)[k]=[iv 1]:=by simp[clR,d1]
      simp[-vA,xR,cB,e2,v8 hcl,v8 hgx,hgc,hrl,hA,d0,w2,w3,hin,kp]
     ·rw[if_neg d1] at hin
      have hgx:k<(clR fx).length:=by simpa using hk'
      have hgc:(clR fx)[k]=[iv fx[k]]:=by simp[clR]
      by_cases d2:fx[k]=0
      ·have hset:(fR (P.exM fx y r k) fx.length).set k (fr (P.exM fx y r k k-y r*((c:Int):Rat)))=fR (P.exM fx y r (k+1)) fx.length:=by
        rw[Lz]
        refine s5 fun i hi=>?_
        unfold upd
        by_cases h2:i=k
        ·subst h2
         rw[if_pos rfl]
         have hg0:fx.getD i 9=0:=by rw[hg]; exact d2
         have l1:¬ i<i:=by omega
         have l2:i<i+1:=by omega
         unfold Pb.exM Pb.exP
         rw[if_neg l1,if_pos l2,if_pos hg0,if_pos hg0,hex,hck]
        ·rw[if_neg h2]
         unfold Pb.exM
         by_cases h1:i<k
         ·rw[if_pos h1,if_pos (by omega)]
         ·rw[if_neg h1,if_neg (by omega)]
       have s1:sz 300000 (P.exM fx y r k k):=by
        unfold Pb.exM; rw[if_neg (by omega)]; exact szE r k (by omega) hko
       have s2:sz 2 ((c:Int):Rat):=sQ (by omega)
       have s3:sz 300000 (y r*((c:Int):Rat)):=zS (vK (hy' r hr) s2) (by omega)
       simp[-vA,xR,cB,e2,v8 hcl,v8 hgx,hgc,hrl,hA,d0,d2]
       simp[e2,hk']
       refine za (lw (n:=c) (by omega) (by omega)) (by simp) (by simp) ?_
       simp
       refine za (adt (K:=300000) (by decide) (zS (hy' r hr) (by omega)) (zS s2 (by decide))) (by simp) (by simp) ?_
       simp
       refine za (ajs (K:=300000) (by decide) s1 s3) (by simp) (by simp) ?_
       simp[e2,hk',w2,cB,hset,hin]
      ·have kp:=keep fun h=>absurd h d2
       simp[-vA,xR,cB,e2,v8 hcl,v8 hgx,hgc,hrl,hA,d0,d1,d2,w2,hin,kp]
   ·have hrb:=Q8 hG hl hr
    have hM1:fR (P.exM fx y r fx.length) fx.length=fR (P.exP fx y (r+1)) fx.length:=s5 fun i hi=>if_pos hi
    have h1:=eF (fx:=fx) hG hr fx.length (by omega)
    have h2:=Yt hG hr
    have hB:P.bnd r-((P.inK fx fx.length).map (P.coef r)).sum=P.relB fx r:=rfl
    have hB1:-9223372036854775808≤P.relB fx r∧P.relB fx r<9223372036854775808:=by rw[← hB]; omega
    simp[xR,cB,mZ,hM1,hB]
    refine za (lw (n:=P.relB fx r) hB1.1 hB1.2) (by simp) (by simp) ?_
    simp
    refine za (adt (K:=300000) (by decide) (zS (hy' r hr) (by omega)) (zS hrb (by decide))) (by simp) (by simp) ?_
    simp
    refine za (F7 (K:=300000) (by decide) (szB r (by omega)) (zS (vK (hy' r hr) hrb) (by omega))) (by simp) (by simp) ?_
    simp[rD,w1,ZM,hbd]
 have ha0:P.bdQ fx y P.rows=P.bdQ fx y P.rows+P.adQ fx y P.rows 0:=by
  have:P.adQ fx y P.rows 0=0:=rfl
  rw[this]; grind
 have hfr0:fr (P.bdQ fx y P.rows)=fr (P.bdQ fx y P.rows+P.adQ fx y P.rows 0):=congrArg fr ha0
 simp[uK,ZM,m5]
 refine zw (cC P fx y) (fun _=>True) fx.length (by simp[cC,← hfr0]) trivial (fun k hk' _=>?_) (fun _=>?_)
 ·have e:(k:Int)<fx.length:=by omega
  have w1:=zm (k:=k) (by omega)
  have hg:=nR hk'
  have had:P.adQ fx y P.rows (k+1)=P.adQ fx y P.rows k+(if fx.getD k 9=0∧0<P.exc y P.rows k then P.exc y P.rows k else 0):=rfl
  have s1:sz 70000000 (P.bdQ fx y P.rows+P.adQ fx y P.rows k):=zS (kU (szB _ (Nat.le_refl _)) (szA k (by omega))) (by decide)
  have s2:=szE P.rows k (Nat.le_refl _) (by omega)
  rw[hg] at had
  by_cases d:fx[k]=0
  ·have hx:P.exP fx y P.rows k=P.exc y P.rows k:=if_pos (by rw[hg]; exact d)
   rw[hx] at s2
   by_cases hp:0<P.exc y P.rows k
   ·rw[if_pos ⟨d,hp⟩] at had
    have hsg:=ZG.2 hp
    have hsum:P.bdQ fx y P.rows+P.adQ fx y P.rows k+P.exc y P.rows k=P.bdQ fx y P.rows+P.adQ fx y P.rows (k+1):=by rw[had]; grind
    simp[wM,cC,e,hk',d,hx]
    refine za (Xn (q:=P.exc y P.rows k)) (by simp) (by simp) ?_
    simp[hsg,e,hk',hx]
    refine za (F7 (K:=70000000) (by decide) s1 (zS s2 (by decide))) (by simp) (by simp) ?_
    simp[w1,cC,hsum]
   ·rw[if_neg fun h=>hp h.2] at had
    have hsg:¬ 0<qw (P.exc y P.rows k):=fun h=>hp (ZG.1 h)
    have hsum:P.adQ fx y P.rows (k+1)=P.adQ fx y P.rows k:=by rw[had]; grind
    simp[wM,cC,e,hk',d,hx]
    refine za (Xn (q:=P.exc y P.rows k)) (by simp) (by simp) ?_
    simp[hsg,w1,cC,hsum]
  ·rw[if_neg fun h=>d h.1] at had
   have hsum:P.adQ fx y P.rows (k+1)=P.adQ fx y P.rows k:=by rw[had]; grind
   simp[wM,cC,e,hk',d,w1,hsum]
 have hfp:P.bdQ fx y P.rows+P.adQ fx y P.rows fx.length=P.fpQ fx y:=rfl
 simp[wM,cC,m4,hfp,wT]
end
theorem anU {P:Program} {f:FuncId} {xs args:List AV} {s:St} {r:AV} {K:AV→St→Prop} (h:ze P f args r) (hs:yQ (vv (lk s.sto)) xs=some args)
  (hp:xs.any gc=true→pf r=true) (hK:K r s):yH P f xs s K:=by
 intro F a w I β lam hI vs hv hR
 obtain ⟨hl,hg⟩:=TU hs
 have done:∀ (J:Nat→Nat→Prop),(∀ b o,J b o→b<w.heap.size)→(∀ i x,args[i]?=some x→R0 J w x (vs.getD i undef)) →
   (∀ (w':World) (v:Value),R0 (fun b o=>(J b o∨w.heap.size≤b)∧b<w'.heap.size) w' r v→w.heap.size≤w'.heap.size→R0 (fun b o=>I b o∨(w.heap.size≤b∧b<w'.heap.size)) w' r v) →
   Calls P f vs w fun e w'=>∃ v,e=.returned v∧∃ r s' I' β' lam',K r s'∧Inv F s'.look (lk s'.sto) I' β' lam' a w'∧R I' w' β' lam' r v:=by
  intro J hJ hJR hres
  refine Calls.mono (h J vs w hJ (by omega) hJR) fun e w' ⟨v,he,hb,hr⟩=>⟨v,he,r,s,fun b o=>I b o∨(w.heap.size≤b∧b<w'.heap.size),β,lam,hK,?_,.base (hres w' v hr hb.size)⟩
  exact hI.grow hb (fun _ _ h=>.inl h) (fun _ _ h=>h)
 by_cases href:xs.any gc=true
 ·refine done (Seen I β lam) (fun b o h=>?_) (fun i x hi=>?_) (fun w' v hr _=>ajb hr (hp href))
  ·rcases h with h | h
   ·exact hI.Isub _ _ h
   ·rcases h with ⟨k,h⟩ | ⟨l,p,cap,sz,h,h0⟩
    ·exact (hI.bnew _ _ h).2.1
    ·exact hI.hlm _ _ _ _ _ h h0
  ·obtain ⟨x',hx',hsn⟩:=hg i x hi
   exact (Ur hI.hread hI.usto hsn (hR i x' hx')).1
 ·refine done I hI.Isub (fun i x hi=>?_) (fun w' v hr hle=>hr.mono (fun b o hb=>?_) (fun _ _ _ _ h=>h))
  ·obtain ⟨x',hx',hsn⟩:=hg i x hi
   refine (Ur hI.hread hI.usto hsn (hR i x' hx')).2 ?_
   have:=List.any_eq_false.1 (by simpa using href) x' (List.mem_iff_getElem?.2 ⟨i,hx'⟩)
   simpa using this
  ·rcases hb.1 with h | h
   ·exact .inl h
   ·exact .inr ⟨h,hb.2⟩
theorem aog {f:FuncId} {ds:List Nat} {xs args:List AV} {s:St} {d:Option Nat} {r:AV} {K:St→Prop} (h:ze Tryz.prog f args r) (hf:rQ s.sto s.base ds) (hs:yQ (vv (lk s.sto)) xs=some args)
  (hp:xs.any gc=true→pf r=true) (hK:K (s.put d r)):agE f ds s d K xs :=
 ⟨hf,fun _=>anU h hs hp ⟨s,rfl,rfl,hf,hK⟩⟩
theorem Ys {P:Program} {c:zd} {s t:St} {K:Exit→St→Prop} (h:St.imp s t) (ha:awp P (.loop c) t K):awp P (.loop c) s K:=by
 obtain ⟨J,n,s0,h0,h1⟩:=ha
 exact ⟨J,n,s0,h.trans h0,h1⟩
@[simp] theorem ami {x:RF} {h:0<(hr x).length}:(hr x)[0]=h0 x:=rfl
section
variable {P:Pb} {r n:Nat} {o:Of} {L:List Of} {ch:List Int}
noncomputable def Sj (P:Pb) (ch:List Int) (k:Nat):St:={env:=[(2,.ptr 2 0),(6,apc 34 8 (ofR (P.pick (ch.take k)))),(7,iv (prv ch k)),(10,clA ch),(11,iv ch.length),(12,iv k)],sto:=[(2,.var (pbC P))]}
theorem ab3 (hk:P.of.length≤1000000) (hl:ch.length<4611686018427387904):ze Tryz.prog ml [.agg (pbC P),clA ch] (.tuple [if okP P.of.length ch then ofA (P.pick ch) else uw,bv (decide (okP P.of.length ch))]):=by
 refine wW So (by simp) ?_
 simp[am3]
 have h0:apc 34 8 (ofR (P.pick (ch.take 0)))=.list 0 .full []:=by rw[List.take_zero]; exact Qs rfl
 refine zw (Sj P ch) (fun k=>∀ q,q<k→okI P.of.length ch q) ch.length (by simp[Sj,prv,Pb.pick,ofR,apc]) (fun q hq=>by omega) (fun k hk' hI=>?_) (fun hI=>?_)
 ·have e:(k:Int)<ch.length:=by omega
  have w1:=zm (k:=k) (by omega)
  have hp:=RK hI
  have hg:=getD_lt hk'
  by_cases d:okI P.of.length ch k
  ·have d':=d
   unfold okI at d'
   rw[hg] at d'
   obtain ⟨b,hb,hbn⟩:=Uh hI d
   rw[hg] at hb
   have hlen:=aa (n:=P.of.length) (ch:=ch.take (k+1)) (fun q hq=>by
    have hq:q<k+1:=by simp at hq; omega
    have e1:∀ j,j<k+1→(ch.take (k+1)).getD j 0=ch.getD j 0:=fun j hj=>by
     rw[List.getD_eq_getElem?_getD,List.getD_eq_getElem?_getD,List.getElem?_take,if_pos hj]
    have:=if hqk:q=k then hqk▸d else hI q (by omega)
    unfold okI at this ⊢
    rw[e1 q hq]
    cases q with
    | zero=>exact this
    | succ q=>simp only[prv] at this ⊢; rw[e1 q (by omega)]; exact this)
   have hkn:k+1≤P.of.length:=by simpa [List.length_take,Nat.min_eq_left (show k+1≤ch.length by omega)] using hlen
   rw[hb] at d'
   have b1:¬ (b:Int)≤prv ch k:=by omega
   have b2:(b:Int)<P.of.length:=by omega
   have b3:¬ (P.of.length:Int)≤b:=by omega
   have hat:P.of[b]=P.at ch[k]:=by rw[hb,F8 hbn]
   have hpr:prv ch (k+1)=b:=by simp only[prv]; rw[hg,hb]
   simp[vH,Sj,e,hk',hb,b1,b2,b3,hbn]
   refine p9 (by decide) rfl ?_ ?_ (by simp) ?_
   ·simp only[qM,vT,List.length_take]; omega
   ·simp only[qM,vT,List.length_take]; omega
   ·have hro:ofR (P.pick (ch.take k))++[oC P.of[b]]=ofR (P.pick (ch.take (k+1))):=by rw[Y8 hk',QX,hat]; rfl
    rw[hro]
    simp[w1,hpr,Sj]
    exact fun q hq=>by
     by_cases eq:q=k
     ·subst eq; exact d
     ·exact hI q (by omega)
  ·have hf:¬ okP P.of.length ch:=fun h=>d (h k hk')
   unfold okI at d
   rw[hg] at d
   by_cases b1:ch[k]≤prv ch k
   ·simp[vH,Sj,e,hk',b1,hf,qu]
    exact AV.imp.refl
   ·have b2:(P.of.length:Int)≤ch[k]:=by omega
    simp[vH,Sj,e,hk',b1,b2,hf,qu]
    exact AV.imp.refl
 ·have hf:okP P.of.length ch:=hI
  simp[vH,Sj,hf,ja,qu]
  exact AV.imp_tuple2 (fJ lA)
theorem Ew (hn:P.cl.length≤1000) (hk:P.of.length≤1000000) (hl:ch.length<4611686018427387904):ze Tryz.prog po [.agg (pbC P),clA ch] (iv (P.feaE ch)):=by
 refine zn XG (by simp) ?_
 simp[j3]
 refine za (Qy hn hk) (by simp) (by simp) ?_
 unfold Pb.feaE
 by_cases c1:P.chk=0
 ·rw[if_neg (fun h:P.chk≠0=>h c1)]
  simp[c1]
  refine za (ab3 hk hl) (by simp) (by simp) ?_
  by_cases c2:okP P.of.length ch
  ·have hG:=vR c1
   have hm:=anu c2
   simp[c2]
   have hP:∀ o∈P.pick ch,P.offE o=0:=fun o ho=>hG.off o (hm o ho)
   refine za (CB (P:=P) (L:=P.pick ch) hn (by rw[vT]; have:=aa c2; have:=hG.k; omega) (fun o ho=>(vJ (wS (hP o ho)).1).1) (fun o ho=>(vJ (wS (hP o ho)).1).2.2)) (by simp) (by simp) ?_
   by_cases c3:P.fits (P.pick ch)
   ·simp[c3,uz]
   ·simp[c3,uz]
  ·simp[c2,uz]
 ·rw[if_pos c1]
  simp[c1,uz]
end
noncomputable def nF (P:Pb) (ch:List Int) (k:Nat):St:={env:=[(1,clA ch),(2,.ptr 2 0),(6,apc 55 8 (ofR (P.pick (ch.take k)))),(7,iv k)],sto:=[(2,.var (pbC P))]}
section
variable {P:Pb} {ch:List Int}
theorem Xk (hk:P.of.length≤1000000) (ok:okP P.of.length ch):ze Tryz.prog ru [.agg (pbC P),clA ch] (.tuple [ofA (P.pick ch),bv true]):=by
 have hl:=aa ok
 refine wW am (by simp) ?_
 simp[ji]
 have h0:apc 55 8 (ofR (P.pick (ch.take 0)))=.list 0 .full []:=by rw[List.take_zero]; exact Qs rfl
 refine zw (nF P ch) (fun _=>True) ch.length (by simp[nF,Pb.pick,ofR,apc]) trivial (fun k hk' _=>?_) (fun _=>?_)
 ·have e:(k:Int)<ch.length:=by omega
  have w1:=zm (k:=k) (by omega)
  have hg:=getD_lt hk'
  have d:=ok k hk'
  obtain ⟨b,hb,hbn⟩:=Uh (fun q hq=>ok q (by omega)) d
  rw[hg] at hb
  unfold okI at d
  rw[hg,hb] at d
  have b0:¬ (b:Int)<0:=by omega
  have b2:(b:Int)<P.of.length:=by omega
  have b3:¬ (P.of.length:Int)≤b:=by omega
  have hat:P.of[b]=P.at ch[k]:=by rw[hb,F8 hbn]
  have hro:ofR (P.pick (ch.take k))++[oC P.of[b]]=ofR (P.pick (ch.take (k+1))):=by rw[Y8 hk',QX,hat]; rfl
  by_cases hz:0<k
  ·obtain ⟨q,hq⟩:∃ q:Nat,k-1=q:=⟨_,rfl⟩
   have hql:q<ch.length:=by omega
   have hgq:=getD_lt hql
   have hpv:prv ch k=ch[q]:=by
    rw[show k=q+1 by omega]
    exact hgq
   rw[hpv] at d
   have w2:IntKind.i64.wrap ((k:Int)-1)=(q:Int):=by rw[wrap64]<;>omega
   have c1:¬ (b:Int)≤ch[q]:=by omega
   have eq':(q:Int)<ch.length:=by omega
   simp[y9,nF,e,hk',hb,b0,b2,b3,hbn,hz,w2,hql,eq',c1]
   refine p9 (by decide) rfl ?_ ?_ (by simp) ?_
   ·simp only[qM,vT,List.length_take]; omega
   ·simp only[qM,vT,List.length_take]; omega
   ·rw[hro]
    simp[w1,nF]
  ·simp[y9,nF,e,hk',hb,b0,b2,b3,hbn,hz]
   refine p9 (by decide) rfl ?_ ?_ (by simp) ?_
   ·simp only[qM,vT,List.length_take]; omega
   ·simp only[qM,vT,List.length_take]; omega
   ·rw[hro]
    simp[w1,nF]
 ·simp[y9,nF,gT,rZ]
  exact AV.imp_tuple2 (fJ lA)
theorem Gc (hn:P.cl.length≤1000) (hk:P.of.length≤1000000) (hc:P.chk=0) (ok:okP P.of.length ch):ze Tryz.prog tJ [.agg (pbC P),clA ch] (iv (if P.fits (P.pick ch) then 0 else 14)):=by
 have hl:=aa ok
 refine zn mO (by simp) ?_
 simp[qf]
 refine za (pR hn hk) (by simp) (by simp) ?_
 simp[hc]
 refine za (Xk hk ok) (by simp) (by simp) ?_
 have hG:=vR hc
 have hm:=anu ok
 have hP:∀ o∈P.pick ch,P.offE o=0:=fun o ho=>hG.off o (hm o ho)
 simp
 refine za (FU (P:=P) (L:=P.pick ch) hn (by rw[vT]; have:=hG.k; omega) (fun o ho=>(vJ (wS (hP o ho)).1).1) (fun o ho=>(vJ (wS (hP o ho)).1).2.2)) (by simp) (by simp) ?_
 by_cases c3:P.fits (P.pick ch)
 ·simp[c3,tY]
 ·simp[c3,tY]
end
section
variable {P:Pb} {ch:List Int} {T:List Nat}
def MG (L:List Of) (k:Nat):St:={env:=[(5,ofA L),(7,iv (sh (fun o=>o.v) L k)),(8,iv k)],sto:=[]}
theorem acs (hn:P.cl.length≤1000) (hk:P.of.length≤1000000) (hc:P.chk=0) (ok:okP P.of.length ch):ze Tryz.prog nY [.agg (pbC P),clA ch] (iv ((P.pick ch).map fun o=>o.v).sum):=by
 have hG:=vR hc
 have hm:=anu ok
 have hP:∀ o∈P.pick ch,0≤o.v∧o.v≤1000000:=fun o ho=>by have:=(vJ (wS (hG.off o (hm o ho))).1).2.1; omega
 have hl2:(P.pick ch).length≤160:=by rw[vT]; have:=aa ok; have:=hG.k; omega
 refine zn gN (by simp) ?_
 simp[n6]
 refine za (pR hn hk) (by simp) (by simp) ?_
 simp[hc]
 refine za (Xk hk ok) (by simp) (by simp) ?_
 simp
 generalize P.pick ch=L at *
 refine zw (MG L) (fun _=>True) L.length (by simp[MG,Y9]) trivial (fun k hk' _=>?_) (fun _=>?_)
 ·have e:(k:Int)<L.length:=by omega
  have hg:L[k]?=some L[k]:=by simp[hk']
  have w1:=zm (k:=k) (by omega)
  obtain ⟨p1,p2⟩:=kJ (f:=fun o:Of=>o.v) hP k (by omega)
  have p3:=hP _ (List.getElem_mem hk')
  have w3:IntKind.i64.wrap (sh (fun o=>o.v) L k+L[k].v)=sh (fun o=>o.v) L k+L[k].v:=by rw[wrap64]<;>omega
  have hs:=cr (f:=fun o:Of=>o.v) hg
  simp[qg,MG,e,hk',w1,w3,hs]
 ·have hall:sh (fun o=>o.v) L L.length=(L.map fun o=>o.v).sum:=Zv
  simp[qg,MG,mw,hall,mc]
end
section
variable {P:Pb} {ch:List Int}
theorem Bs {n:Nat} {k:Nat} (h:¬ okI n ch k) (hk:k<ch.length):ch[k]<0∨(n:Int)≤ch[k]∨∃ q,k=q+1∧ch[k]≤ch.getD q 0:=by
 unfold okI at h
 rw[getD_lt hk] at h
 cases k with
 | zero =>
  simp only[prv] at h
  omega
 | succ q =>
  simp only[prv] at h
  by_cases h1:ch[q+1]<0
  ·exact .inl h1
  ·by_cases h2:(n:Int)≤ch[q+1]
   ·exact .inr (.inl h2)
   ·exact .inr (.inr ⟨q,rfl,by omega⟩)
theorem NI (hk:P.of.length≤1000000) (hl:ch.length<4611686018427387904):ze Tryz.prog ru [.agg (pbC P),clA ch] (.tuple [if okP P.of.length ch then ofA (P.pick ch) else uw,bv (decide (okP P.of.length ch))]):=by
 by_cases ok:okP P.of.length ch
 ·rw[if_pos ok,decide_eq_true ok]
  exact Xk hk ok
 rw[if_neg ok,decide_eq_false ok]
 refine zn am (by simp) ?_
 simp[ji]
 refine zw (nF P ch) (fun k=>∀ q,q<k→okI P.of.length ch q) ch.length (by simp[nF,Pb.pick,ofR,apc]) (fun q hq=>by omega) (fun k hk' hI=>?_) (fun hI=>absurd hI ok)
 have e:(k:Int)<ch.length:=by omega
 have w1:=zm (k:=k) (by omega)
 have hg:=getD_lt hk'
 by_cases d:okI P.of.length ch k
 ·have hI':∀ q,q<k+1→okI P.of.length ch q:=fun q hq=>by
   by_cases e:q=k
   ·subst e; exact d
   ·exact hI q (by omega)
  have hkl:k<P.of.length:=by
   have h1:=RK hI
   have h2:=d
   unfold okI at h2
   omega
  obtain ⟨b,hb,hbn⟩:=Uh hI d
  rw[hg] at hb
  unfold okI at d
  rw[hg,hb] at d
  have b0:¬ (b:Int)<0:=by omega
  have b2:(b:Int)<P.of.length:=by omega
  have b3:¬ (P.of.length:Int)≤b:=by omega
  have hat:P.of[b]=P.at ch[k]:=by rw[hb,F8 hbn]
  have hro:ofR (P.pick (ch.take k))++[oC P.of[b]]=ofR (P.pick (ch.take (k+1))):=by rw[Y8 hk',QX,hat]; rfl
  by_cases hz:0<k
  ·obtain ⟨q,hq⟩:∃ q:Nat,k-1=q:=⟨_,rfl⟩
   have hql:q<ch.length:=by omega
   have hgq:=getD_lt hql
   have hpv:prv ch k=ch[q]:=by
    rw[show k=q+1 by omega]
    exact hgq
   rw[hpv] at d
   have w2:IntKind.i64.wrap ((k:Int)-1)=(q:Int):=by rw[wrap64]<;>omega
   have c1:¬ (b:Int)≤ch[q]:=by omega
   have eq':(q:Int)<ch.length:=by omega
   simp[y9,nF,e,hk',hb,b0,b2,b3,hbn,hz,w2,hql,eq',c1]
   refine p9 (by decide) rfl ?_ ?_ (by simp) ?_
   ·simp only[qM,vT,List.length_take]; omega
   ·simp only[qM,vT,List.length_take]; omega
   ·rw[hro]
    simp[w1,nF]
    exact hI'
  ·simp[y9,nF,e,hk',hb,b0,b2,b3,hbn,hz]
   refine p9 (by decide) rfl ?_ ?_ (by simp) ?_
   ·simp only[qM,vT,List.length_take]; omega
   ·simp only[qM,vT,List.length_take]; omega
   ·rw[hro]
    simp[w1,nF]
    exact hI'
 ·by_cases b0:ch[k]<0
  ·simp[y9,nF,e,hk',b0,rZ]
  ·by_cases b1:(P.of.length:Int)≤ch[k]
   ·simp[y9,nF,e,hk',b0,b1,rZ]
   ·obtain ⟨q,hq,hle⟩:∃ q,k=q+1∧ch[k]≤ch.getD q 0:=((Bs d hk').resolve_left b0).resolve_left b1
    have hql:q<ch.length:=by omega
    rw[getD_lt hql] at hle
    have hz:0<k:=by omega
    have w2:IntKind.i64.wrap ((k:Int)-1)=(q:Int):=by rw[wrap64]<;>omega
    have eq':(q:Int)<ch.length:=by omega
    simp[y9,nF,e,hk',b0,b1,hz,w2,hql,eq',hle,rZ]
theorem Gb (hn:P.cl.length≤1000) (hk:P.of.length≤1000000) (hl:ch.length<4611686018427387904):ze Tryz.prog tJ [.agg (pbC P),clA ch] (iv (P.feaE ch)):=by
 unfold Pb.feaE
 by_cases hc:P.chk=0
 ·rw[if_neg fun h=>h hc]
  by_cases ok:okP P.of.length ch
  ·rw[if_neg fun h=>h ok]
   exact Gc hn hk hc ok
  ·rw[if_pos ok]
   have kp:=NI hk hl
   rw[if_neg ok,decide_eq_false ok] at kp
   refine zn mO (by simp) ?_
   simp[qf]
   refine za (pR hn hk) (by simp) (by simp) ?_
   simp[hc]
   refine za kp (by simp) (by simp) ?_
   simp[tY]
 ·rw[if_pos hc]
  refine zn mO (by simp) ?_
  simp[qf]
  refine za (pR hn hk) (by simp) (by simp) ?_
  simp[hc,tY]
theorem akJ (hn:P.cl.length≤1000) (hk:P.of.length≤1000000) (hl:ch.length<4611686018427387904):ze Tryz.prog nY [.agg (pbC P),clA ch] (iv (P.valE ch)):=by
 unfold Pb.valE
 by_cases hc:P.chk=0
 ·by_cases ok:okP P.of.length ch
  ·rw[if_pos ⟨ok,hc⟩]
   exact acs hn hk hc ok
  ·rw[if_neg fun h=>ok h.1]
   have kp:=NI hk hl
   rw[if_neg ok] at kp
   refine zn gN (by simp) ?_
   simp[n6]
   refine za (pR hn hk) (by simp) (by simp) ?_
   simp[hc]
   refine za kp (by simp) (by simp) ?_
   simp
   refine zw (fun k=>{env:=[(5,uw),(7,iv 0),(8,iv k)],sto:=[]}) (fun _=>True) 0 (by simp) trivial (fun k hk _=>by omega) (fun _=>?_)
   simp[qg,mw,mc]
 ·rw[if_neg fun h=>hc h.2]
  refine zn gN (by simp) ?_
  simp[n6]
  refine za (pR hn hk) (by simp) (by simp) ?_
  simp[hc,mc]
end
end Go.Proofs.YtpnliopaifpimaaGreat

set_option maxRecDepth 20000
namespace Go.Proofs.YtpnliopaifpimaaGreat
open Go Go.Am Go.Wr Go.Dig Go.Tr Go.LP Go.Pb
def yZ (N:Nz) (r:Nat):RF:=⟨(N.P.getD r (false,[],[])).1,(N.P.getD r (false,[],[])).2.1,(N.P.getD r (false,[],[])).2.2⟩
theorem LJ {N:Nz}:v9 N.P=hR (yZ N) N.P.length:=by
 unfold hR mR
 apply List.ext_getElem
 ·simp
 ·intro i h1 h2
  have hi:i<N.P.length:=by simpa using h1
  simp[ni,yZ,hi]
def eK (N:Nz):Prop:=∀ x∈N.P,wI x∧x.2.1.length≤4∧x.2.2.length≤4
theorem fe {N:Nz} (h:eK N):∀ r,r<N.P.length→(ok (yZ N r).a∧ok (yZ N r).c)∧KY (yZ N r) 4:=fun r hr=>by
 have hx:=h _ (List.getElem_mem hr)
 have e:N.P.getD r (false,[],[])=N.P[r]:=by simp[hr]
 unfold yZ
 rw[e]
 exact ⟨⟨hx.1.1,hx.1.2.1⟩,hx.2⟩
theorem ahF {K:Nat} {n:Int} {d:Nat} (h1:n.natAbs≤2^K) (h2:d≤2^K):sz K (mkRat n d):=by
 unfold mkRat
 split
 ·exact PK
 ·rename_i h; exact PJ h h1 h2
theorem Dw {x:RF} {D:Nat} (h:ok x.a∧ok x.c) (hs:KY x D):sz (32*D) x.q:=by
 have e1:2^(32*D)=B^D:=by rw[Nat.pow_mul,show (2:Nat)^32=B from rfl]
 have h1:=yS h.1 hs.1
 have h2:=yS h.2 hs.2
 unfold RF.q
 refine ahF ?_ ?_
 ·rw[e1,show (sg x.s (val x.a)).natAbs=val x.a by unfold sg; split<;>omega]; omega
 ·rw[e1]; omega
noncomputable def bdZ (P:Pb) (fl:List Int) (N:Nz):Rat:=P.fpQ fl fun r=>(yZ N r).q
theorem DT {P:Pb} {fl:List Int} {N:Nz} (hc:P.chk=0) (hk:P.of.length≤10) (hN:eK N) (h0:fpE P fl (yZ N) N.P.length=0):sz 70000000 (bdZ P fl N):=by
 have hf0:P.fixE fl=0:=by
  unfold fpE at h0
  split at h0
  ·rename_i h; exact absurd h0 h
  ·rename_i h; exact Decidable.not_not.1 h
 obtain ⟨_,hl,_⟩:=YQ hf0
 have hG:=vR hc
 have hr:P.rows=N.P.length:=by
  unfold fpE at h0
  rw[if_neg fun h=>h hf0] at h0
  split at h0
  ·cases h0
  ·rename_i h; exact (Decidable.not_not.1 h).symm
 have hy':∀ r,r<P.rows→sz 128 (yZ N r).q:=fun r h=>by
  obtain ⟨a,b⟩:=fe hN r (by omega)
  exact Dw a b
 have hrw:P.rows≤20:=by have:=hG.n; unfold Pb.rows; omega
 have s1:=Mr hG hl hy' P.rows (Nat.le_refl _)
 have s2:=Mn hG hl hy' fl.length (Nat.le_refl _)
 have m1:P.rows*(128+11)≤20*139:=Nat.mul_le_mul hrw (Nat.le_refl _)
 have m2:fl.length*(21+P.rows*(128+3))≤10*(21+20*131):=Nat.mul_le_mul (by omega) (by have:P.rows*(128+3)≤20*131:=Nat.mul_le_mul hrw (Nat.le_refl _); omega)
 exact zS (kU s1 s2) (by omega)
theorem CZ {value:Int} (h1:-9223372036854775808≤value) (h2:value<9223372036854775808):sz 70000000 ((value:Rat)+1):=by
 have a:sz 64 (value:Rat):=sQ (by omega)
 have b:sz 64 ((1:Int):Rat):=sQ (by decide)
 exact zS (kU a b) (by omega)
noncomputable def bdB (P:Pb) (value:Int) (fl:List Int) (N:Nz):Bool:=decide (fpE P fl (yZ N) N.P.length=0)&&decide (bdZ P fl N<(value:Rat)+1)
theorem BM {P:Pb} {value:Int} {fl:List Int} {N:Nz} (hc:P.chk=0) (hk:P.of.length≤10) (hN:eK N) (hm:N.P.length<1000000) (h1:-9223372036854775808≤value) (h2:value<9223372036854775808) :
  ze Tryz.prog xM [.agg (zc N),.agg (pbC P),iv value,clA fl] (bv (bdB P value fl N)):=by
 have hG:=vR hc
 have kp:=LI (P:=P) (fx:=fl) (Y:=yZ N) (m:=N.P.length) (S:=128) (by have:=hG.n; omega) (by omega) (by omega) hm (fun r hr=>Rk (fe hN r hr).1 (fe hN r hr).2 (by decide)) (fun r hr=>Dw (fe hN r hr).1 (fe hN r hr).2)
 have kv:=lw h1 h2
 have ko:=lw (n:=1) (by decide) (by decide)
 have ka:=F7 (p:=(value:Rat)) (q:=((1:Int):Rat)) (K:=64) (by decide) (sQ (by omega)) (sQ (by decide))
 rw[show ((1:Int):Rat)=1 from rfl] at ka ko
 have hl:=CZ h1 h2
 have kc:=fun h0=>ah4 (p:=bdZ P fl N) (q:=(value:Rat)+1) (K:=70000000) (by decide) (DT (P:=P) (fl:=fl) hc hk hN h0) hl
 refine zn kW (by simp) ?_
 simp[sH,LJ]
 refine za kp (by simp) (by simp) ?_
 unfold bdB
 obtain ⟨e,he⟩:∃ e,fpE P fl (yZ N) N.P.length=e:=⟨_,rfl⟩
 rw[show (P.fpQ fl fun r=>(yZ N r).q)=bdZ P fl N from rfl] at *
 rw[he] at kc ⊢
 obtain ⟨q,hq⟩:∃ q,bdZ P fl N=q:=⟨_,rfl⟩
 rw[hq] at kc ⊢
 by_cases h0:e=0
 ·have kc0:=kc h0
  subst h0
  simp
  refine za kv (by simp) (by simp) ?_
  simp
  refine za ko (by simp) (by simp) ?_
  simp
  refine za ka (by simp) (by simp) ?_
  simp
  refine za kc0 (by simp) (by simp) ?_
  simp[vr,GV]
 ·simp[h0]
  refine za kv (by simp) (by simp) ?_
  simp
  refine za ko (by simp) (by simp) ?_
  simp
  refine za ka (by simp) (by simp) ?_
  simp[h0,vr]
end Go.Proofs.YtpnliopaifpimaaGreat

set_option maxRecDepth 20000
namespace Go.Proofs.YtpnliopaifpimaaGreat
open Go Go.Am Go.Wr Go.Dig Go.Tr Go.LP Go.Pb
noncomputable def Pk (P:Pb) (fl:List Int) (k:Nat):St:={env:=[(5,.ptr 5 0),(9,apc 24 1 (clR (ints (Go.Pb.numK fl 1 k)))),(12,clA fl),(13,iv fl.length),(14,iv k)],sto:=[(5,.var (pbC P))]}
theorem lC {l:List Nat}:(ints l).length=l.length:=by simp[ints]
theorem Km {fl:List Int} {k:Nat} (h:fl.getD k 9=1):clR (ints (Go.Pb.numK fl 1 k))++[[iv k]]=clR (ints (Go.Pb.numK fl 1 (k+1))):=by
 rw[Go.Pb.numK_succ,if_pos h]
 simp[ints,clR]
theorem Np {fl:List Int} {k:Nat} (h:¬ fl.getD k 9=1):Go.Pb.numK fl 1 k=Go.Pb.numK fl 1 (k+1):=by rw[Go.Pb.numK_succ,if_neg h]
noncomputable def cfB (P:Pb) (fl:List Int):Bool:=decide (P.feaE (ints (Go.Pb.numK fl 1 fl.length))≠0)
theorem BN {P:Pb} {value:Int} {fl:List Int} {N:Nz} (hc:P.chk=0) (hf:fl.length≤1000000):ze Tryz.prog xh [.agg (zc N),.agg (pbC P),iv value,clA fl] (bv (cfB P fl)):=by
 have hG:=vR hc
 have kf:=Ew (P:=P) (ch:=ints (Go.Pb.numK fl 1 fl.length)) (by have:=hG.n; omega) (by have:=hG.k; omega) (by rw[lC]; have:=Go.Pb.numK_len (fx:=fl) (v:=1) (k:=fl.length); omega)
 refine zn nU (by simp) ?_
 simp[tw]
 refine yl (Pk P fl) fl.length (by simp[Pk,Go.Pb.numK,ints,clR,apc]) (fun k hk=>?_) ?_
 ·have w1:=zm (k:=k) (by omega)
  have hg:=nR hk
  have hlen:=Go.Pb.numK_len (fx:=fl) (v:=1) (k:=k)
  by_cases h1:fl[k]=1
  ·have hr:=Km (fl:=fl) (k:=k) (by rw[hg,h1])
   simp[yP,Pk,hk,h1]
   refine p9 (by decide) rfl ?_ ?_ (by simp) ?_
   ·simp only[lm,lC]; omega
   ·simp only[lm,lC]; omega
   ·rw[hr]
    simp[w1,Pk]
  ·have hr:=Np (fl:=fl) (k:=k) (by rw[hg]; exact h1)
   simp[yP,Pk,hk,h1,w1,hr]
 ·simp[yP,um,Pk]
  refine za (LU kf (fJ lA)) (by simp) (by simp) ?_
  simp[cfB,tD]
def brB (fl:List Int) (N:Nz):Bool:=decide (N.O<fl.length)&&decide (fl.getD N.O.toNat 9=0)
theorem BO {P:Pb} {value:Int} {fl:List Int} {N:Nz} (h0:0≤N.O):ze Tryz.prog xA [.agg (zc N),.agg (pbC P),iv value,clA fl] (bv (brB fl N)):=by
 refine zn lK (by simp) ?_
 obtain ⟨K,O,U,I,Q⟩:=N
 simp only at h0 ⊢
 obtain ⟨o,rfl⟩:∃ o:Nat,O=o:=⟨O.toNat,by omega⟩
 unfold brB
 by_cases h:o<fl.length
 ·have h':(o:Int)<fl.length:=by omega
  simp[w9,h,h',va]
 ·have h':¬ (o:Int)<fl.length:=by omega
  simp[w9,h,h',va]
theorem aiE : ue Tryz.prog xP "saleroom/prooftree.proves" = some xM := by kernel_rfl
theorem aiG : ue Tryz.prog xG "saleroom/prooftree.proves" = some xA := by kernel_rfl
theorem aiF : ue Tryz.prog xa "saleroom/prooftree.proves" = some xh := by kernel_rfl
theorem aiZ:yy Tryz.prog xM=true:=by kernel_rfl
theorem ai1:yy Tryz.prog xA=true:=by kernel_rfl
theorem ai0:yy Tryz.prog xh=true:=by kernel_rfl
noncomputable def jm (P:Pb) (value:Int) (fl:List Int) (N:Nz):Bool:=if N.K=2 then brB fl N else if N.K=3 then cfB P fl else bdB P value fl N
theorem Ks {N:Nz} (h:okZ N=true):N.K=1∨N.K=2∨N.K=3:=by
 unfold okZ at h
 by_cases h1:N.K=1
 ·exact .inl h1
 ·by_cases h2:N.K=2
  ·exact .inr (.inl h2)
  ·by_cases h3:N.K=3
   ·exact .inr (.inr h3)
   ·rw[if_neg h1,if_neg h2,if_neg h3] at h; cases h
theorem adv {N:Nz} (h:okZ N=true) (hk:N.K=2):0≤N.O∧N.O≤65536:=by
 unfold okZ at h
 rw[if_neg (by omega),if_pos hk] at h
 simp only[Bool.and_eq_true] at h
 have:=qO h.1.1.1
 omega
theorem FB {N:Nz} (h:okZ N=true):N.P.length≤40:=by
 unfold okZ at h
 by_cases h1:N.K=1
 ·rw[if_pos h1] at h
  simp only[Bool.and_eq_true,decide_eq_true_eq] at h
  exact h.1.2
 ·rw[if_neg h1] at h
  by_cases h2:N.K=2
  ·rw[if_pos h2] at h
   simp only[Bool.and_eq_true,decide_eq_true_eq] at h
   rw[h.2]; decide
  ·rw[if_neg h2] at h
   split at h
   ·simp only[Bool.and_eq_true,decide_eq_true_eq] at h
    rw[h.2]; decide
   ·cases h
theorem ab9 {P:Pb} {value:Int} {fl:List Int} {N:Nz} {σ:Nat→Option zf} {K:AV→Option zf→Prop} {x:AV} (hc:P.chk=0) (hk:P.of.length≤10) (hf:fl.length≤1000000) (hN:eK N) (hz:okZ N=true) (h1:-9223372036854775808≤value) (h2:value<9223372036854775808)
  (hx : vv σ x = some (clA fl)) (h : K (bv (jm P value fl N)) none) : tp "saleroom/prooftree.proves" (ofZ N) [.agg (pbC P), iv value, x] σ K := by
 have hsn:yQ (vv σ) [.agg (zc N),.agg (pbC P),iv value,x]=some [.agg (zc N),.agg (pbC P),iv value,clA fl]:=by
  simp[hx]
 have hlen:=FB hz
 unfold ofZ
 unfold jm at h
 rcases Ks hz with k1 | k2 | k3
 ·rw[if_neg (by omega),if_neg (by omega)] at h
  simp only[k1,if_true]
  simp only[tp,aiE,aiZ]
  exact ⟨trivial,za (BM hc hk hN (by omega) h1 h2) hsn (.inr rfl) h⟩
 ·rw[if_pos k2] at h
  rw[if_neg (by omega),if_pos k2]
  simp only[tp,aiG,ai1]
  exact ⟨trivial,za (BO (adv hz k2).1) hsn (.inr rfl) h⟩
 ·rw[if_neg (by omega),if_pos k3] at h
  rw[if_neg (by omega),if_neg (by omega),if_pos k3]
  simp only[tp,aiF,ai0]
  exact ⟨trivial,za (BN hc hf) hsn (.inr rfl) h⟩
end Go.Proofs.YtpnliopaifpimaaGreat

namespace Go.Tr
section
variable {T:Nt} {n i j k x u v:Nat} {g:Nat→Int}
theorem aa4 (h:yx T) (h1:1≤x) (hx:x<T.m):fxS T n x x g=fxS T n (par T T.m x).toNat (par T T.m x).toNat (put g n (T.O (par T T.m x).toNat) (if T.U (par T T.m x).toNat=x then -1 else 1)):=by
 obtain ⟨j',h2,h3,_,_⟩:=xf h h1 hx
 obtain ⟨e,rfl⟩:∃ e,x=e+1:=⟨x-1,by omega⟩
 simp only[fxS]
 rw[if_neg (by omega),h2,Int.toNat_natCast,LM h e j' _ (by omega) (by omega)]
def gA (T:Nt) (n i:Nat):Nat→Nat→Int
 | 0=>fun _=>0
 | q+1=>put (gA T n i q) n (T.O (anc T i (q+1))) (if T.U (anc T i (q+1))=anc T i q then -1 else 1)
theorem CN (h:yx T) (hi:i<T.m):∀ q,q<dep T i→fx T n i=fxS T n (anc T i q) (anc T i q) (gA T n i q)
 | 0,_=>rfl
 | q+1,hq=>by
  obtain ⟨p1,p2⟩:=bJ (j:=q) h hi (by omega)
  rw[CN h hi q (by omega),aa4 h p1 p2]
  rfl
theorem Fb (h:yx T) (hi:i<T.m) (hj:j+1=dep T i):gA T n i j=fx T n i:=by
 rw[CN h hi j (by omega),aD h hi hj]
 rfl
theorem BR {o:Nat} {s:Int} (h:o<n):put g n o s=fun y=>if y=o then s else g y:=by
 funext y
 unfold put
 by_cases e:y=o
 ·rw[if_pos e,if_pos ⟨by omega,by omega⟩]
 ·rw[if_neg e,if_neg (by omega)]
theorem FF {o:Nat} {s:Int} (h:¬ o<n):put g n o s=g:=by
 funext y
 unfold put
 rw[if_neg (by omega)]
theorem DL (h:yx T) (hi:i<T.m):∀ q,q<dep T i→anc T i q≤i
 | 0,_=>Nat.le_refl _
 | q+1,hq=>by
  obtain ⟨p1,p2⟩:=bJ (j:=q) h hi (by omega)
  obtain ⟨p,h2,h3,_⟩:=xf h p1 p2
  have:=DL h hi q (by omega)
  show (par T T.m (anc T i q)).toNat≤i
  rw[h2,Int.toNat_natCast]
  omega
theorem Nw (h:yx T) (h1:1≤x) (hx:x<T.m):∃ p o:Nat,par T T.m x=p∧p<x∧T.K p=2∧T.O p=o∧(T.U p=x∨(T.I p=x∧T.U p≠x)):=by
 obtain ⟨p,h2,h3,h4,_⟩:=xf h h1 hx
 obtain ⟨k2,hs⟩:=AX h (by omega) h4
 have ho:=h.ok p (by omega)
 have hr:rng (T.O p):=by
  rcases ho with a | a | a
  ·omega
  ·exact a.2.1
  ·omega
 unfold rng at hr
 refine ⟨p,(T.O p).toNat,h2,h3,k2,by omega,?_⟩
 rcases hs with a | a
 ·exact .inl a.1
 ·exact .inr ⟨a.1,a.2⟩
def upP (T:Nt) (i k:Nat):Int:=if 1≤k∧par T T.m k<i then par T T.m k else 0
def upI (T:Nt) (i k:Nat):Bool:=decide (1≤k∧par T T.m k<i)&&decide (T.U (par T T.m k).toNat≠k)
theorem af6 (h:yx T) (h1:1≤k) (hk:k<T.m) (hi:k≤i):upP T i k=par T T.m k∧upI T i k=decide (T.U (par T T.m k).toNat≠k):=by
 obtain ⟨p,h2,h3,_⟩:=xf h h1 hk
 have hc:1≤k∧par T T.m k<i:=⟨h1,by omega⟩
 unfold upP upI
 rw[if_pos hc,decide_eq_true hc,Bool.true_and]
 exact ⟨rfl,rfl⟩
theorem af8 (h:yx T) (hk:k<T.m):upP T 0 k=0∧upI T 0 k=false:=by
 have hc:¬ (1≤k∧par T T.m k<(0:Nat)):=by
  rintro ⟨h1,h2⟩
  obtain ⟨p,h3,_⟩:=xf h h1 hk
  omega
 unfold upP upI
 rw[if_neg hc,decide_eq_false hc,Bool.false_and]
 exact ⟨rfl,rfl⟩
theorem af7 (h:yx T) (hi:i<T.m) (hK:T.K i≠2) (hk:k<T.m):upP T (i+1) k=upP T i k∧upI T (i+1) k=upI T i k:=by
 have hc:(1≤k∧par T T.m k<((i+1:Nat):Int))↔(1≤k∧par T T.m k<i):=by
  constructor
  ·rintro ⟨h1,h2⟩
   refine ⟨h1,?_⟩
   obtain ⟨p,h3,_,h4,_⟩:=xf h h1 hk
   apply Classical.byContradiction
   intro hne
   have:p=i:=by omega
   subst this
   have:=ce hK k
   omega
  ·rintro ⟨h1,h2⟩
   exact ⟨h1,by omega⟩
 unfold upP upI
 simp only[hc]
 exact ⟨trivial,trivial⟩
theorem A3 (h:yx T) (hi:i<T.m) (hK:T.K i=2) (hu:T.U i=u) (hv:T.I i=v) (hne:u≠v) (hk:k<T.m) :
  upP T (i+1) k=(if k=v then (i:Int) else if k=u then (i:Int) else upP T i k)∧upI T (i+1) k=(if k=v then true else if k=u then false else upI T i k):=by
 have hpk:∀ x,x=u∨x=v→i<x∧par T T.m x=i:=fun x hx=>by
  have h0:kid T i x≠0:=by
   rcases hx with rfl | rfl
   ·have:=Mz hK hu; omega
   ·have:=My hK hv; omega
  exact ⟨(eS h hi h0).1,Y6 h hi h0⟩
 by_cases e:k=v
 ·subst e
  obtain ⟨a,b⟩:=hpk k (.inr rfl)
  have hc:1≤k∧par T T.m k<((i+1:Nat):Int):=⟨by omega,by omega⟩
  unfold upP upI
  rw[if_pos hc,decide_eq_true hc,if_pos rfl,if_pos rfl,b,Int.toNat_natCast,hu]
  exact ⟨rfl,by rw[decide_eq_true (show ((u:Nat):Int)≠k by omega)]; rfl⟩
 ·by_cases e2:k=u
  ·subst e2
   obtain ⟨a,b⟩:=hpk k (.inl rfl)
   have hc:1≤k∧par T T.m k<((i+1:Nat):Int):=⟨by omega,by omega⟩
   unfold upP upI
   rw[if_pos hc,decide_eq_true hc,if_neg e,if_neg e,if_pos rfl,if_pos rfl,b,Int.toNat_natCast,hu]
   exact ⟨rfl,by rw[decide_eq_false (show ¬ ((k:Nat):Int)≠k by omega)]; rfl⟩
  ·rw[if_neg e,if_neg e,if_neg e2,if_neg e2]
   have hc:(1≤k∧par T T.m k<((i+1:Nat):Int))↔(1≤k∧par T T.m k<i):=by
    constructor
    ·rintro ⟨h1,h2⟩
     refine ⟨h1,?_⟩
     obtain ⟨p,h3,_,h4,_⟩:=xf h h1 hk
     apply Classical.byContradiction
     intro hne
     have:p=i:=by omega
     subst this
     have h0:=Ud (T:=T) (k:=p) (i:=k) (by omega)
     rcases h0.2 with a | a<;>omega
    ·rintro ⟨h1,h2⟩
     exact ⟨h1,by omega⟩
   unfold upP upI
   simp only[hc]
   exact ⟨trivial,trivial⟩
end
end Go.Tr

set_option maxRecDepth 20000
namespace Go.Proofs.YtpnliopaifpimaaGreat
open Go Go.Am Go.Wr Go.Dig Go.Tr Go.LP Go.Pb
def uR (f:Nat→Int) (b:Nat→Bool) (n:Nat):List (List AV):=mR (fun k=>[iv (f k),bv (b k)]) n
section
variable {f:Nat→Int} {b:Nat→Bool} {n i k:Nat} {e:zf}
@[simp] theorem alQ:(uR f b n).length=n:=Rz
@[simp] theorem ak8 {hi:i<(uR f b n).length}:(uR f b n)[i]=[iv (f i),bv (b i)]:=QT
theorem ahK {x:Int} {y:Bool}:(uR f b n).set i [iv x,bv y]=uR (upd f i x) (upd b i y) n:=by
 unfold uR
 rw[C8]
 exact eT fun j _=>by unfold upd; split<;>rfl
theorem Sv {g:Nat→Int} {c:Nat→Bool} (h:∀ i,i<n→f i=g i∧b i=c i):uR f b n=uR g c n:=eT fun i hi=>by rw[(h i hi).1,(h i hi).2]
theorem ahJ:List.replicate n [iv 0,bv false]=uR (fun _=>0) (fun _=>false) n:=by
 unfold uR mR
 apply List.ext_getElem
 ·simp
 ·intro i h1 h2
  simp
@[simp] theorem amq:yC k (uR f b n)=uR f b n:=bZ fun _=>by simp
@[simp] theorem alR:uH k (uR f b n)=false:=C7 fun _=>by simp
@[simp] theorem amr:wh (uR f b n)=true:=Ka fun _=>by simp
@[simp] theorem ams:zT (uR f b n)=uR f b n:=bZ fun _=>by simp
end
def ZK (P:Pb) (T:List Nz) (value:Int) (i:Nat) (c:List AV) (u:Nat→Int) (b:Nat→Bool) (f:Nat→Int) (k:Nat):St :=
 {env:=[(1,iv value),(2,.list 5 .plain (zI T)),(3,.ptr 3 0),(7,.sl 15 2 0 T.length),(16,.list 5 .plain (zI T)),(17,iv T.length),(18,iv i),(9,.ptr 9 0),(8,iv i),(10,.sl 26 1 0 P.of.length),(11,iv k)],
  sto:=[(3,.var (pbC P)),(15,.arr 2 (uR u b T.length)),(9,.var c),(26,.arr 1 (zR f P.of.length))]}
theorem CD {P:Pb} {T:List Nz} {value:Int} {i:Nat} {N:Nz} {KK:Exit→St→Prop} (hTr:yx (ntZ T)) (hi:i<T.length) (_hn:P.of.length≤1000000)
  (h:∀ f:Nat→Int,f=fx (ntZ T) P.of.length i→KK (.exit 2) {env:=[(1,iv value),(2,.list 5 .plain (zI T)),(3,.ptr 3 0),(7,.sl 15 2 0 T.length),(16,.list 5 .plain (zI T)),(17,iv T.length),(18,iv i),(9,.ptr 9 0),(8,iv i),(10,.sl 26 1 0 P.of.length),(11,iv 0),(29,bv false)],sto:=[(3,.var (pbC P)),(15,.arr 2 (uR (upP (ntZ T) i) (upI (ntZ T) i) T.length)),(9,.var (zc N)),(26,.arr 1 (zR f P.of.length))]}) :
  awp Tryz.prog (.loop xS) (ZK P T value i (zc N) (upP (ntZ T) i) (upI (ntZ T) i) (fun _=>0) i) KK:=by
 have ht:=hTr.most
 rw[gJ] at ht
 have hdp:=bT (T:=ntZ T) (i:=i)
 refine zw (fun q=>ZK P T value i (zc N) (upP (ntZ T) i) (upI (ntZ T) i) (gA (ntZ T) P.of.length i q) (anc (ntZ T) i q)) (fun _=>True) (dep (ntZ T) i-1) (by simp[ZK,gA,anc]) trivial (fun q hq _=>?_) (fun _=>?_)
 ·obtain ⟨p1,p2⟩:=bJ (j:=q) hTr hi (by omega)
  obtain ⟨p,o,a1,a2,a3,a4,a5⟩:=Nw hTr p1 p2
  have hle:anc (ntZ T) i q≤i:=DL hTr hi q (by omega)
  obtain ⟨u1,u2⟩:=af6 (i:=i) hTr p1 p2 hle
  have hA2:anc (ntZ T) i (q+1)=p:=by
   show (par (ntZ T) (ntZ T).m (anc (ntZ T) i q)).toNat=p
   rw[a1,Int.toNat_natCast]
  have hg:gA (ntZ T) P.of.length i (q+1)=put (gA (ntZ T) P.of.length i q) P.of.length (o:Int) (if (ntZ T).U p=anc (ntZ T) i q then -1 else 1):=by
   show put _ _ ((ntZ T).O (anc (ntZ T) i (q+1))) (if (ntZ T).U (anc (ntZ T) i (q+1))=_ then _ else _)=_
   rw[hA2,a4]
  rw[a1] at u1
  rw[a1,Int.toNat_natCast] at u2
  have hpm:p<T.length:=by have:anc (ntZ T) i q<T.length:=p2; omega
  have hAm:anc (ntZ T) i q<T.length:=p2
  have hO:=abD hpm
  rw[a4] at hO
  generalize upP (ntZ T) i=uP at *
  generalize upI (ntZ T) i=uI at *
  generalize he:T[p]=M at *
  have hA0:0<anc (ntZ T) i q:=by omega
  have hA':(anc (ntZ T) i q:Int)<T.length:=by omega
  have hpm':(p:Int)<T.length:=by omega
  by_cases ho:o<P.of.length
  ·have ho':(o:Int)<P.of.length:=by omega
   rw[BR ho] at hg
   by_cases hs:(ntZ T).U p=anc (ntZ T) i q
   ·rw[decide_eq_false (fun h=>h hs)] at u2
    rw[if_pos hs] at hg
    have hgu:upd (gA (ntZ T) P.of.length i q) o (-1)=gA (ntZ T) P.of.length i (q+1):=by rw[hg]; rfl
    simp[xS,ZK,hA0,hA',hAm,u1,u2,hpm,hpm',he,← hO,ho,ho',splice,k6,hgu,hA2]
   ·rw[decide_eq_true hs] at u2
    rw[if_neg hs] at hg
    have hgu:upd (upd (gA (ntZ T) P.of.length i q) o (-1)) o 1=gA (ntZ T) P.of.length i (q+1):=by rw[hg]; funext y; unfold upd; split<;>rfl
    simp[xS,ZK,hA0,hA',hAm,u1,u2,hpm,hpm',he,← hO,ho,ho',splice,k6,hgu,hA2]
  ·have ho':¬ (o:Int)<P.of.length:=by omega
   rw[FF ho] at hg
   simp[xS,ZK,hA0,hA',hAm,u1,u2,hpm,hpm',he,← hO,ho',hg,hA2]
 ·have h0:=aD (j:=dep (ntZ T) i-1) hTr hi (by omega)
  have h1:=Fb (n:=P.of.length) (j:=dep (ntZ T) i-1) hTr hi (by omega)
  rw[h0,h1]
  simp[xS,ZK]
  exact h _ rfl
end Go.Proofs.YtpnliopaifpimaaGreat
