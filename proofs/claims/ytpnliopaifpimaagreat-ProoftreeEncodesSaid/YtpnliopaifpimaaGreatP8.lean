/- What the proof rests on, part 8: WA Dig N0 IM N1 N2 N3c Dig2 N4f WB WA2 GA WE RS WG WA3 WH N1v N5 Dig3 Dig4 N6 N7 N8 N9 N10 Dig5 N11 N6b N12. -/
import Derived.Test.YtpnliopaifpimaaGreatP7
set_option maxRecDepth 100000
set_option maxHeartbeats 4000000
namespace Go.Wr
def str (l:List UInt8):ByteArray:=⟨l.toArray⟩
theorem td {l:List UInt8}:(str l).size=l.length:=by simp[str,ByteArray.size]
theorem afC {a b:List UInt8} (h:str a=str b):a=b:=by
 have:=congrArg (fun x=>x.data.toList) h
 simpa [str] using this
theorem afA {a b:List UInt8}:str a++str b=str (a++b):=by
 apply ByteArray.ext
 simp[str]
theorem afB {l:List UInt8} {i j:Nat}:(str l).extract i j=str ((l.take j).drop i):=by
 apply ByteArray.ext
 simp[str,List.extract_eq_take_drop,List.drop_take]
def enc (x:Nat):List UInt8:=if x<128 then [UInt8.ofNat x] else UInt8.ofNat (x%128+128)::enc (x/128)
termination_by x
decreasing_by omega
theorem bU {x:Nat} (h:x<128):enc x=[UInt8.ofNat x]:=by rw[enc,if_pos h]
theorem Rf {x:Nat} (h:¬ x<128):enc x=UInt8.ofNat (x%128+128)::enc (x/128):=by rw[enc,if_neg h]
def dec (i x:Nat):List UInt8→Nat × Nat × List UInt8
 | []=>(1,0,[])
 | b::l=>if i=9∧1<b.toNat then (2,0,[]) else if 128≤b.toNat then dec (i+1) (x+b.toNat%128*128^i) l
   else if b.toNat=0∧0<i then (2,0,[]) else (0,x+b.toNat * 128^i,l)
theorem byte_of {n:Nat} (h:n<256):(UInt8.ofNat n).toNat=n:=by
 simp only[UInt8.toNat_ofNat']
 exact Nat.mod_eq_of_lt h
theorem ago {i:Nat} (h:i≤9):i=0∨i=1∨i=2∨i=3∨i=4∨i=5∨i=6∨i=7∨i=8∨i=9:=by omega
theorem adZ {l:List UInt8} (n:Nat):∀ i x,(i=0∨0<n)→i≤9→n*128^i<18446744073709551616→dec i x (enc n++l)=(0,x+n*128^i,l):=by
 induction n using Nat.strongRecOn with
 | _ n ih =>
  intro i x h0 hi hb
  by_cases h:n<128
  ·rw[bU h]
   have hn:(UInt8.ofNat n).toNat=n:=byte_of (by omega)
   simp only[List.cons_append,List.nil_append,dec,hn]
   rw[if_neg,if_neg (by omega),if_neg (by omega)]
   rintro ⟨rfl,h1⟩
   omega
  ·rw[Rf h]
   have hn:(UInt8.ofNat (n%128+128)).toNat=n%128+128:=byte_of (by omega)
   have h9:i≠9:=by rintro rfl; omega
   simp only[List.cons_append,dec,hn]
   rw[if_neg (by omega),if_pos (by omega)]
   have e:n/128*128^(i+1)+n%128*128^i=n*128^i:=by
    have hh:=Nat.div_add_mod n 128
    have e1:n/128*128^(i+1)=128*(n/128)*128^i:=by rw[Nat.pow_succ,← Nat.mul_assoc,Nat.mul_comm (n/128*128^i) 128,← Nat.mul_assoc]
    rw[e1,← Nat.add_mul,hh]
   rw[ih (n/128) (by omega) (i+1) _ (.inr (by omega)) (by omega) (by omega)]
   have e2:(n%128+128)%128=n%128:=by omega
   rw[e2]
   congr 2
   omega
theorem NN {c n i:Nat} (hc:c<128) (h9:i≠9) (hi:i≤9) (h:n*128^(i+1)<18446744073709551616):c*128^i+n*128^(i+1)<18446744073709551616:=by
 obtain ⟨M,hM⟩:∃ M,18446744073709551616=M*128^(i+1):=by
  rcases ago hi with rfl | rfl | rfl | rfl | rfl | rfl | rfl | rfl | rfl | rfl
  ·exact ⟨144115188075855872,by decide⟩
  ·exact ⟨1125899906842624,by decide⟩
  ·exact ⟨8796093022208,by decide⟩
  ·exact ⟨68719476736,by decide⟩
  ·exact ⟨536870912,by decide⟩
  ·exact ⟨4194304,by decide⟩
  ·exact ⟨32768,by decide⟩
  ·exact ⟨256,by decide⟩
  ·exact ⟨2,by decide⟩
  ·exact absurd rfl h9
 rw[hM] at h ⊢
 have h1:n+1≤M:=Nat.lt_of_mul_lt_mul_right h
 have h2:(n+1)*128^(i+1)≤M*128^(i+1):=Nat.mul_le_mul_right _ h1
 have h3:c*128^i<128*128^i:=Nat.mul_lt_mul_of_pos_right hc (Nat.pow_pos (by omega))
 have h4:128^(i+1)=128*128^i:=by rw[Nat.pow_succ,Nat.mul_comm]
 rw[Nat.add_mul] at h2
 omega
theorem GY:∀ {l:List UInt8} {i x y:Nat} {l':List UInt8},dec i x l=(0,y,l')→i≤9→∃ n,y=x+n*128^i∧l=enc n++l'∧(i=0∨0<n)∧n*128^i<18446744073709551616
 | [],i,x,y,l',h,_=>by simp[dec] at h
 | b::l,i,x,y,l',h,hi=>by
  have hb:b.toNat<256:=b.toNat_lt
  have hbb:UInt8.ofNat b.toNat=b:=by simp
  unfold dec at h
  split at h
  ·simp at h
  ·rename_i h1
   split at h
   ·rename_i h2
    have h9:i≠9:=by omega
    obtain ⟨n,e1,e2,e3,e4⟩:=GY h (by omega)
    have hn:0<n:=by omega
    have e:(b.toNat%128+128*n)*128^i=b.toNat%128*128^i+n*128^(i+1):=by
     rw[Nat.add_mul,Nat.pow_succ,Nat.mul_comm (128^i) 128,← Nat.mul_assoc,Nat.mul_comm n 128]
    refine ⟨b.toNat%128+128*n,?_,?_,.inr (by omega),?_⟩
    ·rw[e]; omega
    ·rw[Rf (by omega)]
     have a1:(b.toNat%128+128*n)/128=n:=by omega
     have a2:(b.toNat%128+128*n)%128+128=b.toNat:=by omega
     rw[a1,a2,hbb,e2]; rfl
    ·rw[e]
     exact NN (by omega) h9 hi e4
   ·rename_i h2
    split at h
    ·simp at h
    ·rename_i h3
     simp only[Prod.mk.injEq,true_and] at h
     obtain ⟨rfl,rfl⟩:=h
     refine ⟨b.toNat,rfl,?_,by omega,?_⟩
     ·rw[bU (by omega),hbb]; rfl
     ·by_cases h9:i=9
      ·subst h9
       have:b.toNat≤1:=by omega
       generalize b.toNat=c at this
       omega
      ·have:=NN (c:=b.toNat) (n:=0) (by omega) h9 hi (by omega)
       omega
abbrev Rd:=Nat × List UInt8
def zL (most:Nat) (s:Rd):Nat × Rd :=
 if s.1≠0 then (0,(s.1,[])) else if (dec 0 0 s.2).1=0 then (if most<(dec 0 0 s.2).2.1 then (0,(4,[])) else ((dec 0 0 s.2).2.1,(0,(dec 0 0 s.2).2.2))) else (0,((dec 0 0 s.2).1,[]))
theorem adj {most:Nat} {s:Rd} (h:s.1≠0):zL most s=(0,(s.1,[])):=by unfold zL; rw[if_pos h]
theorem t0 {most n:Nat} {l:List UInt8} (h:n≤most) (h2:n<18446744073709551616):zL most (0,enc n++l)=(n,(0,l)):=by
 have:=adZ (l:=l) n 0 0 (.inl rfl) (by omega) (by omega)
 simp only[Nat.pow_zero,Nat.mul_one,Nat.zero_add] at this
 unfold zL
 simp only[this,ne_eq,not_true,if_false,if_true]
 rw[if_neg (by omega)]
theorem qR {most:Nat} {s:Rd}:(zL most s).1≤most∧(zL most s).1<18446744073709551616:=by
 unfold zL
 split
 ·exact ⟨Nat.zero_le _,by show 0<18446744073709551616; omega⟩
 ·split
  ·rename_i h1
   split
   ·exact ⟨Nat.zero_le _,by show 0<18446744073709551616; omega⟩
   ·rename_i h2
    obtain ⟨n,e1,e2,_,e4⟩:=GY (l:=s.2) (i:=0) (x:=0) (y:=(dec 0 0 s.2).2.1) (l':=(dec 0 0 s.2).2.2) (Prod.ext h1 (Prod.ext rfl rfl)) (by omega)
    simp only[Nat.pow_zero,Nat.mul_one,Nat.zero_add] at e1 e4
    exact ⟨by omega,by simp only[e1]; exact e4⟩
  ·exact ⟨Nat.zero_le _,by show 0<18446744073709551616; omega⟩
def nums (most:Nat):Nat→Rd→List Nat × Rd
 | 0,s=>([],s)
 | k+1,s=>if s.1≠0 then ([],s) else ((zL most s).1::(nums most k (zL most s).2).1,(nums most k (zL most s).2).2)
theorem TX {most:Nat}:∀ {k:Nat} {s:Rd},(nums most k s).1.length≤k
 | 0,s=>by simp[nums]
 | k+1,s=>by
  unfold nums
  split
  ·simp
  ·simpa using TX (most:=most)
theorem Kn {most k:Nat} {s:Rd} (h:s.1≠0):nums most k s=([],s):=by
 cases k with
 | zero=>rfl
 | succ k=>unfold nums; rw[if_pos h]
theorem Ko {most:Nat} {l:List UInt8} (hm:most<18446744073709551616):∀ {a:List Nat},(∀ d∈a,d≤most)→nums most a.length (0,a.flatMap enc++l)=(a,(0,l))
 | [],_=>rfl
 | d::a,h=>by
  have e:(d::a).flatMap enc++l=enc d++(a.flatMap enc++l):=by simp
  have:=t0 (most:=most) (l:=a.flatMap enc++l) (h d (by simp)) (by have:=h d (by simp); omega)
  simp only[List.length_cons,nums,e,this,ne_eq,not_true,if_false,Ko hm (a:=a) fun d hd=>h d (by simp[hd])]
end Go.Wr

namespace Go.Dig
def B:Nat:=4294967296
theorem z9:B=4294967296:=rfl
theorem zX:0<B:=by decide
theorem uy (k:Nat):0<B^k:=Nat.pow_pos zX
def val:List Nat→Nat
 | []=>0
 | d::l=>d+B*val l
def ok (l:List Nat):Prop:=∀ d∈l,d<B
def zh (x:Nat):List Nat:=if x=0 then [] else x%B::zh (x/B)
termination_by x
decreasing_by exact Nat.div_lt_self (by omega) (by decide)
theorem yz:zh 0=[]:=by rw[zh]; rfl
theorem jn {x:Nat} (h:x≠0):zh x=x%B::zh (x/B):=by rw[zh,if_neg h]
theorem zJ (x:Nat):val (zh x)=x:=by
 induction x using Nat.strongRecOn with
 | ind x ih =>
  by_cases h:x=0
  ·subst h; rw[yz]; rfl
  ·rw[jn h,val,ih _ (Nat.div_lt_self (by omega) (by decide))]
   exact Nat.mod_add_div x B
theorem zx (x:Nat):ok (zh x):=by
 induction x using Nat.strongRecOn with
 | ind x ih =>
  by_cases h:x=0
  ·subst h; rw[yz]; intro d hd; cases hd
  ·rw[jn h]
   intro d hd
   rcases List.mem_cons.1 hd with rfl | hd
   ·exact Nat.mod_lt _ zX
   ·exact ih _ (Nat.div_lt_self (by omega) (by decide)) d hd
theorem xj {x:Nat}:zh x=[]↔x=0:=by
 constructor
 ·intro h; have:=zJ x; rw[h] at this; exact this.symm
 ·rintro rfl; exact yz
theorem Lm {x y:Nat} (h:zh x=zh y):x=y:=by rw[← zJ x,h,zJ]
theorem Kt:ok []:=fun _ h=>by cases h
theorem QY {d:Nat} {l:List Nat}:ok (d::l)↔d<B∧ok l:=by simp[ok]
theorem Y5 {a b:List Nat}:ok (a++b)↔ok a∧ok b:=by
 constructor
 ·intro h; exact ⟨fun d hd=>h d (by simp[hd]),fun d hd=>h d (by simp[hd])⟩
 ·rintro ⟨h1,h2⟩ d hd
  rcases List.mem_append.1 hd with hd | hd
  ·exact h1 d hd
  ·exact h2 d hd
theorem sx {a:List Nat} (h:ok a) (k:Nat):ok (a.take k):=fun d hd=>h d (List.mem_of_mem_take hd)
theorem QZ {a:List Nat} (h:ok a) (k:Nat):ok (a.drop k):=fun d hd=>h d (List.mem_of_mem_drop hd)
theorem RI {a:List Nat} (h:ok a) {k x:Nat} (hx:x<B):ok (a.set k x):=fun d hd=>by
 rcases List.mem_or_eq_of_mem_set hd with hd | rfl
 ·exact h d hd
 ·exact hx
theorem Ku (n:Nat):ok (List.replicate n 0):=fun d hd=>by
 rw[List.eq_of_mem_replicate hd]; exact zX
theorem xv {a:List Nat} (h:ok a) {k:Nat} (hk:k<a.length):a[k]<B:=h _ (List.getElem_mem hk)
theorem val_append (a b:List Nat):val (a++b)=val a+B^a.length*val b:=by
 induction a with
 | nil=>simp[val]
 | cons d a ih=>simp only[List.cons_append,val,ih,List.length_cons,Nat.pow_succ,Nat.mul_add]; rw[Nat.mul_comm (B^a.length) B,Nat.mul_assoc]; omega
theorem UE (n:Nat):val (List.replicate n 0)=0:=by
 induction n with
 | zero=>rfl
 | succ n ih=>simp[List.replicate_succ,val,ih]
theorem uC {a:List Nat} (h:ok a):val a<B^a.length:=by
 induction a with
 | nil=>simp[val]
 | cons d a ih =>
  have h1:=(QY.1 h).1
  have h2:=ih (QY.1 h).2
  simp only[val,List.length_cons,Nat.pow_succ]
  have:B*(val a+1)≤B*B^a.length:=Nat.mul_le_mul_left _ h2
  rw[Nat.mul_add] at this
  rw[Nat.mul_comm (B^a.length)]
  omega
theorem yS {a:List Nat} (h:ok a) {n:Nat} (hn:a.length≤n):val a<B^n :=
 Nat.lt_of_lt_of_le (uC h) (Nat.pow_le_pow_right zX hn)
theorem tE (a:List Nat) (k:Nat):val a=val (a.take k)+B^(min k a.length)*val (a.drop k):=by
 have:=val_append (a.take k) (a.drop k)
 rwa [List.take_append_drop,List.length_take] at this
theorem x7 {a:List Nat} {k:Nat} (hk:k<a.length):val (a.take (k+1))=val (a.take k)+B^k*a[k]:=by
 rw[List.take_succ_eq_append_getElem hk,val_append,List.length_take,Nat.min_eq_left (by omega)]
 simp[val]
theorem Jz {a:List Nat} (h:ok a) {k:Nat} (hk:k≤a.length):val (a.take k)=val a%B^k:=by
 have h1:=tE a k
 have h2:=uC (sx h k)
 rw[List.length_take,Nat.min_eq_left hk] at h2
 rw[Nat.min_eq_left hk] at h1
 rw[h1,Nat.add_mul_mod_self_left,Nat.mod_eq_of_lt h2]
theorem Sw {a:List Nat} (h:ok a) {k:Nat} (hk:k≤a.length):val (a.drop k)=val a/B^k:=by
 have h1:=tE a k
 have h2:=uC (sx h k)
 rw[List.length_take,Nat.min_eq_left hk] at h2
 rw[Nat.min_eq_left hk] at h1
 rw[h1,Nat.add_mul_div_left _ _ (uy k),Nat.div_eq_of_lt h2,Nat.zero_add]
theorem js {a:List Nat} (h:ok a) {k:Nat} (hk:k<a.length):a[k]=val a/B^k%B:=by
 rw[← Sw h (by omega),List.drop_eq_getElem_cons hk,val,Nat.add_mul_mod_self_left,Nat.mod_eq_of_lt (xv h hk)]
def zt (n x:Nat):List Nat:=(List.range n).map fun i=>x/B^i%B
theorem zy {n x:Nat}:(zt n x).length=n:=by simp[zt]
theorem ut {n x k:Nat} (hk:k<(zt n x).length):(zt n x)[k]=x/B^k%B:=by simp[zt]
theorem yM {n x:Nat}:ok (zt n x):=fun d hd=>by
 simp only[zt,List.mem_map] at hd
 obtain ⟨i,_,rfl⟩:=hd
 exact Nat.mod_lt _ zX
theorem YK {a:List Nat} (h:ok a):zt a.length (val a)=a:=by
 apply List.ext_getElem
 ·simp[zt]
 ·intro i h1 h2
  rw[ut,← js h h2]
theorem qi {n x:Nat}:zt (n+1) x=zt n x++[x/B^n%B]:=by
 simp[zt,List.range_succ]
theorem cJ {n x:Nat}:val (zt n x)=x%B^n:=by
 induction n with
 | zero=>simp[zt,val,Nat.mod_one]
 | succ n ih =>
  rw[qi,val_append,ih,zy,Nat.pow_succ,Nat.mod_mul]
  simp[val]
theorem UD {a b:List Nat} (ha:ok a) (hb:ok b) (hl:a.length=b.length) (hv:val a=val b):a=b:=by
 rw[← YK ha,← YK hb,hl,hv]
def vo (n k S:Nat):List Nat:=zt k S++List.replicate (n-k) 0
theorem ff {n S:Nat}:vo n 0 S=List.replicate n 0:=by simp[vo,zt]
theorem d8 {n k S:Nat} (hk:k≤n):(vo n k S).length=n:=by simp[vo,zy]; omega
theorem YO {n S:Nat}:vo n n S=zt n S:=by simp[vo]
theorem ca {n k S:Nat} (hk:k<n):(vo n k S).set k (S/B^k%B)=vo n (k+1) S:=by
 unfold vo
 obtain ⟨m,hm⟩:∃ m,n-k=m+1:=⟨n-k-1,by omega⟩
 have hm2:n-(k+1)=m:=by omega
 rw[hm,hm2,qi,List.set_append_right _ _ (by rw[zy]; exact Nat.le_refl _),zy,Nat.sub_self,List.replicate_succ,List.set_cons_zero]
 simp
theorem yq {n x:Nat} (h:x<B^n):val (zt n x)=x:=by rw[cJ,Nat.mod_eq_of_lt h]
theorem G1 {a:List Nat} (h:ok a) (hn:∀ hk:0<a.length,a[a.length-1]≠0):zh (val a)=a:=by
 induction a with
 | nil=>exact yz
 | cons d a ih =>
  have h1:=QY.1 h
  by_cases ha:a=[]
  ·subst ha
   have:d≠0:=hn (by simp)
   have h2:(d+B*0)=d:=by omega
   simp only[val,h2]
   rw[jn this,Nat.mod_eq_of_lt h1.1,Nat.div_eq_of_lt h1.1,yz]
  ·have hpos:0<a.length:=by
    rcases a with _ | ⟨x,a⟩
    ·exact absurd rfl ha
    ·simp
   have hlast:∀ hk:0<a.length,a[a.length-1]≠0:=fun _=>by
    have:=hn (by simp)
    simp only[List.length_cons,Nat.add_sub_cancel] at this
    rw[List.getElem_cons] at this
    rw[dif_neg (by omega)] at this
    exact this
   have ih:=ih h1.2 hlast
   have hne:val a≠0:=by
    intro h0
    rw[h0,yz] at ih
    exact ha ih.symm
   have h0:d+B*val a≠0:=by
    have:0<B*val a:=Nat.mul_pos zX (by omega)
    omega
   simp only[val]
   rw[jn h0,Nat.add_mul_mod_self_left,Nat.mod_eq_of_lt h1.1,Nat.add_mul_div_left _ _ zX,Nat.div_eq_of_lt h1.1,Nat.zero_add,ih]
theorem d6 {x:Nat} (h:0<(zh x).length):(zh x)[(zh x).length-1]≠0:=by
 induction x using Nat.strongRecOn with
 | ind x ih =>
  by_cases h0:x=0
  ·subst h0; rw[yz] at h; simp at h
  ·have e:=jn h0
   by_cases h1:x/B=0
   ·have e2:zh x=[x%B]:=by rw[e,h1,yz]
    simp only[e2,List.length_singleton,Nat.sub_self,List.getElem_cons_zero]
    have:x<B:=by
     rcases Nat.lt_or_ge x B with h | h
     ·exact h
     ·have:=Nat.div_pos h zX; omega
    rw[Nat.mod_eq_of_lt this]; exact h0
   ·have hp:0<(zh (x/B)).length:=by
     rw[jn h1]; simp
    have:=ih _ (Nat.div_lt_self (by omega) (by decide)) hp
    simp only[e,List.length_cons,Nat.add_sub_cancel]
    rw[List.getElem_cons,dif_neg (by omega)]
    exact this
theorem zE {x n:Nat}:(zh x).length≤n↔x<B^n:=by
 constructor
 ·intro h
  have:=yS (zx x) h
  rwa [zJ] at this
 ·intro h
  rcases Nat.lt_or_ge n (zh x).length with hlt | hge
  ·exfalso
   have hp:0<(zh x).length:=by omega
   have h1:=d6 hp
   have h2:=js (zx x) (k:=(zh x).length-1) (by omega)
   rw[zJ] at h2
   have h3:x/B^((zh x).length-1)=0:=by
    apply Nat.div_eq_of_lt
    exact Nat.lt_of_lt_of_le h (Nat.pow_le_pow_right zX (by omega))
   rw[h3] at h2
   exact h1 h2
  ·exact hge
theorem c8 {x n:Nat}:n<(zh x).length↔B^n≤x:=by
 have:=@zE x n
 omega
theorem AU {a:List Nat} (h:ok a) {n:Nat} (hn:n≤a.length) (h0:∀ k (hk:k<a.length),n≤k→a[k]=0) (h1:∀ hk:0<n,a[n-1]'(by omega)≠0):a.take n=zh (val a):=by
 have hz:a.drop n=List.replicate (a.length-n) 0:=by
  apply List.ext_getElem
  ·simp
  ·intro i hi hj
   simp only[List.getElem_drop,List.getElem_replicate]
   exact h0 _ _ (by omega)
 have hv:val a=val (a.take n):=by
  rw[tE a n,hz,UE]; omega
 rw[hv]
 refine (G1 (sx h n) fun hk=>?_).symm
 simp only[List.length_take,Nat.min_eq_left hn] at hk ⊢
 simp only[List.getElem_take]
 exact h1 hk
theorem wR {a:List Nat} (h:ok a):(zh (val a)).length≤a.length:=zE.2 (uC h)
def itr {σ:Type} (f:Nat→σ→σ) (s:σ):Nat→σ
 | 0=>s
 | k+1=>f k (itr f s k)
theorem mF {x i:Nat} (h:i<(zh x).length):(zh x)[i]=x/B^i%B:=by
 rw[js (zx x) h,zJ]
theorem YX {a:List Nat} (h:ok a):(zh (val a)).length≤a.length∧(∀ i (hi:i<a.length),(zh (val a)).length≤i→a[i]=0) ∧
  (∀ (_h0:0<(zh (val a)).length) (h1:(zh (val a)).length-1<a.length),a[(zh (val a)).length-1]≠0)∧a.take (zh (val a)).length=zh (val a):=by
 have h1:=wR h
 have h2:∀ i (hi:i<a.length),(zh (val a)).length≤i→a[i]=0:=fun i hi hle=>by
  rw[js h hi]
  have h3:=zE.1 hle
  rw[Nat.div_eq_of_lt h3]
  rfl
 have h3:∀ (h0:0<(zh (val a)).length) (h1:(zh (val a)).length-1<a.length),a[(zh (val a)).length-1]≠0:=fun h0 h4=>by
  rw[js h h4,← mF (by omega)]
  exact d6 h0
 exact ⟨h1,h2,h3,AU h h1 (fun k hk hle=>h2 k hk hle) (fun h0=>h3 h0 (by omega))⟩
theorem US {a b:List Nat} (ha:ok a) (_hb:ok b) (hl:a.length=b.length) {k:Nat} (hk:k<a.length) (heq:a.drop (k+1)=b.drop (k+1)) (hlt:a[k]<b[k]'(by omega)):val a<val b:=by
 have e1:=tE a (k+1)
 have e2:=tE b (k+1)
 rw[heq] at e1
 rw[Nat.min_eq_left (by omega)] at e1 e2
 have t1:=x7 hk
 have t2:=x7 (a:=b) (k:=k) (by omega)
 have l1:=uC (sx ha k)
 rw[List.length_take,Nat.min_eq_left (by omega)] at l1
 have:B^k*(a[k]+1)≤B^k*b[k]'(by omega):=Nat.mul_le_mul_left _ hlt
 rw[Nat.mul_add] at this
 omega
theorem cm {x y:Nat} (h:(zh x).length<(zh y).length):x<y:=by
 have h1:=zE.1 (Nat.le_refl (zh x).length)
 have h2:=c8.1 h
 omega
theorem dZ {L t R k:Nat}:(L+B^k*t+B^(k+1)*R)/B^k%B=(L/B^k+t)%B:=by
 have:L+B^k*t+B^(k+1)*R=L+B^k*(t+B*R):=by rw[Nat.pow_succ,Nat.mul_add,Nat.mul_assoc]; omega
 rw[this,Nat.add_mul_div_left _ _ (uy k),← Nat.add_assoc,Nat.add_mul_mod_self_left]
theorem dY {L t k:Nat}:(L+B^k*t)/B^(k+1)=(L/B^k+t)/B:=by
 rw[Nat.pow_succ,← Nat.div_div_eq_div_mul,Nat.add_mul_div_left _ _ (uy k)]
def bor (x y k:Nat):Nat:=if x%B^k<y%B^k then 1 else 0
theorem SH {x y k:Nat}:bor x y k≤1:=by unfold bor; split<;>omega
theorem aH {x y:Nat}:bor x y 0=0:=by simp[bor,Nat.mod_one]
theorem afE {x y P:Nat} (hP:0<P) (h:y≤x):(x-y)/P=x/P-y/P-(if x%P<y%P then 1 else 0)∧y/P+(if x%P<y%P then 1 else 0)≤x/P:=by
 have e1:=Nat.div_add_mod x P
 have e2:=Nat.div_add_mod y P
 have l1:=Nat.mod_lt x hP
 have l2:=Nat.mod_lt y hP
 have hq:y/P≤x/P:=Nat.div_le_div_right h
 generalize x/P=a at *
 generalize y/P=b at *
 generalize x%P=r at *
 generalize y%P=s at *
 obtain ⟨c,rfl⟩:∃ c,a=b+c:=⟨a-b,by omega⟩
 rw[Nat.mul_add] at e1
 by_cases hlt:r<s
 ·simp only[hlt,if_true]
  rcases c with _ | c
  ·simp at e1; omega
  ·rw[Nat.mul_add,Nat.mul_one] at e1
   have:x-y=P*c+(P+r-s):=by omega
   rw[this,Nat.mul_add_div hP,Nat.div_eq_of_lt (by omega)]
   omega
 ·simp only[hlt,if_false]
  have:x-y=P*c+(r-s):=by omega
  rw[this,Nat.mul_add_div hP,Nat.div_eq_of_lt (by omega)]
  omega
theorem cG {x y k:Nat} (h:y≤x):(((x-y)/B^k%B:Nat):Int)=((x/B^k%B:Nat)-(y/B^k%B:Nat)-(bor x y k:Nat):Int)%4294967296:=by
 obtain ⟨h1,h2⟩:=afE (uy k) h
 have e:(if x%B^k<y%B^k then 1 else 0)=bor x y k:=rfl
 rw[e] at h1 h2
 rw[h1]
 generalize x/B^k=a at *
 generalize y/B^k=b at *
 generalize bor x y k=c at *
 rw[z9]
 omega
theorem aG {x y k:Nat}:bor x y (k+1)=if x/B^k%B<y/B^k%B+bor x y k then 1 else 0:=by
 unfold bor
 rw[Nat.pow_succ,Nat.mod_mul,Nat.mod_mul]
 have l1:=Nat.mod_lt x (uy k)
 have l2:=Nat.mod_lt y (uy k)
 generalize x/B^k%B=a
 generalize y/B^k%B=b
 generalize x%B^k=r at *
 generalize y%B^k=s at *
 generalize B^k=P at *
 rcases Nat.lt_trichotomy a b with h | h | h
 ·have:P*(a+1)≤P*b:=Nat.mul_le_mul_left _ h
  rw[Nat.mul_add] at this
  rw[if_pos (by omega),if_pos (by omega)]
 ·subst h
  by_cases hrs:r<s
  ·rw[if_pos (by omega),if_pos (by rw[if_pos hrs]; omega)]
  ·rw[if_neg (by omega),if_neg (by rw[if_neg hrs]; omega)]
 ·have:P*(b+1)≤P*a:=Nat.mul_le_mul_left _ h
  rw[Nat.mul_add] at this
  rw[if_neg (by omega),if_neg (by split<;>omega)]
theorem CO {x i:Nat}:(zh x)[i]?.getD 0=x/B^i%B:=by
 by_cases h:i<(zh x).length
 ·rw[List.getElem?_eq_getElem h,Option.getD_some,mF h]
 ·rw[List.getElem?_eq_none (by omega),Option.getD_none]
  have:=zE.1 (Nat.le_of_not_lt h)
  rw[Nat.div_eq_of_lt this]; rfl
end Go.Dig

namespace Go.Proofs.YtpnliopaifpimaaGreat
open Go Go.Am Go.Dig
theorem zm {k:Nat} (h:k<4611686018427387904):IntKind.i64.wrap ((k:Int)+1)=((k+1:Nat):Int):=by
 rw[wrap64]<;>omega
abbrev uv (n:Nat):AV:=.val (.int .u32 (n:Int))
abbrev zD (a:List Nat):List (List AV):=a.map fun d=>[uv d]
abbrev nl (m:Am.Mode) (a:List Nat):AV:=.list 1 m (zD a)
abbrev nD (x:Nat):AV:=nl .plain (zh x)
theorem qn {sz:Nat} {rows:List (List AV)}:AV.imp (.list sz .full rows) (.list sz .plain rows):=fun I w v h=>by
 cases h with
 | listNil _ _ a cap hm ho=>exact .listNil _ _ a cap (by simp) (by simp)
 | list _ _ _ b o cap g hcap hm ho hrow hcell hc=>exact .list _ _ _ b o cap g hcap (by simp) (by simp) hrow hcell hc
theorem jt {sz:Nat} {rows:List (List AV)}:AV.imp (Zt sz rows) (.list sz .plain rows):=by
 unfold Zt
 by_cases h:rows=[]
 ·subst h; simp only[if_true]; exact AV.imp_nil rfl
 ·simp only[h,if_false]; exact AV.imp.refl
theorem w32 (n:Nat):IntKind.u32.wrap (n:Int)=((n%B:Nat):Int):=by
 rw[IntKind.wrap_u32,z9]; omega
theorem w64 {n:Nat} (h:n<18446744073709551616):IntKind.u64.wrap (n:Int)=n:=IntWalk.u64_in n (by omega)
theorem vb {n:Int} (h:0≤n) (h2:n<18446744073709551616):IntKind.u64.wrap n=n:=IntWalk.u64_in n (by omega)
abbrev uw:AV:=.list 0 .full []
theorem YV {sz:Nat} {m:Am.Mode} {rows:List (List AV)} (h:stm m=m):AV.imp (.list sz m rows) (.list sz .plain rows):=by
 cases m with
 | plain=>exact AV.imp.refl
 | full=>exact qn
 | own l=>cases h
def kF (xs ys:List AV):Prop:=xs.length=ys.length∧∀ (i:Nat) x y,xs[i]?=some x→ys[i]?=some y→AV.imp x y
theorem tT:kF [] []:=⟨rfl,fun i x y h=>by simp at h⟩
theorem z6 {x y:AV} {xs ys:List AV} (h:AV.imp x y) (hs:kF xs ys):kF (x::xs) (y::ys) :=
 ⟨by simp[hs.1],fun i a b ha hb=>by
  cases i with
  | zero=>simp only[List.getElem?_cons_zero,Option.some.injEq] at ha hb; subst ha hb; exact h
  | succ i=>simp only[List.getElem?_cons_succ] at ha hb; exact hs.2 i a b ha hb⟩
theorem CR {xs:List AV}:kF xs xs:=⟨rfl,fun i x y h h'=>by rw[h] at h'; cases h'; exact AV.imp.refl⟩
theorem rS {α:Type} {l:List α} {i:Nat} (h:i<l.length):l[i]?=some l[i]:=by simp[h]
theorem X8 {xs ys:List AV} (h:kF xs ys):AV.imp (.agg xs) (.agg ys):=fun I w v hv=>by
 cases hv with
 | agg _ vs hs h1 hc =>
  refine .agg _ vs (by rw[hs,h.1]) h1 fun i c hi=>?_
  have:i<xs.length:=by rw[h.1]; exact (List.getElem?_eq_some_iff.1 hi).1
  exact h.2 i _ c (rS this) hi _ _ _ (hc i _ (rS this))
theorem QL {xs ys:List AV} (h:kF xs ys):AV.imp (.tuple xs) (.tuple ys):=fun I w v hv=>by
 cases hv with
 | tuple _ vs hs hc =>
  refine .tuple _ vs (by rw[hs,h.1]) fun i c hi=>?_
  have:i<xs.length:=by rw[h.1]; exact (List.getElem?_eq_some_iff.1 hi).1
  exact h.2 i _ c (rS this) hi _ _ _ (hc i _ (rS this))
def QM (xs ys:List (List AV)):Prop:=xs.length=ys.length∧∀ (i:Nat) x y,xs[i]?=some x→ys[i]?=some y→kF x y
theorem TK:QM [] []:=⟨rfl,fun i x y h=>by simp at h⟩
theorem pF {x y:List AV} {xs ys:List (List AV)} (h:kF x y) (hs:QM xs ys):QM (x::xs) (y::ys) :=
 ⟨by simp[hs.1],fun i a b ha hb=>by
  cases i with
  | zero=>simp only[List.getElem?_cons_zero,Option.some.injEq] at ha hb; subst ha hb; exact h
  | succ i=>simp only[List.getElem?_cons_succ] at ha hb; exact hs.2 i a b ha hb⟩
theorem Zh {sz:Nat} {m:Am.Mode} {xs ys:List (List AV)} (hm:stm m=m) (h:QM xs ys):AV.imp (.list sz m xs) (.list sz .plain ys):=fun I w v hv=>by
 have hv:=YV hm I w v hv
 cases hv with
 | listNil _ _ a cap _ _ =>
  have:ys=[]:=List.eq_nil_of_length_eq_zero (by rw[← h.1]; rfl)
  subst this
  exact .listNil _ _ _ _ (fun h=>by cases h) (fun _ h=>by cases h)
 | list _ _ _ b o cap g hcap hm' ho hrow hcell hc =>
  have get:∀ (i:Nat) r,ys[i]?=some r→∃ r0,xs[i]?=some r0∧kF r0 r:=fun i r hi=>by
   have:i<xs.length:=by rw[h.1]; exact (List.getElem?_eq_some_iff.1 hi).1
   exact ⟨xs[i],rS this,h.2 i _ r (rS this) hi⟩
  rw[h.1]
  refine .list _ _ _ b o cap g (by rw[← h.1]; exact hcap) (fun h=>by cases h) (fun _ h=>by cases h) (fun i r hi=>?_) (fun i r j c hi hj=>?_) fun i r j c hi hj=>?_
  ·obtain ⟨r0,h1,h2⟩:=get i r hi
   rw[← h2.1]; exact hrow i r0 h1
  ·obtain ⟨r0,h1,h2⟩:=get i r hi
   have hj0:j<r0.length:=by rw[h2.1]; exact (List.getElem?_eq_some_iff.1 hj).1
   exact hcell i r0 j _ h1 (rS hj0)
  ·obtain ⟨r0,h1,h2⟩:=get i r hi
   have hj0:j<r0.length:=by rw[h2.1]; exact (List.getElem?_eq_some_iff.1 hj).1
   exact h2.2 j _ c (rS hj0) hj _ _ _ (hc i r0 j _ h1 (rS hj0))
noncomputable def apc (tok sz:Nat) (rows:List (List AV)):AV:=if rows.length=0 then uw else .list sz (.own tok) rows
noncomputable def plc (sz:Nat) (rows:List (List AV)):AV:=if rows.length=0 then uw else .list sz .plain rows
section
variable {tok sz l k:Nat} {rows:List (List AV)}
theorem Qs (h:rows.length=0):apc tok sz rows=uw:=if_pos h
@[simp] theorem ald:rf (apc tok sz rows)=true:=by unfold apc; split<;>rfl
@[simp] theorem ajz:strip (apc tok sz rows)=plc sz rows:=by unfold apc plc; split<;>rfl
@[simp] theorem ajB:cellsOf (apc tok sz rows)=some [apc tok sz rows]:=by unfold apc; split<;>rfl
@[simp] theorem akL {σ:Nat→Option zf}:vv σ (apc tok sz rows)=some (plc sz rows):=by unfold apc plc; split<;>rfl
@[simp] theorem aj9:zP k (apc tok sz rows)=false:=by unfold apc; split<;>rfl
@[simp] theorem ajC:cellsOf (plc sz rows)=some [plc sz rows]:=by unfold plc; split<;>rfl
@[simp] theorem alP:rf (plc sz rows)=true:=by unfold plc; split<;>rfl
@[simp] theorem ajY:strip (plc sz rows)=plc sz rows:=by unfold plc; split<;>rfl
@[simp] theorem alO:dg l (plc sz rows)=plc sz rows:=by unfold plc; split<;>simp
@[simp] theorem akF:zP k (plc sz rows)=false:=by unfold plc; split<;>rfl
theorem fJ {rows':List (List AV)} (h:QM rows rows'):AV.imp (plc sz rows) (.list sz .plain rows'):=by
 unfold plc
 split
 ·rename_i h0
  have:rows'=[]:=List.eq_nil_of_length_eq_zero (by rw[← h.1]; exact h0)
  subst this
  exact AV.imp_nil rfl
 ·exact Zh rfl h
end
@[simp] theorem ajE {tok sz:Nat} {rows:List (List AV)} {K:AV→Option zf→Prop}:jR false K (apc tok sz rows)=K (.val (.int .i64 rows.length)) none:=by
 unfold apc; split
 ·rename_i h; rw[h]; simp[jR]
 ·simp[jR]
theorem v8 {sz i:Nat} {m:Am.Mode} {rows:List (List AV)} {K:AV→Option zf→Prop} (h:i<rows.length):vA sz [.list sz m rows,iv i] K=K (.ro rows[i]) none:=by
 have h1:(i:Int)<rows.length:=by omega
 simp[vA,h1,h]
theorem lA {rows:List (List AV)}:QM rows rows:=⟨rfl,fun i x y h h'=>by rw[h] at h'; cases h'; exact CR⟩
theorem Az {f:FuncId} {args:List AV} {r r':AV} (h:ze Tryz.prog f args r) (hr:AV.imp r r'):ze Tryz.prog f args r':=fun I vs w h1 h2 h3 =>
 Calls.mono (h I vs w h1 h2 h3) fun _ _ ⟨v,e,hb,hv⟩=>⟨v,e,hb,hr _ _ _ hv⟩
theorem s6 {f:FuncId} {xs ys:List AV} {r:AV} (h:ze Tryz.prog f ys r) (hi:kF xs ys):ze Tryz.prog f xs r:=fun I vs w h1 h2 h3 =>
 h I vs w h1 (by rw[h2,hi.1]) fun i y hy=>by
  have hx:i<xs.length:=by rw[hi.1]; exact (List.getElem?_eq_some_iff.1 hy).1
  exact hi.2 i _ y (rS hx) hy _ _ _ (h3 i _ (rS hx))
theorem Mv {a a':AV} (h:AV.imp a a'):kF [a] [a']:=z6 h tT
theorem adq {a a' b b':AV} (h:AV.imp a a') (h2:AV.imp b b'):kF [a,b] [a',b']:=z6 h (z6 h2 tT)
theorem Mw {a a' b b' c c':AV} (h:AV.imp a a') (h2:AV.imp b b') (h3:AV.imp c c'):kF [a,b,c] [a',b',c']:=z6 h (z6 h2 (z6 h3 tT))
def Je (m:Am.Mode) (a:List Nat) (k:Nat):St:={env:=[(0,nl m a),(3,iv ((a.length-k:Nat):Int))],sto:=[]}
theorem xt {m:Am.Mode} {a:List Nat} (ha:ok a) (hn:a.length<1099511627776):ze Tryz.prog xU [nl m a] (nD (val a)):=by
 obtain ⟨h1,h2,h3,h4⟩:=YX ha
 refine wW ac7 (by simp) ?_
 simp[M1]
 generalize hT:(zh (val a)).length=T at h1 h2 h3 h4
 refine yl (Je m a) (a.length-T) ?_ (fun k hk=>?_) ?_
 ·simp[Je]
 ·have hp:0<a.length-k:=by omega
  have hp2:k<a.length:=by omega
  have w:IntKind.i64.wrap (((a.length-k:Nat):Int)-1)=((a.length-(k+1):Nat):Int):=by rw[wrap64]<;>omega
  have hlt:a.length-(k+1)<a.length:=by omega
  have hz:=h2 (a.length-(k+1)) hlt (by omega)
  simp[jL,Je,hp,w,hlt,hz]
 ·have e:a.length-(a.length-T)=T:=by omega
  rcases T with _ | T
  ·have h5:zh (val a)=[]:=by rw[← h4]; rfl
   simp[jL,Je,cW,T5]
   rw[show nD (val a)=.list 1 .plain [] by simp only[nD,nl,zD,h5,List.map_nil]]
   exact qn
  ·have w:IntKind.i64.wrap (((T+1:Nat):Int)-1)=(T:Int):=by rw[wrap64]<;>omega
   have hz:=h3 (by omega) (by omega)
   simp only[Nat.add_sub_cancel] at hz
   have hlt:T<a.length:=by omega
   have ht:List.take (T+1) (zD a)=zD (zh (val a)):=by rw[← h4]; simp
   have en:((T:Int)+1).toNat=T+1:=by omega
   have e0:(0:Int)≤(T:Int)+1:=by omega
   have e1:(T:Int)+1≤a.length:=by omega
   simp at w
   simp[jL,Je,e,w,hlt,hz,e0,e1,en,cW,T5]
   first | (rw[ht]; exact qn) | (simp only[← List.map_take]; rw[h4]; exact qn)
theorem JB (n:Int):IntKind.u64.wrap n=n%18446744073709551616:=by simp[IntKind.wrap,IntKind.bits,IntKind.signed]
abbrev zU (n:Nat):AV:=.val (.int .u64 (n:Int))
theorem ZH (n:Nat):(n:Int).fdiv (2^min 32 IntKind.u64.bits)=((n/B:Nat):Int):=by
 have:min 32 IntKind.u64.bits=32:=rfl
 rw[this,Int.fdiv_eq_ediv_of_nonneg _ (by decide),z9]
 rfl
theorem xH {a:List Nat} {k d:Nat}:(zD a).set k [uv d]=zD (a.set k d):=by simp[List.map_set]
theorem pV {b:List Nat} {k:Nat} (h:b.length≤k):val (b.take k)=val b:=by rw[List.take_of_length_le h]
theorem Th {a:List Nat} (h:ok a) (k:Nat):val (a.take k)<B^k:=yS (sx h k) (by simp; omega)
def low (a b:List Nat) (k:Nat):Nat:=val (a.take k)+val (b.take k)
def car (a b:List Nat) (k:Nat):Nat:=low a b k/B^k
theorem S6 {a b:List Nat} (ha:ok a) (hb:ok b) (k:Nat):car a b k≤1:=by
 have h1:=Th ha k
 have h2:=Th hb k
 have:low a b k<2*B^k:=by unfold low; omega
 have:=Nat.div_lt_of_lt_mul (Nat.mul_comm 2 _▸this)
 unfold car
 omega
theorem Tt {a b:List Nat}:car a b 0=0:=by simp[car,low,val]
theorem Nk {a b:List Nat} {k t R:Nat} (h:low a b (k+1)=low a b k+B^k*t) (hs:val a+val b=low a b (k+1)+B^(k+1)*R) :
  (val a+val b)/B^k%B=(car a b k+t)%B∧car a b (k+1)=(car a b k+t)/B:=by
 constructor
 ·rw[hs,h,dZ]; rfl
 ·unfold car; rw[h,dY]
theorem abl (a b:List Nat) (k:Nat) (ha:k≤a.length) (hb:k≤b.length∨b.length≤k):∃ R,val a+val b=low a b k+B^k*R:=by
 have e1:=tE a k
 rw[Nat.min_eq_left ha] at e1
 rcases hb with hb | hb
 ·have e2:=tE b k
  rw[Nat.min_eq_left hb] at e2
  exact ⟨val (a.drop k)+val (b.drop k),by unfold low; rw[Nat.mul_add]; omega⟩
 ·exact ⟨val (a.drop k),by unfold low; rw[pV hb]; omega⟩
theorem Qq {a b:List Nat} {k:Nat} (hk:k<a.length) (hb:k<b.length∨b.length≤k):∃ t,t=car a b k+(a[k]+(b[k]?.getD 0))∧(val a+val b)/B^k%B=t%B∧car a b (k+1)=t/B:=by
 refine ⟨_,rfl,?_⟩
 obtain ⟨R,hR⟩:=abl a b (k+1) (by omega) (by omega)
 rcases hb with hb | hb
 ·rw[List.getElem?_eq_getElem hb,Option.getD_some]
  exact Nk (by unfold low; rw[x7 hk,x7 hb,Nat.mul_add]; omega) hR
 ·rw[List.getElem?_eq_none hb,Option.getD_none]
  exact Nk (by unfold low; rw[x7 hk,pV hb,pV (show b.length≤k+1 by omega)]; simp; omega) hR
def jU (m1 m2:Am.Mode) (a b:List Nat) (k:Nat):St :=
 {env:=[(0,nl m1 a),(1,nl m2 b),(5,.sl 19 1 0 (a.length+1)),(6,zU (car a b k)),(21,iv a.length),(22,iv k)],sto:=[(19,.arr 1 (zD (vo (a.length+1) k (val a+val b))))]}
theorem MP {m1 m2:Am.Mode} {a b:List Nat} (ha:ok a) (hb:ok b) (hl:b.length≤a.length) (hn:a.length<1099511627775) :
  awp Tryz.prog (.loop lX) (jU m1 m2 a b 0) (vi 0 (pS Tryz.prog aJ (ZB Q4 (nD (val a+val b))))):=by
 have hS:val a+val b<B^(a.length+1):=by
  have h1:=uC ha
  have h2:=yS hb hl
  rw[Nat.pow_succ,z9] at *
  omega
 refine zw (jU m1 m2 a b) (fun _=>True) a.length (by simp[jU]) trivial (fun k hk _=>?_) (fun _=>?_)
 ·have e:(k:Int)<a.length:=by omega
  have hc:=S6 ha hb k
  have hak:=xv ha hk
  have hfl:=d8 (n:=a.length+1) (k:=k) (S:=val a+val b) (by omega)
  have hfk:k<(vo (a.length+1) k (val a+val b)).length:=by omega
  have hset:=ca (n:=a.length+1) (k:=k) (S:=val a+val b) (by omega)
  have e1:IntKind.u64.wrap ((a[k]:Nat):Int)=(a[k]:Nat):=w64 (by rw[z9] at hak; omega)
  obtain ⟨t,ht,g1,g2⟩:=Qq (a:=a) (b:=b) hk (by omega)
  rw[g1] at hset
  obtain ⟨d,hd⟩:∃ d,t%B=d:=⟨_,rfl⟩
  obtain ⟨q,hq⟩:∃ q,t/B=q:=⟨_,rfl⟩
  have f1:IntKind.u32.wrap (t:Int)=(d:Int):=by rw[w32,hd]
  have f2:(t:Int).fdiv (2^min 32 IntKind.u64.bits)=(q:Int):=by rw[ZH,hq]
  rw[hd] at hset
  have hset':(zD (vo (a.length+1) k (val a+val b))).set k [uv d]=zD (vo (a.length+1) (k+1) (val a+val b)):=by rw[xH,hset]
  rw[hq] at g2
  rw[z9] at hak
  have e4:IntKind.u64.wrap ((a[k]:Int)+(car a b k:Int))=((a[k]:Int)+(car a b k:Int)):=by rw[vb]<;>omega
  by_cases hkb:k<b.length
  ·have e2:(k:Int)<b.length:=by omega
   have hbk:=xv hb hkb
   rw[z9] at hbk
   rw[List.getElem?_eq_getElem hkb,Option.getD_some] at ht
   have e3:IntKind.u64.wrap ((b[k]:Nat):Int)=(b[k]:Nat):=w64 (by omega)
   have e5:IntKind.u64.wrap ((a[k]:Int)+(car a b k:Int)+(b[k]:Int))=(t:Int):=by rw[vb]<;>omega
   simp[lX,jU,e,e2,hk,hkb,e1,e3,e4,e5,wG,hfk,splice,f1,f2,hset',g2,zm (show k<4611686018427387904 by omega)]
   omega
  ·have e2:¬ (k:Int)<b.length:=by omega
   rw[List.getElem?_eq_none (by omega),Option.getD_none] at ht
   have e5:(a[k]:Int)+(car a b k:Int)=(t:Int):=by omega
   rw[e5] at e4
   simp[lX,jU,e,e2,hk,e1,e5,e4,wG,hfk,splice,f1,f2,hset',g2,zm (show k<4611686018427387904 by omega)]
   omega
 ·have hfl:=d8 (n:=a.length+1) (k:=a.length) (S:=val a+val b) (by omega)
  have hfk:a.length<(vo (a.length+1) a.length (val a+val b)).length:=by omega
  have hset:=ca (n:=a.length+1) (k:=a.length) (S:=val a+val b) (by omega)
  have hc:=S6 ha hb a.length
  have hcl:(val a+val b)/B^a.length%B=car a b a.length:=by
   have h1:car a b a.length=(val a+val b)/B^a.length:=by
    unfold car low; rw[pV (Nat.le_refl _),pV hl]
   rw[← h1,Nat.mod_eq_of_lt (by rw[z9]; omega)]
  rw[hcl] at hset
  have hset':(zD (vo (a.length+1) a.length (val a+val b))).set a.length [uv (car a b a.length)]=zD (zt (a.length+1) (val a+val b)):=by rw[xH,hset,YO]
  have f1:IntKind.u32.wrap (car a b a.length:Int)=(car a b a.length:Int):=IntWalk.u32_in _ (by omega)
  have hle:a.length+1≤(zt (a.length+1) (val a+val b)).length:=by rw[zy]; exact Nat.le_refl _
  have htk:(zD (zt (a.length+1) (val a+val b))).take (a.length+1)=zD (zt (a.length+1) (val a+val b)):=List.take_of_length_le (by rw[List.length_map,zy]; exact Nat.le_refl _)
  have key:=xt (m:=.plain) (a:=zt (a.length+1) (val a+val b)) yM (by rw[zy]; omega)
  rw[yq hS] at key
  simp[lX,jU,aJ,hfk,splice,f1,hset',qK,rR,htk,hle]
  refine ⟨by omega,?_⟩
  refine za key (by simp) (by simp) ?_
  simp[Q4]
  exact AV.imp.refl
theorem dF {m1 m2:Am.Mode} {a b:List Nat} (ha:ok a) (hb:ok b) (hna:a.length<1099511627775) (hnb:b.length<1099511627775):ze Tryz.prog fw [nl m1 a,nl m2 b] (nD (val a+val b)):=by
 refine wW afK (by simp) ?_
 by_cases h:a.length<b.length
 ·have h':(a.length:Int)<b.length:=by omega
  have w:IntKind.i64.wrap ((b.length:Int)+1)=(b.length:Int)+1:=wrap64 (by omega) (by omega)
  have key:=MP (m1:=m2) (m2:=m1) hb ha (by omega) (by omega)
  rw[Nat.add_comm (val b)] at key
  have e1:((b.length:Int)+1).toNat=b.length+1:=by omega
  simp[Qw,h',w,eMk,e1]
  refine ⟨by omega,by omega,by omega,?_⟩
  have e2:jU m2 m1 b a 0={env:=[(0,nl m2 b),(1,nl m1 a),(5,.sl 19 1 0 (b.length+1)),(6,zU 0),(21,iv b.length),(22,iv 0)],sto:=[(19,.arr 1 (List.replicate (b.length+1) [uv 0]))]}:=by
   simp[jU,Tt,ff]
  rw[e2] at key
  exact key
 ·have h':¬ (a.length:Int)<b.length:=by omega
  have w:IntKind.i64.wrap ((a.length:Int)+1)=(a.length:Int)+1:=wrap64 (by omega) (by omega)
  have key:=MP (m1:=m1) (m2:=m2) ha hb (by omega) (by omega)
  have e1:((a.length:Int)+1).toNat=a.length+1:=by omega
  simp[Qw,h',w,eMk,e1]
  refine ⟨by omega,by omega,by omega,?_⟩
  have e2:jU m1 m2 a b 0={env:=[(0,nl m1 a),(1,nl m2 b),(5,.sl 19 1 0 (a.length+1)),(6,zU 0),(21,iv a.length),(22,iv 0)],sto:=[(19,.arr 1 (List.replicate (a.length+1) [uv 0]))]}:=by
   simp[jU,Tt,ff]
  rw[e2] at key
  exact key
def xk (x y:Nat):Int:=if x<y then -1 else if y<x then 1 else 0
def Us (x y:Nat) (k:Nat):St:={env:=[(0,nD x),(1,nD y),(22,iv (zh x).length),(23,iv k)],sto:=[]}
theorem j9 {m1 m2:Am.Mode} {a b:List Nat} (ha:ok a) (hb:ok b) (hna:a.length<1099511627776) (hnb:b.length<1099511627776):ze Tryz.prog mU [nl m1 a,nl m2 b] (iv (xk (val a) (val b))):=by
 refine zn afL (by simp) ?_
 simp[GG]
 refine za (xt (m:=stm m1) ha hna) (by simp[nw]) (by simp) ?_
 simp
 refine za (xt (m:=stm m2) hb hnb) (by simp[nw]) (by simp) ?_
 have lx:=wR ha
 have ly:=wR hb
 generalize val a=x at *
 generalize val b=y at *
 by_cases hl:(zh x).length=(zh y).length
 ·have hl':(((zh x).length:Nat):Int)=((zh y).length:Int):=by omega
  simp[hl']
  refine zw (Us x y) (fun k=>(zh x).drop ((zh x).length-k)=(zh y).drop ((zh x).length-k)) (zh x).length (by simp[Us,hl]) (by simp[hl]) (fun k hk hi=>?_) (fun hi=>?_)
  ·have e:(k:Int)<(zh x).length:=by omega
   have w:IntKind.i64.wrap (((zh x).length:Int)-1-k)=(((zh x).length-1-k:Nat):Int):=by rw[wrap64]<;>omega
   have w0:IntKind.i64.wrap (((zh x).length:Int)-1)=((zh x).length:Int)-1:=by rw[wrap64]<;>omega
   obtain ⟨j,hj⟩:∃ j,(zh x).length-1-k=j:=⟨_,rfl⟩
   rw[hj] at w
   have hjx:j<(zh x).length:=by omega
   have hjy:j<(zh y).length:=by omega
   have ejx:(j:Int)<(zh x).length:=by omega
   have ejy:(j:Int)<(zh y).length:=by omega
   have hd:(zh x).drop (j+1)=(zh y).drop (j+1):=by
    have:j+1=(zh x).length-k:=by omega
    rw[this]; exact hi
   rcases Nat.lt_trichotomy (zh x)[j] (zh y)[j] with h | h | h
   ·have hlt:=US (zx x) (zx y) hl hjx hd h
    rw[zJ,zJ] at hlt
    have hc:xk x y=-1:=by simp[xk,hlt]
    simp[lY,Us,e,w0,w,hjx,hjy,ejx,ejy,h,fK,hc]
   ·have hnext:(zh x).drop ((zh x).length-(k+1))=(zh y).drop ((zh x).length-(k+1)):=by
     have:(zh x).length-(k+1)=j:=by omega
     rw[this,List.drop_eq_getElem_cons hjx,List.drop_eq_getElem_cons hjy,h,hd]
    simp[lY,Us,e,w0,w,hjx,hjy,ejx,ejy,h,zm (show k<4611686018427387904 by omega),hnext]
   ·have hlt:=US (zx y) (zx x) hl.symm hjy hd.symm h
    rw[zJ,zJ] at hlt
    have hn:¬ (zh x)[j]<(zh y)[j]:=by omega
    have hc:xk x y=1:=by
     have:¬ x<y:=by omega
     simp[xk,hlt,this]
    simp[lY,Us,e,w0,w,hjx,hjy,ejx,ejy,h,hn,fK,hc]
  ·have hxy:x=y:=Lm (by simpa using hi)
   have hc:xk x y=0:=by simp[xk,hxy]
   simp[lY,Us,SR,fK,hc]
 ·have hl':¬ (((zh x).length:Nat):Int)=((zh y).length:Int):=by omega
  by_cases hlt:(zh x).length<(zh y).length
  ·have hlt':(((zh x).length:Nat):Int)<((zh y).length:Int):=by omega
   have hc:xk x y=-1:=by simp[xk,cm hlt]
   simp[hl',hlt',fK,hc]
  ·have hlt':¬ (((zh x).length:Nat):Int)<((zh y).length:Int):=by omega
   have h2:=cm (show (zh y).length<(zh x).length by omega)
   have hc:xk x y=1:=by
    have:¬ x<y:=by omega
    simp[xk,h2,this]
   simp[hl',hlt',fK,hc]
theorem adm (u v:Int):IntKind.u64.wrap (IntKind.u64.wrap u-v)=IntKind.u64.wrap (u-v):=by
 rw[JB,JB,JB]; omega
theorem MI (u:Int):IntKind.u32.wrap (IntKind.u64.wrap u)=u%4294967296:=by
 rw[JB,IntKind.wrap_u32]; omega
theorem MF {u:Int} (h1:-8589934592≤u) (h2:u<8589934592):(IntKind.u64.wrap u).fdiv (2^min 63 IntKind.u64.bits)=if u<0 then 1 else 0:=by
 have:min 63 IntKind.u64.bits=63:=rfl
 rw[this,Int.fdiv_eq_ediv_of_nonneg _ (by decide),JB]
 have:(2:Int)^63=9223372036854775808:=by decide
 rw[this]
 split<;>omega
end Go.Proofs.YtpnliopaifpimaaGreat

namespace Go.Dig
theorem UF {o:List Nat} {j d:Nat} (hj:j<o.length):val (o.set j d)+B^j*o[j]=val o+B^j*d:=by
 induction o generalizing j with
 | nil=>simp at hj
 | cons x o ih =>
  rcases j with _ | j
  ·simp[val]; omega
  ·simp only[List.length_cons,Nat.add_lt_add_iff_right] at hj
   have:=ih hj
   simp only[List.set_cons_succ,val,List.getElem_cons_succ,Nat.pow_succ]
   have e1:B^j*B*o[j]=B*(B^j*o[j]):=by rw[Nat.mul_comm (B^j) B,Nat.mul_assoc]
   have e2:B^j*B*d=B*(B^j*d):=by rw[Nat.mul_comm (B^j) B,Nat.mul_assoc]
   rw[e1,e2]
   have e3:B*(val (o.set j d)+B^j*o[j])=B*(val o+B^j*d):=by rw[this]
   rw[Nat.mul_add,Nat.mul_add] at e3
   omega
def jx (a b:List Nat) (i k:Nat) (s:List Nat × Nat):List Nat × Nat :=
 let t:=a.getD i 0*b.getD k 0+s.1.getD (i+k) 0+s.2
 (s.1.set (i+k) (t%B),t/B)
def qU (a b:List Nat):Nat→List Nat
 | 0=>List.replicate (a.length+b.length) 0
 | i+1=>let s:=itr (jx a b i) (qU a b i,0) b.length; s.1.set (i+b.length) s.2
def wH (a b:List Nat) (i k:Nat):List Nat × Nat:=itr (jx a b i) (qU a b i,0) k
theorem Bd {a b:List Nat} {i:Nat}:wH a b i 0=(qU a b i,0):=rfl
theorem Nn {a b:List Nat} {i:Nat}:qU a b (i+1)=(wH a b i b.length).1.set (i+b.length) (wH a b i b.length).2:=rfl
theorem Nm {a b:List Nat} {i k:Nat}:wH a b i (k+1)=jx a b i k (wH a b i k):=rfl
structure Yo (a b o:List Nat) (c i k:Nat):Prop where
 len:o.length=a.length+b.length
 ok:ok o
 lt:c<B
 val:val o+B^(i+k)*c=val (a.take i)*val b+B^i*(a.getD i 0*val (b.take k))
 zero:∀ j (hj:j<o.length),i+b.length≤j→o[j]=0
theorem tH {a:List Nat} (h:ok a) (i:Nat):a.getD i 0<B:=by
 rw[List.getD_eq_getElem?_getD]
 by_cases hi:i<a.length
 ·rw[List.getElem?_eq_getElem hi]; exact xv h hi
 ·rw[List.getElem?_eq_none (by omega)]; exact zX
theorem co {x y z w:Nat} (hx:x<B) (hy:y<B) (hz:z<B) (hw:w<B):x*y+z+w<B*B:=by
 have h:x*y≤(B-1)*(B-1):=Nat.mul_le_mul (by omega) (by omega)
 have:(B-1)*(B-1)+(B-1)+(B-1)<B*B:=by decide
 omega
theorem abs {a b o:List Nat} {c i k:Nat} (ha:ok a) (hb:ok b) (hi:i<a.length) (hk:k<b.length) (h:Yo a b o c i k) :
  Yo a b (jx a b i k (o,c)).1 (jx a b i k (o,c)).2 i (k+1):=by
 have hlen:=h.len
 have hik:i+k<o.length:=by omega
 obtain ⟨t,ht⟩:∃ t,t=a.getD i 0*b.getD k 0+o.getD (i+k) 0+c:=⟨_,rfl⟩
 have hbd:=co (tH ha i) (tH hb k) (tH h.ok (i+k)) h.lt
 rw[← ht] at hbd
 simp only[jx,← ht]
 constructor
 ·simp[hlen]
 ·exact RI h.ok (Nat.mod_lt _ zX)
 ·exact Nat.div_lt_of_lt_mul hbd
 ·have e1:=UF (o:=o) (j:=i+k) (d:=t%B) hik
  have e2:=Nat.mod_add_div t B
  have e3:=h.val
  have e4:=x7 hk
  have e5:o.getD (i+k) 0=o[i+k]:=by simp[hik]
  have e6:b.getD k 0=b[k]:=by simp[hk]
  rw[e5,e6] at ht
  rw[e4]
  have e7:B^(i+(k+1))*(t/B)=B^(i+k)*(B*(t/B)):=by rw[← Nat.add_assoc,Nat.pow_succ,Nat.mul_assoc]
  rw[e7]
  have e8:B^(i+k)*(t%B)+B^(i+k)*(B*(t/B))=B^(i+k)*t:=by rw[← Nat.mul_add,e2]
  have e9:B^(i+k)*t=B^(i+k)*(a.getD i 0*b[k])+B^(i+k)*o[i+k]+B^(i+k)*c:=by rw[ht,Nat.mul_add,Nat.mul_add]
  have e10:B^i*(a.getD i 0*(val (b.take k)+B^k*b[k]))=B^i*(a.getD i 0*val (b.take k))+B^(i+k)*(a.getD i 0*b[k]):=by
   rw[Nat.mul_add,Nat.mul_add,Nat.pow_add]
   congr 1
   rw[Nat.mul_assoc]
   congr 1
   rw[Nat.mul_left_comm]
  rw[e10]
  omega
 ·intro j hj hle
  simp only[List.length_set] at hj
  rw[List.getElem_set_ne (by omega)]
  exact h.zero j hj hle
theorem cq {a b:List Nat} {i:Nat} (ha:ok a) (hb:ok b) (hi:i<a.length) (h:Yo a b (qU a b i) 0 i 0):∀ k,k≤b.length→Yo a b (wH a b i k).1 (wH a b i k).2 i k
 | 0,_=>h
 | k+1,hk=>by rw[Nm]; exact abs ha hb hi (by omega) (cq ha hb hi h k (by omega))
theorem Y1 {a b:List Nat} (ha:ok a) (hb:ok b):∀ i,i≤a.length→Yo a b (qU a b i) 0 i 0
 | 0,_=>⟨by simp[qU],Ku _,zX,by simp[qU,UE,val],fun j hj _=>by simp[qU]⟩
 | i+1,hi=>by
  have ih:=Y1 ha hb i (by omega)
  have h:=cq ha hb (by omega) ih b.length (Nat.le_refl _)
  have hlen:=h.len
  have hib:i+b.length<(wH a b i b.length).1.length:=by omega
  rw[Nn]
  have hz:=h.zero (i+b.length) hib (Nat.le_refl _)
  have hv:=UF (d:=(wH a b i b.length).2) hib
  have h3:=h.val
  rw[hz,Nat.mul_zero,Nat.add_zero] at hv
  refine ⟨by simp[hlen],RI h.ok h.lt,zX,?_,?_⟩
  ·rw[hv,h3,List.take_of_length_le (Nat.le_refl b.length)]
   have:val (a.take (i+1))=val (a.take i)+B^i*a.getD i 0:=by
    rw[x7 (by omega)]; simp[show i<a.length by omega]
   rw[this,Nat.add_mul,Nat.mul_assoc]
   simp[val]
  ·intro j hj hle
   simp only[List.length_set] at hj
   rw[List.getElem_set_ne (by omega)]
   exact h.zero j hj (by omega)
theorem aeE {a b:List Nat} (ha:ok a) (hb:ok b):ok (qU a b a.length)∧(qU a b a.length).length=a.length+b.length∧val (qU a b a.length)=val a*val b:=by
 have h:=Y1 ha hb a.length (Nat.le_refl _)
 refine ⟨h.ok,h.len,?_⟩
 have:=h.val
 simp[val] at this
 exact this
def uB (n D i:Nat):List Nat:=List.replicate (n-i) 0++(zt n D).drop (n-i)
theorem Td {n D:Nat}:uB n D 0=List.replicate n 0:=by
 simp[uB,zy]
theorem RW {n D:Nat}:uB n D n=zt n D:=by simp[uB]
theorem RX {n D i:Nat} (_h:i≤n):(uB n D i).length=n:=by simp[uB,zy]; try omega
theorem RY {n D i:Nat} (h:i<n):(uB n D i).set (n-1-i) (D/B^(n-1-i)%B)=uB n D (i+1):=by
 obtain ⟨j,hj⟩:∃ j,n-1-i=j:=⟨_,rfl⟩
 have h1:n-i=j+1:=by omega
 have h2:n-(i+1)=j:=by omega
 unfold uB
 rw[hj,h1,h2,List.replicate_succ']
 rw[List.append_assoc,List.set_append_right _ _ (by simp)]
 simp only[List.length_replicate,Nat.sub_self]
 have hlt:j<(zt n D).length:=by rw[zy]; omega
 rw[List.drop_eq_getElem_cons hlt,ut]
 rfl
theorem RZ {A d:Nat} (hd:0<d):(A/B%d*B+A%B)/d=A/d%B∧(A/B%d*B+A%B)%d=A%d∧A/B%d*B+A%B<d*B:=by
 have hA:=Nat.div_add_mod A B
 have h1:=Nat.div_add_mod (A/B) d
 have hm:=Nat.mod_lt (A/B) hd
 have hb:=Nat.mod_lt A zX
 have hlt:A/B%d*B+A%B<d*B:=by
  have:(A/B%d+1)*B≤d*B:=Nat.mul_le_mul_right _ hm
  rw[Nat.add_mul] at this
  omega
 have key:A=d*(A/B/d*B)+(A/B%d*B+A%B):=by
  have e:B*(A/B)=B*(d*(A/B/d)+A/B%d):=by rw[h1]
  rw[Nat.mul_add] at e
  have e2:d*(A/B/d*B)=B*(d*(A/B/d)):=by rw[← Nat.mul_assoc,Nat.mul_comm]
  rw[e2,Nat.mul_comm (A/B%d)]
  omega
 generalize A/B%d*B+A%B=t at *
 generalize A/B/d=g at *
 have hq:t/d<B:=Nat.div_lt_of_lt_mul hlt
 refine ⟨?_,?_,hlt⟩
 ·rw[key,Nat.mul_add_div hd,Nat.add_comm (g*B) _,Nat.add_mul_mod_self_right,Nat.mod_eq_of_lt hq]
 ·rw[key,Nat.mul_add_mod]
end Go.Dig

namespace Go.Proofs.YtpnliopaifpimaaGreat
open Go Go.Am Go.Dig
theorem nh {x:Nat} (h:x<18446744073709551616):ze Tryz.prog tI [zU x] (nD x):=by
 have f2:(x:Int).fdiv (2^min 32 IntKind.u64.bits)=((x/B:Nat):Int):=ZH x
 have f1:=w32 x
 have f3:=w32 (x/B)
 obtain ⟨d0,h0⟩:∃ d,x%B=d:=⟨_,rfl⟩
 obtain ⟨q,hq⟩:∃ q,x/B=q:=⟨_,rfl⟩
 obtain ⟨d1,h1⟩:∃ d,q%B=d:=⟨_,rfl⟩
 rw[hq] at f2 f3
 rw[h0] at f1
 rw[h1] at f3
 have hok:ok [d0,d1]:=by
  intro d hd
  simp at hd
  rcases hd with rfl | rfl
  ·rw[← h0]; exact Nat.mod_lt _ zX
  ·rw[← h1]; exact Nat.mod_lt _ zX
 have hv:val [d0,d1]=x:=by
  have e1:=Nat.mod_add_div x B
  have hq2:q<B:=by rw[← hq,z9]; omega
  rw[Nat.mod_eq_of_lt hq2] at h1
  simp only[val,Nat.mul_zero,Nat.add_zero]
  rw[← h1,← h0,← hq]
  exact e1
 have key:=xt (m:=.full) (a:=[d0,d1]) hok (by simp)
 rw[hv] at key
 refine zn Jk (by simp) ?_
 simp[Yw,wG,f1,f2,f3,wt]
 refine za key (by simp) (by simp) ?_
 simp[Xd]
open Go.Wr
abbrev sv (l:List UInt8):AV:=.val (.string (str l))
abbrev ub (n:Nat):AV:=.val (.int .u8 (n:Int))
abbrev q7 (l:List UInt8):List (List AV):=l.map fun x=>[ub x.toNat]
theorem MX:∀ {l:List UInt8},qB (q7 l)=some (l.map fun x=>(x.toNat:Int))
 | []=>rfl
 | x::l=>by
  have h:qB (q7 (x::l))=(qB (q7 l)).map ((x.toNat:Int)::·):=rfl
  rw[h,MX (l:=l)]; rfl
theorem afz {l:List UInt8}:strOfNums (l.map fun x=>(x.toNat:Int))=str l:=by
 unfold strOfNums str
 congr 2
 rw[List.map_map]
 refine (List.map_congr_left fun x _=>?_).trans (List.map_id l)
 simp
theorem ah2:Zj Tryz.prog p8 yi=true:=by kernel_rfl
theorem Mt {l:List UInt8} {sz:Nat} {m:Am.Mode}:jQ Tryz.prog p8 yi (.list sz m (q7 l))=some (sv l):=by
 simp only[jQ,MX,ah2,if_true,afz]
theorem w8 {n:Nat}:IntKind.u8.wrap (n:Int)=((n%256:Nat):Int):=by
 rw[IntKind.wrap_u8]; omega
theorem ai7:∀ n:Nat,n<256→sX .or .u8 (n:Int) 128=((n%128+128:Nat):Int):=by decide +kernel
theorem DM:∀ n:Nat,n<256→sX .and .u8 (n:Int) 127=((n%128:Nat):Int):=by decide +kernel
theorem akK (x:Nat):(x:Int).fdiv (2^min 7 IntKind.u64.bits)=((x/128:Nat):Int):=by
 have:min 7 IntKind.u64.bits=7:=rfl
 rw[this]
 have:(2:Int)^7=128:=by decide
 rw[this,Int.fdiv_eq_ediv_of_nonneg _ (by omega)]
 omega
def stp (x:Nat):Nat:=if x<128 then 0 else stp (x/128)+1
termination_by x
decreasing_by omega
theorem ahD {x:Nat} (h:x<128):stp x=0:=by rw[stp,if_pos h]
theorem ahC {x:Nat} (h:¬ x<128):stp x=stp (x/128)+1:=by rw[stp,if_neg h]
def pre (x:Nat) (k:Nat):List UInt8:=(List.range k).map fun j=>UInt8.ofNat (x/128^j%128+128)
theorem ab6 {x k:Nat}:pre x (k+1)=pre x k++[UInt8.ofNat (x/128^k%128+128)]:=by simp[pre,List.range_succ]
theorem ab4 {x k:Nat}:pre x (k+1)=UInt8.ofNat (x%128+128)::pre (x/128) k:=by
 unfold pre
 rw[List.range_succ_eq_map,List.map_cons,List.map_map]
 simp only[Nat.pow_zero,Nat.div_one]
 congr 1
 refine List.map_congr_left fun j _=>?_
 simp only[Function.comp]
 rw[Nat.pow_succ',Nat.div_div_eq_div_mul]
theorem PF (x:Nat):(∀ k,k<stp x→¬ x/128^k<128)∧x/128^stp x<128∧enc x=pre x (stp x)++[UInt8.ofNat (x/128^stp x)]:=by
 induction x using Nat.strongRecOn with
 | _ x ih =>
  by_cases h:x<128
  ·rw[ahD h,bU h]
   refine ⟨fun k hk=>absurd hk (Nat.not_lt_zero _),by simpa using h,by simp[pre]⟩
  ·obtain ⟨h1,h2,h3⟩:=ih (x/128) (by omega)
   rw[ahC h,Rf h]
   have e:∀ k,x/128/128^k=x/128^(k+1):=fun k=>by rw[Nat.pow_succ',Nat.div_div_eq_div_mul]
   refine ⟨fun k hk=>?_,?_,?_⟩
   ·cases k with
    | zero=>simpa using h
    | succ k=>rw[← e]; exact h1 k (by omega)
   ·rw[← e]; exact h2
   ·rw[ab4,← e,List.cons_append,← h3]
theorem FZ {x:Nat} (h:x<18446744073709551616):stp x≤9:=by
 obtain ⟨h1,_,_⟩:=PF x
 apply Classical.byContradiction
 intro hn
 have:=h1 9 (by omega)
 have e:(128:Nat)^9=9223372036854775808:=by decide
 rw[e] at this
 omega
theorem vS {x:Nat} (h:x<18446744073709551616):1≤(enc x).length∧(enc x).length≤10:=by
 obtain ⟨_,_,h3⟩:=PF x
 have:=FZ h
 rw[h3]
 simp[pre]
 omega
def PE (x k:Nat):St:={env:=[(0,zU (x/128^k)),(3,yE 1 11 (q7 (pre x k)))],sto:=[]}
theorem pU {x:Nat} (h:x<18446744073709551616):ze Tryz.prog x6 [zU x] (sv (enc x)):=by
 refine zn Gt (by simp) ?_
 obtain ⟨h1,h2,h3⟩:=PF x
 have h9:=FZ h
 simp[UR]
 refine zw (PE x) (fun _=>True) (stp x) (by simp[PE,pre,fU]) trivial (fun k hk _=>?_) (fun _=>?_)
 ·have hst:PE x (k+1)={env:=[(0,zU (x/128^k/128)),(3,yE 1 11 (q7 (pre x k)++[[ub (x/128^k%128+128)]]))],sto:=[]}:=by
   rw[PE,ab6,Nat.pow_succ,← Nat.div_div_eq_div_mul]
   have e:(x/128^k%128+128)%256=x/128^k%128+128:=by omega
   simp[e]
  have hge:=h1 k hk
  rw[PE]
  have hpl:(pre x k).length=k:=by simp[pre]
  generalize pre x k=L at *
  generalize x/128^k=y at *
  have e1:=w8 (n:=y)
  obtain ⟨b,hb⟩:∃ b,y%256=b:=⟨_,rfl⟩
  obtain ⟨c,hc⟩:∃ c,y%128+128=c:=⟨_,rfl⟩
  have e2:=ai7 b (by omega)
  rw[show b%128+128=c by omega] at e2
  rw[hb] at e1
  rw[hc] at hst
  have e3:=akK y
  have hg:(128:Int)≤y:=by omega
  simp[jl,hg,e1,e2,wG,e3,wt,rO,hpl,hst]
  omega
 ·rw[PE]
  have hpl:(pre x (stp x)).length=stp x:=by simp[pre]
  rw[h3]
  generalize pre x (stp x)=L at *
  generalize x/128^stp x=y at *
  have e1:=w8 (n:=y)
  have hy:y%256=y:=by omega
  have hg:¬ (128:Int)≤y:=by omega
  have hby:(UInt8.ofNat y).toNat=y:=byte_of (by omega)
  simp[jl,bR,hg,e1,hy,wt]
  refine Yb (by decide) (.inr rfl) rfl rfl ?_ ?_ fun t ht=>?_
  ·simp[hpl]; omega
  ·simp[hpl]; omega
  ·have hr:q7 L++[[ub y]]=q7 (L++[UInt8.ofNat y]):=by simp[hy]
   rw[hr]
   simp[Mt,Ta,-List.map_append]
end Go.Proofs.YtpnliopaifpimaaGreat

namespace Go.Wr
def lead (i:Nat):List UInt8→Nat
 | []=>0
 | b::l=>if i=9∧1<b.toNat then 0 else if 128≤b.toNat then lead (i+1) l+1 else 0
abbrev byt (l:List UInt8) (k:Nat):Nat:=(l.getD k 0).toNat
def acc (l:List UInt8):Nat→Nat
 | 0=>0
 | k+1=>acc l k+byt l k%128*128^k
theorem Zk:∀ {l:List UInt8} {i k:Nat},k<lead i l→k<l.length∧i+k≠9∧128≤byt l k
 | [],i,k,h=>by simp[lead] at h
 | b::l,i,k,h=>by
  unfold lead at h
  split at h
  ·simp at h
  ·rename_i h1
   split at h
   ·rename_i h2
    cases k with
    | zero=>refine ⟨by simp,by omega,by simpa [byt] using h2⟩
    | succ k =>
     obtain ⟨a1,a2,a3⟩:=Zk (l:=l) (i:=i+1) (k:=k) (by omega)
     refine ⟨by simp; omega,by omega,by simpa [byt] using a3⟩
   ·simp at h
theorem L0:∀ {l:List UInt8} {i:Nat},lead i l=l.length∨(lead i l<l.length∧((i+lead i l=9∧1<byt l (lead i l))∨byt l (lead i l)<128))
 | [],i=>by simp[lead]
 | b::l,i=>by
  unfold lead
  split
  ·rename_i h1
   exact .inr ⟨by simp,.inl ⟨by omega,by simpa [byt] using h1.2⟩⟩
  ·split
   ·rcases L0 (l:=l) (i:=i+1) with h | ⟨h,h2⟩
    ·left; simp[h]
    ·right
     refine ⟨by simp; omega,?_⟩
     have e:byt (b::l) (lead (i+1) l+1)=byt l (lead (i+1) l):=by simp[byt]
     rw[e]
     rcases h2 with h2 | h2
     ·exact .inl ⟨by omega,h2.2⟩
     ·exact .inr h2
   ·rename_i h2
    exact .inr ⟨by simp,.inr (by simp[byt]; omega)⟩
theorem Fl {l:List UInt8}:lead 0 l≤9:=by
 apply Classical.byContradiction
 intro h
 exact (Zk (l:=l) (i:=0) (k:=9) (by omega)).2.1 rfl
theorem aX {l:List UInt8} {k:Nat} (h:k<l.length):∃ b,l.drop k=b::l.drop (k+1)∧b.toNat=byt l k:=by
 refine ⟨l[k],List.drop_eq_getElem_cons h,?_⟩
 simp[byt,List.getD,List.getElem?_eq_getElem h]
theorem eH {l:List UInt8}:∀ k,k≤lead 0 l→dec 0 0 l=dec k (acc l k) (l.drop k)
 | 0,_=>rfl
 | k+1,h=>by
  obtain ⟨a1,a2,a3⟩:=Zk (l:=l) (i:=0) (k:=k) (by omega)
  obtain ⟨b,e,eb⟩:=aX a1
  rw[eH k (by omega),e,dec,eb,if_neg (by omega),if_pos a3]
  rfl
theorem SB {l:List UInt8}:∀ k,acc l k<128^k
 | 0=>by simp[acc]
 | k+1=>by
  have:=SB (l:=l) k
  have h:byt l k%128*128^k≤127*128^k:=Nat.mul_le_mul_right _ (by omega)
  unfold acc
  rw[Nat.pow_succ]
  omega
theorem DD {most:Nat} {l:List UInt8} (h:lead 0 l=l.length):zL most (0,l)=(0,(1,[])):=by
 have:=eH (l:=l) _ (Nat.le_refl _)
 rw[h,List.drop_length] at this
 unfold zL
 simp[this,dec]
theorem adk {most:Nat} {l:List UInt8} (h:lead 0 l<l.length) (h9:lead 0 l=9) (hb:1<byt l (lead 0 l)):zL most (0,l)=(0,(2,[])):=by
 have:=eH (l:=l) _ (Nat.le_refl _)
 obtain ⟨b,e,eb⟩:=aX h
 rw[e,dec,eb,if_pos ⟨h9,hb⟩] at this
 unfold zL
 simp[this]
theorem A0 {most:Nat} {l:List UInt8} (h:lead 0 l<l.length) (hz:byt l (lead 0 l)=0) (hp:0<lead 0 l):zL most (0,l)=(0,(2,[])):=by
 have:=eH (l:=l) _ (Nat.le_refl _)
 obtain ⟨b,e,eb⟩:=aX h
 rw[e,dec,eb,if_neg (by omega),if_neg (by omega),if_pos ⟨hz,hp⟩] at this
 unfold zL
 simp[this]
theorem adi {most:Nat} {l:List UInt8} (h:lead 0 l<l.length) (h9:¬ (lead 0 l=9∧1<byt l (lead 0 l))) (hb:byt l (lead 0 l)<128) (hz:¬ (byt l (lead 0 l)=0∧0<lead 0 l)) :
  zL most (0,l)=if most<acc l (lead 0 l+1) then (0,(4,[])) else (acc l (lead 0 l+1),(0,l.drop (lead 0 l+1))):=by
 have:=eH (l:=l) _ (Nat.le_refl _)
 obtain ⟨b,e,eb⟩:=aX h
 rw[e,dec,eb,if_neg h9,if_neg (by omega),if_neg hz] at this
 have e2:acc l (lead 0 l+1)=acc l (lead 0 l)+byt l (lead 0 l)*128^lead 0 l:=by
  rw[acc,Nat.mod_eq_of_lt hb]
 unfold zL
 simp only[this,ne_eq,not_true,if_false,if_true,e2]
theorem DH {l:List UInt8} {k:Nat} (h9:k≤9) (hb:k=9→byt l k≤1):acc l k+byt l k%128*128^k<18446744073709551616:=by
 have h1:=SB (l:=l) k
 by_cases h:k=9
 ·subst h
  have:=hb rfl
  generalize byt l 9=c at *
  generalize acc l 9=d at *
  omega
 ·have h2:byt l k%128*128^k≤127*128^k:=Nat.mul_le_mul_right _ (by omega)
  have h3:128^k≤128^8:=Nat.pow_le_pow_right (by omega) (by omega)
  have h4:(128:Nat)^8=72057594037927936:=by decide
  omega
end Go.Wr

namespace Go.Proofs.YtpnliopaifpimaaGreat
open Go Go.Am
section
variable {ρ:List (Nat × zf)} {l:List (Nat × zf)} {k n B d:Nat} {e e0:zf}
theorem YY (h:yU B ρ) (hk:B≤k):lk ρ k=none:=by
 cases hl:lk ρ k with
 | none=>rfl
 | some e=>have:=(h _ (Rs hl)).1; simp at this; omega
theorem akl (h:lk ρ k=none):lk (ρ++l) k=lk l k:=by
 induction ρ with
 | nil=>rfl
 | cons p ρ ih =>
  obtain ⟨m,x⟩:=p
  simp only[lk,List.cons_append] at h ⊢
  split at h
  ·cases h
  ·rename_i hne; rw[if_neg hne]; exact ih h
theorem akn (h:lk ρ k=none):pt (ρ++l) k e=ρ++pt l k e:=by
 induction ρ with
 | nil=>rfl
 | cons p ρ ih =>
  obtain ⟨m,x⟩:=p
  simp only[lk] at h
  split at h
  ·cases h
  ·rename_i hne; simp only[List.cons_append,pt]; rw[if_neg hne,ih h]
theorem glk (h:yU B ρ):lk (ρ++l) (B+d)=lk l (B+d):=akl (YY h (Nat.le_add_right _ _))
theorem aa6 (h:yU B ρ):lk ρ (B+d)=none:=YY h (Nat.le_add_right _ _)
theorem gpt (h:yU B ρ):pt (ρ++l) (B+d) e=ρ++pt l (B+d) e:=akn (YY h (Nat.le_add_right _ _))
theorem aa8 (h:yU B ρ):pt ρ (B+d) e=ρ++[(B+d,e)]:=by
 have:=gpt (l:=[]) (d:=d) (e:=e) h
 rwa [List.append_nil] at this
theorem mG (h:lk ρ n=some e):lk (ρ++l) n=some e:=by
 induction ρ with
 | nil=>cases h
 | cons p ρ ih =>
  obtain ⟨m,x⟩:=p
  simp only[lk,List.cons_append] at h ⊢
  split at h
  ·rename_i he; rw[if_pos he]; exact h
  ·rename_i hne; rw[if_neg hne]; exact ih h
theorem eP (h:lk ρ n=some e0):pt (ρ++l) n e=pt ρ n e++l:=by
 induction ρ with
 | nil=>cases h
 | cons p ρ ih =>
  obtain ⟨m,x⟩:=p
  simp only[lk] at h
  simp only[List.cons_append,pt]
  split at h
  ·rename_i he; rw[if_pos he,if_pos he]; rfl
  ·rename_i hne; rw[if_neg hne,if_neg hne,ih h]; rfl
theorem aa5 {D:List Nat}:del D (ρ++l)=del D ρ++del D l:=by
 induction ρ with
 | nil=>rfl
 | cons p ρ ih =>
  obtain ⟨m,x⟩:=p
  simp only[List.cons_append,del]
  split
  ·exact ih
  ·rw[ih]; rfl
theorem aii {D:List Nat} (h:yU B ρ) (hD:(D.all fun k=>decide (B≤k))=true):del D ρ=ρ:=by
 induction ρ with
 | nil=>rfl
 | cons p ρ ih =>
  obtain ⟨m,x⟩:=p
  simp only[del]
  have h1:=(h (m,x) (by simp)).1
  have:D.elem m=false:=by
   cases hc:D.elem m with
   | false=>rfl
   | true=>have:=List.all_eq_true.1 hD m (by simpa using hc); simp at this h1; omega
  rw[this,ih fun p hp=>h p (by simp[hp])]; rfl
theorem eO {D:List Nat} (h:yU B ρ) (hD:(D.all fun k=>decide (B≤k))=true):del D (ρ++l)=ρ++del D l:=by rw[aa5,aii h hD]
theorem JU:tV k (ρ++l)=(tV k ρ&&tV k l):=by
 induction ρ with
 | nil=>rfl
 | cons p ρ ih =>
  obtain ⟨m,x⟩:=p
  simp only[List.cons_append,tV,ih,Bool.and_assoc]
theorem gno (h:yU B ρ):tV (B+d) (ρ++l)=tV (B+d) l:=by rw[JU,Rx (Nat.le_add_right B d) h]; rfl
theorem akm (h:yU B ρ):tV (B+d) ρ=true:=Rx (Nat.le_add_right B d) h
theorem bf {f:List (Nat × AV)} (h:qp B f):kG (B+d) f=true:=Rw (Nat.le_add_right B d) h
theorem bg {f:List (List (Nat × AV))} (h:pI B f):kH (B+d) f=true:=EF (Nat.le_add_right B d) h
theorem Uf (h:yU B ρ) (hn:n<B) (he:mH B e):yU B (pt ρ n e):=by
 intro p hp
 induction ρ with
 | nil=>simp[pt] at hp; subst hp; exact ⟨hn,he⟩
 | cons q ρ ih =>
  obtain ⟨m,x⟩:=q
  simp only[pt] at hp
  split at hp
  ·rcases List.mem_cons.1 hp with rfl | hp
   ·exact ⟨hn,he⟩
   ·exact h p (by simp[hp])
  ·rcases List.mem_cons.1 hp with rfl | hp
   ·exact h _ (by simp)
   ·exact ih (fun p hp=>h p (by simp[hp])) hp
theorem Nh {M N:Nat} (h:M≤N) {e:zf} (he:mH M e=true):mH N e=true:=by
 cases e with
 | var cells=>simp only[mH,List.all_eq_true] at he ⊢; exact fun x hx=>low_mono h (he x hx)
 | uarr sz rows=>simp only[mH,List.all_eq_true] at he ⊢; exact fun r hr x hx=>low_mono h (he r hr x hx)
 | arr=>rfl
 | map=>rfl
theorem cj {M N:Nat} (h:M≤N) {ρ:List (Nat × zf)} (hs:yU M ρ):yU N ρ:=fun p hp=>⟨Nat.lt_of_lt_of_le (hs p hp).1 h,Nh h (hs p hp).2⟩
theorem TR {M:Nat} {ρ l:List (Nat × zf)}:yU M (ρ++l)↔yU M ρ∧yU M l:=by
 unfold yU
 simp only[List.mem_append]
 exact ⟨fun h=>⟨fun p hp=>h p (.inl hp),fun p hp=>h p (.inr hp)⟩,fun h p hp=>hp.elim (h.1 p) (h.2 p)⟩
theorem tA {M k:Nat} {e:zf} {l:List (Nat × zf)}:yU M ((k,e)::l)↔(k<M∧mH M e=true)∧yU M l:=by simp[yU]
theorem jw {M:Nat}:yU M []:=fun _ h=>by cases h
end
section
variable {ρ:List (Nat × zf)} {l:List (Nat × zf)} {k n B d:Nat} {e e0:zf}
theorem kdg (h:yU B ρ) (hk:B≤k):(ρ.map fun p=>(p.1,dgE k p.2))=ρ:=tc fun p hp=>by rw[Fp hk (h p hp).2]
end
theorem yp {P:Program} {f:FuncId} {xs:List AV} {s:St} {dst:Option Nat} {K:St→Prop} (h:yH P f xs s fun r s'=>s'.base=s.base∧K (s'.put dst r)):qG P f xs s dst K:=h
def agE (f:FuncId) (ds:List Nat) (s:St) (d:Option Nat) (K:St→Prop) (xs:List AV):Prop :=
 rQ s.sto s.base ds∧∀ D:List Nat,yH Tryz.prog f xs {s with env:=del D s.env} fun r s'=>∃ A:St,s'={A with env:=del D A.env}∧A.base=s.base∧rQ A.sto A.base ds∧K (A.put d r)
@[simp] theorem ajT {f:FuncId} {ds:List Nat} {xs:List Opd} {d:Option Nat} {os:List zi} {s:St} {KS:St→Prop} :
  zl Tryz.prog (⟨d,.callM f ds,xs,none⟩::os) s KS=(yy Tryz.prog f=true∧agE f ds s d (bm Tryz.prog os KS) (xs.map (ev s))):=propext Iff.rfl
theorem abh {M:Nat} {D:List Nat} {env:List (Nat × AV)} (h:qp M env):qp M (del D env):=by
 intro p hp
 induction env with
 | nil=>cases hp
 | cons q env ih =>
  obtain ⟨m,x⟩:=q
  simp only[del] at hp
  split at hp
  ·exact ih (fun p hp=>h p (by simp[hp])) hp
  ·rcases List.mem_cons.1 hp with rfl | hp
   ·exact h _ (by simp)
   ·exact ih (fun p hp=>h p (by simp[hp])) hp
theorem L6 {M:Nat} {n:Int}:Am.low M (iv n)=true:=rfl
theorem C4 {M:Nat} {b:Bool}:Am.low M (bv b)=true:=rfl
theorem Ug {M k off:Nat}:Am.low M (.ptr k off)=decide (k<M):=rfl
open Go.Wr
abbrev rdE (b:ByteArray) (e:Nat):zf:=.var [.val (.string b),iv (e:Int)]
def tq (q:Rd) (b:ByteArray):Prop:=(q.1=0→b=str q.2)∧b.size≤1099511627776
theorem Q2 {α:Type} {l:List (Nat × α)} {n:Nat} {x:α} (h:lk l n=some x):pt l n x=l:=by
 induction l with
 | nil=>cases h
 | cons p l ih =>
  obtain ⟨m,y⟩:=p
  simp only[lk] at h
  simp only[pt]
  split at h
  ·rename_i he; rw[if_pos he]; cases h; rw[he]
  ·rename_i hne; rw[if_neg hne,ih h]
theorem RL:gd Tryz.prog qZ=true:=by kernel_rfl
theorem lE:yy Tryz.prog yj=true:=by kernel_rfl
theorem SJ {l:List UInt8} {k:Nat}:Yu (str l) k=byt l k:=by
 simp[Yu,str,byt,List.getD]
section
variable {s:St} {n:Nat} {b:ByteArray} {e c:Nat} {K:AV→St→Prop}
theorem cy {b:ByteArray} {e:Nat}:ze Tryz.prog xr [.ro [.val (.string b),iv (e:Int)]] (bv (decide (e=0))):=by
 refine zn ZT (by simp) ?_
 simp[lV,aeb RL,kL]
theorem di {b:ByteArray} {e:Nat}:ze Tryz.prog wJ [.ro [.val (.string b),iv (e:Int)]] (iv (e:Int)):=by
 refine zn ai (by simp) ?_
 simp[mW,aea RL,lF]
theorem kN (hs:lk s.sto n=some (rdE b e)) (h0:e=0→K (.tuple []) {s with sto:=pt s.sto n (rdE b c)}) (h1:e≠0→K (.tuple []) s):yH Tryz.prog yj [.ptr n 0,iv (c:Int)] s K:=by
 obtain ⟨env,σ,out,base⟩:=s
 simp only at hs
 refine nu 0 bt (by simp) ?_
 by_cases he:e=0
 ·simp[sY,G2 RL,hs,he,s7]
  exact h0 he
 ·simp[sY,G2 RL,hs,he,s7]
  exact h1 he
end
theorem DX {l:List UInt8} {k:Nat}:byt l k<256:=UInt8.toNat_lt _
theorem adw {x c k:Nat} (hx:x<128^k) (_hk:k≤9) (hs:x+c*128^k<18446744073709551616):sX .or .u64 (x:Int) ((c*128^k:Nat):Int)=((x+c*128^k:Nat):Int):=by
 have hbits:IntKind.u64.bits=64:=rfl
 have hp:(128:Nat)^k=2^(7*k):=by rw[show (128:Nat)=2^7 from rfl,← Nat.pow_mul]
 simp only[sX]
 rw[BitVec.toNat_or]
 have e1:(BitVec.ofInt IntKind.u64.bits ((c*128^k:Nat):Int)).toNat=c*128^k:=by rw[hbits,BitVec.toNat_ofInt]; omega
 have e2:(BitVec.ofInt IntKind.u64.bits (x:Int)).toNat=x:=by rw[hbits,BitVec.toNat_ofInt]; omega
 rw[e1,e2]
 have h3:=Nat.shiftLeft_add_eq_or_of_lt (i:=7*k) (b:=x) (by rw[← hp]; exact hx) c
 rw[Nat.shiftLeft_eq,← hp] at h3
 rw[Nat.or_comm,← h3,Nat.add_comm]
 exact w64 (by omega)
theorem Aa {c k:Nat} (hk:k≤9) (h:c*128^k<18446744073709551616):IntKind.u64.wrap ((c:Int)*2^(min (7*k) IntKind.u64.bits))=((c*128^k:Nat):Int):=by
 have:min (7*k) IntKind.u64.bits=7*k:=by
  have:IntKind.u64.bits=64:=rfl
  omega
 rw[this]
 have hp:(128:Nat)^k=2^(7*k):=by rw[show (128:Nat)=2^7 from rfl,← Nat.pow_mul]
 have:(c:Int)*2^(7*k)=((c*128^k:Nat):Int):=by rw[hp]; push_cast; rfl
 rw[this]
 exact w64 h
section
variable {s:St} {n most:Nat} {b:ByteArray} {q:Rd} {K:AV→St→Prop}
def Sk (n most:Nat) (l:List UInt8) (env:List (Nat × AV)) (σ:List (Nat × zf)) (out:List (List (Nat × AV))) (k:Nat):St:={env:=[(0,.ptr n 0),(1,zU most),(5,zU (acc l k)),(6,iv k)],sto:=σ,out:=env::out,base:=0}
theorem kO (hs:lk s.sto n=some (rdE b q.1)) (hm:tq q b) (_hmost:most<18446744073709551616)
  (hK:∀ b',tq (zL most q).2 b'→K (zU (zL most q).1) {s with sto:=pt s.sto n (rdE b' (zL most q).2.1)}):yH Tryz.prog z7 [.ptr n 0,zU most] s K:=by
 obtain ⟨env,σ,out,base⟩:=s
 obtain ⟨e,l⟩:=q
 simp only at hs hK
 refine nu 0 bu (by simp) ?_
 simp[nK]
 refine za (cy (b:=b) (e:=e)) (by simp[hs]) (.inr rfl) ?_
 by_cases he:e=0
 ·subst he
  have hb:=hm.1 rfl
  simp only at hb
  subst hb
  simp
  refine zw (Sk n most l env σ out) (fun _=>True) (lead 0 l) (by simp[Sk,acc]) trivial (fun k hk _=>?_) (fun _=>?_)
  ·obtain ⟨a1,a2,a3⟩:=Zk hk
   have hk9:k≤8:=by have:=Fl (l:=l); omega
   have h64:=DH (l:=l) (k:=k) (by omega) (by omega)
   have hst:Sk n most l env σ out (k+1)={env:=[(0,.ptr n 0),(1,zU most),(5,zU (acc l k+byt l k%128*128^k)),(6,iv ((k:Int)+1))],sto:=σ,out:=env::out,base:=0}:=by
    rw[Sk,acc]; rfl
   have hal:=SB (l:=l) k
   have hbl:=DX (l:=l) (k:=k)
   have w1:=zm (k:=k) (by omega)
   have e1:=DM (byt l k) hbl
   have e2:=Aa (c:=byt l k%128) (k:=k) (by omega) (by omega)
   have e3:=adw (c:=byt l k%128) hal (by omega) h64
   have hix:=TI (P:=Tryz.prog) (t:=yi) NU (xs:=str l) (ik:=.i64) (i:=(k:Int)) (by omega) (by rw[td]; omega)
   rw[Int.toNat_natCast,SJ] at hix
   have hne:¬ ((k:Int)=l.length):=by omega
   have h9:¬ ((k:Int)=9):=by omega
   rw[Sk]
   generalize acc l k+byt l k%128*128^k=x1 at *
   generalize byt l k%128*128^k=x2 at *
   obtain ⟨d,hd⟩:∃ d,byt l k%128=d:=⟨_,rfl⟩
   rw[hd] at e1 e2
   generalize byt l k=y at *
   generalize acc l k=x0 at *
   have w2:IntKind.u64.wrap (k:Int)=(k:Int):=w64 (by omega)
   obtain ⟨m,hm7⟩:∃ m,7*k=m:=⟨_,rfl⟩
   rw[hm7] at e2
   have w3:IntKind.u64.wrap (7*(k:Int))=(m:Int):=by rw[vb]<;>omega
   have w4:IntKind.u64.wrap (d:Int)=(d:Int):=w64 (by omega)
   have hsh:¬ ((m:Int)<0):=by omega
   have hge:(128:Int)≤y:=by omega
   simp[yh,hs,td,hne,hix,h9,e1,w2,w3,w4,xY hsh,e2,e3,hge,w1,hst]
  ·obtain ⟨N,hN⟩:∃ N,lead 0 l=N:=⟨_,rfl⟩
   have hN9:N≤9:=by rw[← hN]; exact Fl
   rw[hN]
   rcases L0 (l:=l) (i:=0) with hE | ⟨hE,hE2⟩
   ·have hu:=DD (most:=most) hE
    rw[hN] at hE
    rw[hu] at hK
    rw[Sk]
    have hNl:(N:Int)=l.length:=by omega
    simp[yh,hs,hNl,td,lE]
    refine yp (kN (b:=str l) (e:=0) (c:=1) (by exact hs) (fun _=>?_) (fun h=>absurd rfl h))
    simp[yo]
    exact hK (str l) ⟨fun h=>absurd h (by decide),hm.2⟩
   ·have hu2:=adk (most:=most) hE
    have hu3:=A0 (most:=most) hE
    have hu4:=adi (most:=most) hE
    have hbl:=DX (l:=l) (k:=N)
    have h64:=DH (l:=l) (k:=N) hN9
    have hal:=SB (l:=l) N
    rw[hN] at hE hE2 hu2 hu3 hu4
    have hac:acc l (N+1)=acc l N+byt l N%128*128^N:=rfl
    have hix:=TI (P:=Tryz.prog) (t:=yi) NU (xs:=str l) (ik:=.i64) (i:=(N:Int)) (by omega) (by rw[td]; omega)
    rw[Int.toNat_natCast,SJ] at hix
    have hNl:¬ ((N:Int)=l.length):=by omega
    have e1:=DM (byt l N) hbl
    have hsx:(str l).extract (N+1) l.length=str (l.drop (N+1)):=by rw[afB,List.take_length]
    rw[Sk]
    by_cases c1:N=9∧1<byt l N
    ·obtain ⟨h9,c2⟩:=c1
     rw[hu2 h9 c2] at hK
     have d9:decide ((N:Int)=9)=true:=decide_eq_true (by omega)
     have c2':(1:Int)<(byt l N:Int):=by omega
     generalize byt l N=y at *
     generalize acc l N=x0 at *
     simp[yh,hs,hNl,td,lE,hix,d9,c2']
     refine yp (kN (b:=str l) (e:=0) (c:=2) (by exact hs) (fun _=>?_) (fun h=>absurd rfl h))
     simp[yo]
     exact hK (str l) ⟨fun h=>absurd h (by decide),hm.2⟩
    ·have c3:byt l N<128:=by omega
     have h64':=h64 (by omega)
     have e2:=Aa (c:=byt l N%128) (k:=N) hN9 (by omega)
     have e3:=adw (c:=byt l N%128) hal hN9 h64'
     rw[← hac] at e3 h64'
     generalize acc l (N+1)=x1 at *
     generalize byt l N%128*128^N=x2 at *
     obtain ⟨d,hd⟩:∃ d,byt l N%128=d:=⟨_,rfl⟩
     rw[hd] at e1 e2
     generalize byt l N=y at *
     generalize acc l N=x0 at *
     obtain ⟨m,hm7⟩:∃ m,7*N=m:=⟨_,rfl⟩
     rw[hm7] at e2
     have w2:IntKind.u64.wrap (N:Int)=(N:Int):=w64 (by omega)
     have w3:IntKind.u64.wrap (7*(N:Int))=(m:Int):=by rw[vb]<;>omega
     have w4:IntKind.u64.wrap (d:Int)=(d:Int):=w64 (by omega)
     have hsh:¬ ((m:Int)<0):=by omega
     have hge:¬ (128:Int)≤y:=by omega
     have w1:=zm (k:=N) (by omega)
     have c1':(N:Int)=9→¬ (1:Int)<(y:Int):=by omega
     by_cases c2:y=0∧0<N
     ·obtain ⟨rfl,c2⟩:=c2
      rw[hu3 rfl c2] at hK
      have c2':0<N:=c2
      by_cases h9:(N:Int)=9
      ·have d9:=decide_eq_true h9
       simp[yh,hs,hNl,td,lE,hix,d9,c2',w2,w3,xY hsh]
       refine yp (kN (b:=str l) (e:=0) (c:=2) (by exact hs) (fun _=>?_) (fun h=>absurd rfl h))
       simp[yo]
       exact hK (str l) ⟨fun h=>absurd h (by decide),hm.2⟩
      ·have d9:=decide_eq_false h9
       simp[yh,hs,hNl,td,lE,hix,d9,c2',w2,w3,xY hsh]
       refine yp (kN (b:=str l) (e:=0) (c:=2) (by exact hs) (fun _=>?_) (fun h=>absurd rfl h))
       simp[yo]
       exact hK (str l) ⟨fun h=>absurd h (by decide),hm.2⟩
     ·have hu:=hu4 c1 c3 c2
      rw[hu] at hK
      have fin:∀ (g1 g2:Bool),decide ((N:Int)=9)=g1→decide (y=0)=g2→(g1=true→¬ (1:Int)<y)→(g2=true→¬ 0<N) →
        awp Tryz.prog yh {env:=[(0,.ptr n 0),(1,zU most),(5,zU x0),(6,iv N)],sto:=σ,out:=env::out,base:=0} (t7 (vi 0 (Sb yo base K))):=by
       intro g1 g2 d1 d2 d3 d4
       by_cases c4:most<x1
       ·rw[if_pos c4] at hK
        have c4':(most:Int)<x1:=by omega
        cases g1<;>cases g2
        all_goals
         simp only[true_implies,reduceCtorEq,false_implies] at d3 d4
         simp[yh,hs,hNl,td,lE,hix,d1,d2,d3,d4,e1,w2,w3,w4,xY hsh,e2,e3,hge,c4']
         refine yp (kN (b:=str l) (e:=0) (c:=4) (by exact hs) (fun _=>?_) (fun h=>absurd rfl h))
         simp[yo]
         exact hK (str l) ⟨fun h=>absurd h (by decide),hm.2⟩
       ·rw[if_neg c4] at hK
        have c4':¬ (most:Int)<x1:=by omega
        have hfin:=hK (str (l.drop (N+1))) ⟨fun _=>rfl,by have:=hm.2; simp only[td,List.length_drop] at this ⊢; omega⟩
        have wn:((N:Int)+1).toNat=N+1:=by omega
        cases g1<;>cases g2
        all_goals
         simp only[true_implies,reduceCtorEq,false_implies] at d3 d4
         simp[yh,hs,hNl,td,hix,d1,d2,d3,d4,e1,w1,w2,w3,w4,xY hsh,e2,e3,hge,c4',wn,hsx,yo]
         exact ⟨by omega,by omega,hfin⟩
      exact fin _ _ rfl rfl (by simp; omega) (by simp; omega)
 ·have hu:=adj (most:=most) (s:=(e,l)) he
  rw[hu] at hK
  simp[he,yo]
  have:=hK b ⟨fun h=>absurd h he,hm.2⟩
  rw[Q2 hs] at this
  exact this
def c9 (q:Rd):Rd:=if q.1=0∧q.2≠[] then (3,[]) else (q.1,[])
theorem F0 {l:List UInt8}:(str l=⟨#[]⟩)↔l=[]:=⟨fun h=>afC (b:=[]) h,fun h=>by subst h; rfl⟩
theorem ajd (hs:lk s.sto n=some (rdE b q.1)) (hm:tq q b) (hK:∀ b',K (iv ((c9 q).1:Int)) {s with sto:=pt s.sto n (rdE b' (c9 q).1)}):yH Tryz.prog uD [.ptr n 0] s K:=by
 obtain ⟨env,σ,out,base⟩:=s
 obtain ⟨e,l⟩:=q
 simp only at hs hK
 refine nu 0 ah (by simp) ?_
 simp[mV]
 refine za (cy (b:=b) (e:=e)) (by simp[hs]) (.inr rfl) ?_
 by_cases he:e=0
 ·subst he
  have hb:=hm.1 rfl
  simp only at hb
  subst hb
  by_cases hl:l=[]
  ·have hr:(c9 (0,l)).1=0:=by unfold c9; rw[if_neg (by simp[hl])]
   have hd:decide (str l=⟨#[]⟩)=true:=decide_eq_true (F0.2 hl)
   have:=hK (str l)
   rw[hr,Q2 hs] at this
   simp[hs,hd]
   refine za (di (b:=str l) (e:=0)) (by simp[hs]) (.inr rfl) ?_
   simp[uU]
   exact this
  ·have hr:(c9 (0,l)).1=3:=by unfold c9; rw[if_pos ⟨rfl,hl⟩]
   have hd:decide (str l=⟨#[]⟩)=false:=decide_eq_false fun h=>hl (F0.1 h)
   have:=hK (str l)
   rw[hr] at this
   simp[hs,hd,lE]
   refine yp (kN (b:=str l) (e:=0) (c:=3) (by exact hs) (fun _=>?_) (fun h=>absurd rfl h))
   simp
   refine za (di (b:=str l) (e:=3)) (by simp) (.inr rfl) ?_
   simp[uU]
   exact this
 ·have hr:(c9 (e,l)).1=e:=by unfold c9; rw[if_neg (fun h=>he h.1)]
  have:=hK b
  rw[hr,Q2 hs] at this
  simp[he]
  refine za (di (b:=b) (e:=e)) (by simp[hs]) (.inr rfl) ?_
  simp[uU]
  exact this
theorem ajk {ρ:List (Nat × zf)} {l:List UInt8} {B:Nat} (hs:s.sto=ρ) (hρ:yU B ρ) (h:K (.ptr (B+5) 0) {s with sto:=ρ++[(B+5,rdE (str l) 0)]}):yH Tryz.prog qa [sv l] s K:=by
 obtain ⟨env,σ,out,base⟩:=s
 simp only at hs h
 subst hs
 refine nu B Ss (by simp) ?_
 simp[eD,aa6 hρ,aa8 hρ,dh]
 exact h
end
end Go.Proofs.YtpnliopaifpimaaGreat

namespace Go.Am
open Go.RowKit
section
variable {P:Program}
def St.frozen (k:Nat) (en:zf) (s:St):St:={s with env:=s.env.map fun p=>(p.1,frz k en p.2),sto:=(del [k] s.sto).map fun p=>(p.1,rR k en p.2),out:=s.out.map fun f=>f.map fun p=>(p.1,frz k en p.2)}
theorem Rn {F:yd} {I:Nat→Nat→Prop} {w:World} {β:zY} {lam:yg} {a:Act} {s:St} {k:Nat} {en:zf} (hen:lk s.sto k=some en) (h:Inv F s.look (lk s.sto) I β lam a w) (hu:(s.frozen k en).unmet k=true) :
  ∃ I' β' lam',Inv F (s.frozen k en).look (lk (s.frozen k en).sto) I' β' lam' a w∧∀ x v,R I w β lam x v→zP k (frz k en x)=false→R I' w β' lam' (frz k en x) v:=by
 unfold St.frozen at hu ⊢
 obtain ⟨Q,hQe⟩:∃ Q:Prop,Q=∃ I' β' lam',Inv F (St.look {s with env:=s.env.map fun p=>(p.1,frz k en p.2),sto:=(del [k] s.sto).map fun p=>(p.1,rR k en p.2),out:=s.out.map fun f=>f.map fun p=>(p.1,frz k en p.2)}) (lk (St.sto {s with env:=s.env.map fun p=>(p.1,frz k en p.2),sto:=(del [k] s.sto).map fun p=>(p.1,rR k en p.2),out:=s.out.map fun f=>f.map fun p=>(p.1,frz k en p.2)})) I' β' lam' a w∧∀ x v,R I w β lam x v→zP k (frz k en x)=false→R I' w β' lam' (frz k en x) v:=⟨_,rfl⟩
 have hQ:=hQe.mpr
 rw[← hQe]
 have look:∀ t,(St.look {s with env:=s.env.map fun p=>(p.1,frz k en p.2),sto:=(del [k] s.sto).map fun p=>(p.1,rR k en p.2),out:=s.out.map fun f=>f.map fun p=>(p.1,frz k en p.2)}) t=(s.look t).map (frz k en):=by
  intro t
  obtain ⟨f,t⟩:=t
  cases f with
  | zero=>exact qH _ _ _
  | succ f =>
   simp only[St.look,List.getElem?_map]
   cases s.out[f]? with
   | none=>rfl
   | some q=>exact qH _ _ _
 have main:∀ (X:Nat→Nat→Prop),(∀ b o,X b o→F.w0.heap.size≤b∧b<w.heap.size∧(∀ k',wX β [k] k'≠some b) ∧
    ∀ l o' len cap sz c,mD lam en.isU [k] l=some (some ⟨b,o',none⟩,len,cap,sz)→o=o'+c→len*sz≤c→c<cap*sz→False) →
   MJ I (fun b o=>I b o∨X b o) w β lam k en→Q:=by
  intro X hX hF
  refine hQ ⟨_,wX β [k],mD lam en.isU [k],h.forget X rfl (fun k b hk=>(vy hk).1) (fun l q hq=>(fE hq).1) hX (fun t x ht=>?_) (fun k' en' hk hU=>?_) (fun l sz rows hk=>?_) (fun k' b hk=>?_),fun x v hx hn=>Zd hF hx hn⟩
  ·have hn:=ZV hu ht
   rw[look] at ht
   simp only[Option.map_eq_some_iff] at ht
   obtain ⟨x',ht,rfl⟩:=ht
   obtain ⟨v,h1,h2⟩:=h.env t x' ht
   exact ⟨v,h1,Zd hF h2 hn⟩
  ·have hn:=lI hu hk
   obtain ⟨en0,h1,h2,rfl⟩:=cf hk
   rw[Zc] at hU
   obtain ⟨b,hb,hE⟩:=h.sto k' en0 h1 hU
   refine ⟨b,by unfold wX; rw[if_neg (by simpa using h2)]; exact hb,?_⟩
   cases en0 with
   | var cells =>
    intro j c hj
    have hc:=dG hn hj
    simp only[List.getElem?_map,Option.map_eq_some_iff] at hj
    obtain ⟨c',hj,rfl⟩:=hj
    obtain ⟨v,g1,g2,g3,g4⟩:=hE j c' hj
    exact ⟨v,g1,g2,g3,Zd hF g4 hc⟩
   | arr sz rows =>
    refine ⟨hE.1,fun i r j c hi hj=>?_⟩
    obtain ⟨v,g1,g2,g3,g4⟩:=hE.2 i r j c hi hj
    exact ⟨v,g1,g2,g3,g4.mono hF.sub (fun _ _ _ _ h=>h)⟩
   | uarr sz rows=>cases hU
   | map es clock=>exact hE
  ·have hn:=lI hu hk
   obtain ⟨en0,h1,h2,e⟩:=cf hk
   cases en0 with
   | var cells=>cases e
   | arr sz rows=>cases e
   | map es clock=>cases e
   | uarr sz0 rows0 =>
    cases e
    obtain ⟨av,cap,g1,g2,g3,g4⟩:=h.usto l _ _ h1
    refine ⟨av,cap,by unfold mD; rw[if_neg (by simp[h2])]; exact g1,by simpa using g2,fun i r hi=>?_,fun hne=>?_⟩
    ·simp only[List.getElem?_map,Option.map_eq_some_iff] at hi
     obtain ⟨r0,hi,rfl⟩:=hi
     rw[List.length_map]; exact g3 i r0 hi
    ·obtain ⟨b,q,rfl,g5⟩:=g4 (by intro e; subst e; exact hne rfl)
     refine ⟨b,q,rfl,fun i r j c hi hj=>?_⟩
     have hc:=dG (gz hn r (List.mem_iff_getElem?.2 ⟨i,hi⟩)) hj
     simp only[List.getElem?_map,Option.map_eq_some_iff] at hi
     obtain ⟨r0,hi,rfl⟩:=hi
     simp only[List.getElem?_map,Option.map_eq_some_iff] at hj
     obtain ⟨c',hj,rfl⟩:=hj
     obtain ⟨v,q1,q2,q3⟩:=g5 i r0 j c' hi hj
     exact ⟨v,q1,q2,Zd hF q3 hc⟩
  ·obtain ⟨h1,h2⟩:=vy hk
   obtain ⟨en',hen',hU⟩:=h.bdom k' b h1
   refine ⟨rR k en en',?_,by rw[Zc]; exact hU⟩
   simp only
   rw[qH,pH,if_neg (by rw[h2]; simp),hen']
   rfl
 cases hU:en.isU with
 | false =>
  obtain ⟨b,hb,hE⟩:=h.sto k en hen hU
  refine main (fun b' _=>b'=b) ?_ ⟨fun b o hi=>.inl hi,fun _=>⟨b,hb,hE,fun o=>.inr rfl⟩,fun sz rows e=>by subst e; cases hU⟩
  rintro b' o rfl
  obtain ⟨g1,g2,g3⟩:=h.bnew k b' hb
  refine ⟨g1,g2,fun k' hk'=>?_,fun l o' len cap sz c hl _ h1 h2=>?_⟩
  ·obtain ⟨q1,q2⟩:=vy hk'
   have:=h.binj k k' b' hb q1
   subst this
   simp at q2
  ·obtain ⟨b2,o'',e1,_,_,_,_,e6⟩:=h.spare l _ len cap sz (fE hl).1 c h1 h2
   simp only[Option.some.injEq,Addr.mk.injEq] at e1
   obtain ⟨rfl,_⟩:=e1
   exact e6 k hb
 | true =>
  cases en with
  | var cells=>cases hU
  | arr sz rows=>cases hU
  | map es clock=>cases hU
  | uarr sz rows =>
   have hR:=h.usto k _ _ hen
   refine main (fun b q=>∃ o cap,lam k=some (some ⟨b,o,none⟩,0,cap,sz)∧o≤q∧q<o+cap*sz) ?_
    ⟨fun b o hi=>.inl hi,fun hf=>(by cases hf),fun sz' rows' e=>by cases e; exact ⟨hR,fun b o cap q hl hq=>.inr ⟨o,cap,hl,by omega,by omega⟩⟩⟩
   rintro b q ⟨o,cap,hl,h1,h2⟩
   obtain ⟨g1,g2,g3,_⟩:=h.ublock hl (by omega)
   refine ⟨g1,g2,fun k' hk'=>g3 k' (vy hk').1,fun l o' len cap' sz' c hl' _ q1 q2=>?_⟩
   obtain ⟨q3,q4⟩:=fE hl'
   have hne:k≠l:=by
    intro e; subst e
    simp[zf.isU] at q4
   exact h.ldis k l b o o' 0 len cap cap' sz sz' hne hl q3 (by omega) (by omega)
theorem yH.frz {f:FuncId} {xs:List AV} {s:St} {K:AV→St→Prop} {k:Nat} {en:zf} (hen:lk s.sto k=some en) (hu:(s.frozen k en).unmet k=true) (hx:∀ x∈xs,zP k (frz k en x)=false)
  (hc:yH P f (xs.map (Am.frz k en)) (s.frozen k en) K):yH P f xs s K:=by
 intro F a w I β lam hI vs hs hR
 obtain ⟨I',β',lam',h1,h2⟩:=Rn hen hI hu
 refine hc F a w I' β' lam' h1 vs (by simpa using hs) fun i y hy=>?_
 simp only[List.getElem?_map,Option.map_eq_some_iff] at hy
 obtain ⟨x,hy,rfl⟩:=hy
 exact h2 x _ (hR i x hy) (hx x (List.mem_iff_getElem?.2 ⟨i,hy⟩))
end
section
variable {P:Program} {s:St} {K:Exit→St→Prop} {X:Type}
def MH (st:Nat→X→St) (I:Nat→X→Prop) (k:Nat) (K:Exit→St→Prop):Exit→St→Prop
 | .normal,s=>∃ x,St.imp s (st k x)∧I k x
 | e,s=>K e s
@[simp] theorem ahA {st:Nat→X→St} {I:Nat→X→Prop} {k:Nat}:MH st I k K .normal s=(∃ x,St.imp s (st k x)∧I k x):=rfl
@[simp] theorem ajr {st:Nat→X→St} {I:Nat→X→Prop} {k j:Nat}:MH st I k K (.exit j) s=K (.exit j) s:=rfl
@[simp] theorem aj4 {st:Nat→X→St} {I:Nat→X→Prop} {k:Nat}:MH st I k K .ret s=K .ret s:=rfl
theorem Tp {a:zd} (st:Nat→X→St) (I:Nat→X→Prop) (N:Nat) (x0:X) (h0:St.imp s (st 0 x0)) (i0:I 0 x0)
  (h1:∀ k x,k<N→I k x→awp P a (st k x) (MH st I (k+1) K)) (h2:∀ x,I N x→awp P a (st N x) (t7 K)):awp P (.loop a) s K:=by
 refine ⟨fun n s=>∃ k x,k≤N∧n=N-k∧s=st k x∧I k x,N,st 0 x0,h0,⟨0,x0,by omega,by omega,rfl,i0⟩,?_⟩
 rintro n s ⟨k,x,hk,rfl,rfl,hi⟩
 by_cases h:k<N
 ·refine vh (fun e s hs=>?_) (h1 k x h hi)
  cases e with
  | normal =>
   obtain ⟨x',h3,h4⟩:=hs
   exact ⟨N-(k+1),st (k+1) x',by omega,h3,k+1,x',by omega,rfl,rfl,h4⟩
  | _=>exact hs
 ·obtain rfl:k=N:=by omega
  refine vh (fun e s hs=>?_) (h2 x hi)
  cases e with
  | normal=>exact hs.elim
  | _=>exact hs
end
end Go.Am
namespace Go.Proofs.YtpnliopaifpimaaGreat
open Go Go.Am Go.Wr
theorem S4 {f:FuncId} {xs:List AV} {s:St} {K K1:AV→St→Prop} {env:List (Nat × AV)} {out:List (List (Nat × AV))} {B base:Nat} (d:Nat) (hE:qp B env) (hO:pI B out) (hc:yH Tryz.prog f xs s K1)
  (h:∀ r s',K1 r s'→∃ e ρ',yU B ρ'∧s'=⟨env,ρ'++[(B+d,e)],out,base⟩∧frz (B+d) e r=r∧zP (B+d) r=false∧K r ⟨env,ρ',out,base⟩):yH Tryz.prog f xs s K :=
 fun F a w I β lam hI vs hn hv=>Calls.mono (hc F a w I β lam hI vs hn hv) fun e w' ⟨v,e1,r,s',I',β',lam',hK,hI',hR⟩=>by
  obtain ⟨en,ρ',hρ,rfl,hr1,hr2,hk⟩:=h r s' hK
  have hB:B≤B+d:=Nat.le_add_right _ _
  have hz:St.frozen (B+d) en ⟨env,ρ'++[(B+d,en)],out,base⟩=⟨env,ρ',out,base⟩:=by
   unfold St.frozen
   have e1:(env.map fun p=>(p.1,frz (B+d) en p.2))=env:=L5 hB hE
   have e2:((del [B+d] (ρ'++[(B+d,en)])).map fun p=>(p.1,rR (B+d) en p.2))=ρ':=by
    rw[eO hρ (by simp)]
    have:del [B+d] [(B+d,en)]=[]:=by simp[del]
    rw[this,List.append_nil]
    exact tc fun p hp=>by rw[abg hB (hρ p hp).2]
   have e3:(out.map fun f=>f.map fun p=>(p.1,frz (B+d) en p.2))=out:=abi hB hO
   simp only[e1,e2,e3]
  obtain ⟨I2,β2,lam2,h1,h2⟩:=Rn (s:=⟨env,ρ'++[(B+d,en)],out,base⟩) (k:=B+d) (en:=en) (by rw[glk hρ]; simp[lk]) hI' (by
   rw[hz]
   show (kG (B+d) env&&tV (B+d) ρ'&&kH (B+d) out)=true
   rw[bf hE,akm hρ,bg hO]; rfl)
  rw[hz] at h1
  have h3:=h2 r v hR (by rw[hr1]; exact hr2)
  rw[hr1] at h3
  exact ⟨v,e1,r,_,I2,β2,lam2,hk,h1,h3⟩
end Go.Proofs.YtpnliopaifpimaaGreat

namespace Go.Wr
theorem gf {most:Nat}:∀ {k:Nat} {s:Rd},nums most (k+1) s=if (nums most k s).2.1≠0 then nums most k s else ((nums most k s).1++[(zL most (nums most k s).2).1],(zL most (nums most k s).2).2)
 | 0,s=>by by_cases h:s.1=0<;>simp[nums,h]
 | k+1,s=>by
  by_cases h:s.1=0
  ·have e1:∀ j,nums most (j+1) s=((zL most s).1::(nums most j (zL most s).2).1,(nums most j (zL most s).2).2):=fun j=>by rw[nums,if_neg (by simp[h])]
   rw[e1 (k+1),e1 k,gf (k:=k) (s:=(zL most s).2)]
   simp only
   split<;>simp
  ·rw[Kn h,Kn h,if_pos h]
theorem Nq {most:Nat}:∀ {k:Nat} {s:Rd},(nums most k s).2.1=0→(nums most k s).1.length=k
 | 0,s,_=>rfl
 | k+1,s,h=>by
  rw[gf] at h ⊢
  by_cases h1:(nums most k s).2.1=0
  ·rw[if_neg (by simp[h1])]
   simp[Nq h1]
  ·rw[if_pos h1] at h
   exact absurd h h1
theorem Nr {most k:Nat} {s:Rd} (h:(nums most k s).2.1≠0):∀ j,nums most (k+j) s=nums most k s
 | 0=>rfl
 | j+1=>by
  have:=Nr h j
  rw[← Nat.add_assoc,gf,this,if_pos h]
theorem Ns {most:Nat} {s:Rd}:∀ N,∃ L,L≤N∧(∀ k,k<L→(nums most k s).2.1=0)∧(L=N∨(nums most L s).2.1≠0)∧nums most N s=nums most L s
 | 0=>⟨0,Nat.le_refl _,fun k hk=>absurd hk (Nat.not_lt_zero k),.inl rfl,rfl⟩
 | N+1=>by
  obtain ⟨L,h1,h2,h3,h4⟩:=Ns (most:=most) (s:=s) N
  by_cases h:(nums most L s).2.1=0
  ·have hL:L=N:=h3.resolve_right (fun h'=>h' h)
   subst hL
   exact ⟨L+1,Nat.le_refl _,fun k hk=>by
    by_cases hk2:k=L
    ·subst hk2; exact h
    ·exact h2 k (by omega),.inl rfl,rfl⟩
  ·refine ⟨L,by omega,h2,.inr h,?_⟩
   have:=Nr h (N+1-L)
   rwa [show L+(N+1-L)=N+1 by omega] at this
theorem QW {most:Nat}:∀ {k:Nat} {s:Rd},∀ d∈(nums most k s).1,d≤most
 | 0,s,d,h=>by simp[nums] at h
 | k+1,s,d,h=>by
  rw[gf] at h
  split at h
  ·exact QW d h
  ·rcases List.mem_append.1 h with h | h
   ·exact QW d h
   ·rw[List.mem_singleton] at h
    rw[h]
    exact qR.1
def se (q:Rd):List Nat × Rd:=nums 4294967295 (zL 2000 q).1 (zL 2000 q).2
end Go.Wr

namespace Go.Proofs.YtpnliopaifpimaaGreat
open Go Go.Am Go.Wr Go.Dig
section
variable {s:St} {n:Nat} {b:ByteArray} {q:Rd} {K:AV→St→Prop} {env:List (Nat × AV)} {out:List (List (Nat × AV))} {σ:List (Nat × zf)} {B base:Nat}
def tW (q:Rd) (k:Nat):List Nat × Rd:=nums 4294967295 k (zL 2000 q).2
theorem Bn:tW q 0=([],(zL 2000 q).2):=rfl
theorem Bm {k:Nat} (h:(tW q k).2.1=0):tW q (k+1)=((tW q k).1++[(zL 4294967295 (tW q k).2).1],(zL 4294967295 (tW q k).2).2):=by
 have:=gf (most:=4294967295) (k:=k) (s:=(zL 2000 q).2)
 rw[if_neg (fun hne=>hne h)] at this
 exact this
theorem Bl:∃ L,L≤(zL 2000 q).1∧(∀ k,k<L→(tW q k).2.1=0)∧(L=(zL 2000 q).1∨(tW q L).2.1≠0)∧se q=tW q L:=Ns _
theorem Bk {k:Nat} (h:(tW q k).2.1=0):(tW q k).1.length=k:=Nq h
theorem abF {k:Nat}:(tW q k).1.length≤k:=TX
theorem DZ {f:FuncId} {xs:List AV} {s:St} {K:AV→St→Prop} (hc:yH Tryz.prog f xs s fun r s'=>∃ rows,r=Zt 1 rows∧K (.list 1 .plain rows) s'):yH Tryz.prog f xs s K :=
 fun F a w I β lam hI vs hn hv=>Calls.mono (hc F a w I β lam hI vs hn hv) fun e w' ⟨v,e1,r,s',I',β',lam',⟨rows,hr,hk⟩,hI',hR⟩=>by
  subst hr
  refine ⟨v,e1,_,s',I',β',lam',hk,hI',?_⟩
  have:R0 I' w' (Zt 1 rows) v:=by
   unfold Zt at hR ⊢
   by_cases h:rows=[]
   ·simp only[h,if_true] at hR ⊢
    cases hR with
    | base h=>exact h
   ·simp only[h,if_false] at hR ⊢
    cases hR with
    | base h=>exact h
  exact .base (jt _ _ _ this)
theorem P3 {f:FuncId} {xs:List AV} {s:St} {K:AV→St→Prop} (hc:yH Tryz.prog f xs s fun r s'=>∃ c c',r=.agg c∧AV.imp (.agg c) (.agg c')∧K (.agg c') s'):yH Tryz.prog f xs s K :=
 fun F a w I β lam hI vs hn hv=>Calls.mono (hc F a w I β lam hI vs hn hv) fun e w' ⟨v,e1,r,s',I',β',lam',⟨c,c',hr,hi,hk⟩,hI',hR⟩=>by
  subst hr
  refine ⟨v,e1,_,s',I',β',lam',hk,hI',?_⟩
  cases hR with
  | base h=>exact .base (hi _ _ _ h)
end
theorem Ti {m:Am.Mode} {a:List Nat} (ha:ok a) (hn:a.length<1099511627776):ze Tryz.prog dC [nl m a] (bv (decide (a=zh (val a)))):=by
 refine zn AM (by simp) ?_
 simp[PX]
 refine za (xt (m:=stm m) ha hn) (by simp[nw]) (by simp) ?_
 obtain ⟨h1,h2,h3,h4⟩:=YX ha
 have:decide ((((zh (val a)).length:Nat):Int)=(a.length:Int))=decide (a=zh (val a)):=by
  by_cases h:(zh (val a)).length=a.length
  ·have:a=zh (val a):=by rw[← h4,h]; simp
   simp[← this]
  ·have:a≠zh (val a):=fun e=>h (congrArg List.length e.symm)
   have h':¬ (((zh (val a)).length:Nat):Int)=(a.length:Int):=by omega
   simp[this]
   omega
 simp[NB]
 simpa using this
theorem or_hi {r a:Nat} (hr:r<B) (ha:a<B):sX .or .u64 ((r*B:Nat):Int) (a:Int)=((r*B+a:Nat):Int):=by
 rw[z9] at *
 have hbits:IntKind.u64.bits=64:=rfl
 simp only[sX]
 rw[BitVec.toNat_or]
 have e1:(BitVec.ofInt IntKind.u64.bits ((r*4294967296:Nat):Int)).toNat=r*4294967296:=by rw[hbits,BitVec.toNat_ofInt]; omega
 have e2:(BitVec.ofInt IntKind.u64.bits (a:Int)).toNat=a:=by rw[hbits,BitVec.toNat_ofInt]; omega
 rw[e1,e2]
 have h3:=Nat.shiftLeft_add_eq_or_of_lt (i:=32) (b:=a) (by omega) r
 rw[Nat.shiftLeft_eq] at h3
 have:(2:Nat)^32=4294967296:=by decide
 rw[this] at h3
 rw[← h3]
 exact w64 (by omega)
theorem ME {r:Nat} (hr:r<B):IntKind.u64.wrap ((r:Int)*2^min 32 IntKind.u64.bits)=((r*B:Nat):Int):=by
 have:min 32 IntKind.u64.bits=32:=rfl
 rw[this]
 have:(2:Int)^32=4294967296:=by decide
 rw[this]
 rw[z9] at *
 rw[vb]<;>omega
def Dq (m:Am.Mode) (a:List Nat) (d i:Nat):St :=
 {env:=[(0,nl m a),(1,uv d),(6,.sl 13 1 0 a.length),(7,zU (val a/B^(a.length-i)%d)),(15,iv a.length),(16,iv i)],sto:=[(13,.arr 1 (zD (uB a.length (val a/d) i)))]}
theorem Gj {m:Am.Mode} {a:List Nat} {d:Nat} (ha:ok a) (hn:a.length<1099511627776) (h0:0<d) (hd:d<B) (f1:stm m=m) :
  ze Tryz.prog Yl [nl m a,uv d] (.tuple [nD (val a/d),uv (val a%d)]):=by
 refine wW AO (by simp) ?_
 simp[PZ,eMk]
 refine ⟨by omega,by omega,?_⟩
 have hz:val a/B^a.length%d=0:=by rw[Nat.div_eq_of_lt (uC ha)]; exact Nat.zero_mod _
 refine zw (Dq m a d) (fun _=>True) a.length (by simp[Dq,Td,hz]) trivial (fun i hi _=>?_) (fun _=>?_)
 ·have e:(i:Int)<a.length:=by omega
  obtain ⟨k,hk⟩:∃ k,a.length-1-i=k:=⟨_,rfl⟩
  have hk1:a.length-i=k+1:=by omega
  have hk2:a.length-(i+1)=k:=by omega
  have hka:k<a.length:=by omega
  have w0:IntKind.i64.wrap ((a.length:Int)-1)=(a.length:Int)-1:=by rw[wrap64]<;>omega
  have w1:IntKind.i64.wrap ((a.length:Int)-1-i)=(k:Int):=by rw[wrap64]<;>omega
  obtain ⟨s1,s2,s3⟩:=RZ (A:=val a/B^k) h0
  rw[← js ha hka,Nat.div_div_eq_div_mul,← Nat.pow_succ] at s1 s2 s3
  obtain ⟨r,hr⟩:∃ r,val a/B^(k+1)%d=r:=⟨_,rfl⟩
  have hrd:r<d:=by rw[← hr]; exact Nat.mod_lt _ h0
  have hrB:r<B:=by omega
  have hak:=xv ha hka
  have hor:=or_hi hrB hak
  have hsh:=ME hrB
  rw[Nat.succ_eq_add_one,hr] at s1 s2 s3
  obtain ⟨t,ht⟩:∃ t,r*B+a[k]=t:=⟨_,rfl⟩
  obtain ⟨rb,hrb⟩:∃ rb,r*B=rb:=⟨_,rfl⟩
  rw[ht] at hor s1 s2 s3
  rw[hrb] at hor hsh
  have hset:=RY (n:=a.length) (D:=val a/d) hi
  rw[hk,Nat.div_div_eq_div_mul,Nat.mul_comm d,← Nat.div_div_eq_div_mul,← s1] at hset
  obtain ⟨q,hq⟩:∃ q,t/d=q:=⟨_,rfl⟩
  obtain ⟨r2,hr2⟩:∃ r2,t%d=r2:=⟨_,rfl⟩
  rw[hq] at hset s1
  rw[hr2] at s2
  have hqB:q<B:=by rw[s1]; exact Nat.mod_lt _ zX
  have hset':(zD (uB a.length (val a/d) i)).set k [uv q]=zD (uB a.length (val a/d) (i+1)):=by rw[xH,hset]
  have htB:t<18446744073709551616:=by
   have:d*B≤B*B:=Nat.mul_le_mul_right _ (by omega)
   have hBB:B*B=18446744073709551616:=by decide
   omega
  have hfl:=RX (D:=val a/d) (show i≤a.length by omega)
  have hkl:k<(uB a.length (val a/d) i).length:=by omega
  rw[z9] at hak hqB hd
  have u1:IntKind.u64.wrap ((a[k]:Nat):Int)=(a[k]:Nat):=w64 (by omega)
  have u2:IntKind.u64.wrap (d:Int)=d:=w64 (by omega)
  have hd0:¬ (d:Int)=0:=by omega
  have hd0n:¬ d=0:=by omega
  have u3:IntKind.u64.wrap ((t:Int).tdiv d)=(q:Int):=by
   rw[show (t:Int).tdiv d=((t/d:Nat):Int) from rfl,hq]; exact w64 (by omega)
  have u3':IntKind.u64.wrap ((t:Int)/d)=(q:Int):=by
   rw[show (t:Int)/d=((t/d:Nat):Int) by simp,hq]; exact w64 (by omega)
  have u4:(t:Int).tmod d=(r2:Int):=by rw[show (t:Int).tmod d=((t%d:Nat):Int) from rfl,hr2]
  have u5:IntKind.u32.wrap (q:Int)=q:=IntWalk.u32_in _ (by omega)
  simp[kb,Dq,e,w0,w1,hka,hkl,hk1,hk2,hr,xY,hsh,u1,hor,u2,tR,qk,hd0n,u3',u4,u5,splice,hset',s2,zm (show i<4611686018427387904 by omega)]
 ·have htk:(zD (zt a.length (val a/d))).take a.length=zD (zt a.length (val a/d)):=List.take_of_length_le (by rw[List.length_map,zy]; exact Nat.le_refl _)
  have hle2:a.length≤(zt a.length (val a/d)).length:=by rw[zy]; exact Nat.le_refl _
  have key:=xt (m:=.plain) (a:=zt a.length (val a/d)) yM (by rw[zy]; omega)
  have hlt:val a/d<B^a.length:=Nat.lt_of_le_of_lt (Nat.div_le_self _ _) (uC ha)
  rw[yq hlt] at key
  have hr:val a%d<d:=Nat.mod_lt _ h0
  have u5:IntKind.u32.wrap ((val a%d:Nat):Int)=(val a%d:Nat):=IntWalk.u32_in _ (by rw[z9] at hd; omega)
  obtain ⟨r,hr2⟩:∃ r,val a%d=r:=⟨_,rfl⟩
  have hr3:val a/B^(a.length-a.length)%d=r:=by simp[hr2]
  rw[hr2] at u5 ⊢
  simp[kb,Dq,RW,Yx,qK,TF f1,rR,htk,hle2,hr2]
  refine za key (by simp) (by simp) ?_
  simp[ND,u5]
  exact AV.imp.refl
end Go.Proofs.YtpnliopaifpimaaGreat

namespace Go.Dig
def kK (w u2 v1 v2:Nat):Nat:=min (B-1) ((w*B+u2)/(v1*B+v2))
def Jr (g r u2 v2:Nat):Prop:=B≤g∨r*B+u2<g*v2
theorem ae8 {w u2 v1 v2:Nat} (h1:0<v1) (hu:u2<B):kK w u2 v1 v2≤w/v1:=by
 unfold kK
 refine Nat.le_trans (Nat.min_le_right _ _) ?_
 rw[Nat.le_div_iff_mul_le h1]
 have h:=Nat.div_mul_le_self (w*B+u2) (v1*B+v2)
 generalize (w*B+u2)/(v1*B+v2)=q at *
 rw[Nat.mul_add,← Nat.mul_assoc] at h
 apply Nat.le_of_not_lt
 intro hlt
 have:(w+1)*B≤q*v1*B:=Nat.mul_le_mul_right _ hlt
 rw[Nat.add_mul] at this
 omega
theorem ZU {g r w u2 v1 v2:Nat} (h1:0<v1) (hr:w=g*v1+r):Jr g r u2 v2↔kK w u2 v1 v2<g:=by
 have hV:0<v1*B+v2:=by have:=Nat.mul_pos h1 zX; omega
 have key:g≤(w*B+u2)/(v1*B+v2)↔g*v2≤r*B+u2:=by
  rw[Nat.le_div_iff_mul_le hV,hr,Nat.mul_add,Nat.add_mul,← Nat.mul_assoc]
  omega
 unfold Jr kK
 have hB:=zX
 constructor
 ·rintro (h | h)
  ·exact Nat.lt_of_le_of_lt (Nat.min_le_left _ _) (by omega)
  ·exact Nat.lt_of_le_of_lt (Nat.min_le_right _ _) (by omega)
 ·intro h
  apply Classical.byContradiction
  intro hno
  have h2:g≤B-1:=by
   apply Nat.le_of_not_lt; intro h3; exact hno (.inl (by omega))
  have h3:g≤(w*B+u2)/(v1*B+v2):=key.2 (by
   apply Nat.le_of_not_lt; intro h4; exact hno (.inr h4))
  have:=Nat.le_min.2 ⟨h2,h3⟩
  omega
theorem aap {g r w u2 v1 v2:Nat} (_h1:0<v1) (hr:w=g*v1+r) (hw:w≤v1*B+(B-1)) (hv2:v2<B) (hrB:B≤r):¬ Jr g r u2 v2:=by
 have hg:g≤B-1:=by
  apply Nat.le_of_not_lt
  intro h
  have:B*v1≤g*v1:=Nat.mul_le_mul_right _ (by omega)
  rw[Nat.mul_comm v1] at hw
  have:=zX
  omega
 rintro (h | h)
 ·have:=zX; omega
 ·have h2:g*v2≤(B-1)*(B-1):=Nat.mul_le_mul hg (by omega)
  have h3:B*B≤r*B:=Nat.mul_le_mul_right _ hrB
  have h4:(B-1)*(B-1)<B*B:=by decide
  omega
theorem EV {w u2 v1 v2 U V P Q R:Nat} (h1:0<v1) (hu2:u2<B) (hv2:v2<B) (hU:U=(w*B+u2)*P+R) (hR:R<P) (hV:V=(v1*B+v2)*P+Q) (hQ:Q<P) (hUV:U<V*B) :
  U/V≤kK w u2 v1 v2∧kK w u2 v1 v2≤U/V+1:=by
 have hP:0<P:=by omega
 have hV2:0<v1*B+v2:=by have:=Nat.mul_pos h1 zX; omega
 have hVpos:0<V:=by have:=Nat.mul_pos hV2 hP; omega
 constructor
 ·unfold kK
  refine Nat.le_min.2 ⟨?_,?_⟩
  ·have:U/V<B:=Nat.div_lt_of_lt_mul hUV
   omega
  ·rw[Nat.le_div_iff_mul_le hV2]
   have h:=Nat.div_mul_le_self U V
   generalize U/V=q at *
   have h2:q*((v1*B+v2)*P)≤q*V:=Nat.mul_le_mul_left _ (by omega)
   rw[← Nat.mul_assoc] at h2
   apply Nat.le_of_not_lt
   intro hlt
   have:(w*B+u2+1)*P≤q*(v1*B+v2)*P:=Nat.mul_le_mul_right _ hlt
   rw[Nat.add_mul] at this
   omega
 ·have hq1:kK w u2 v1 v2≤B-1:=Nat.min_le_left _ _
  have hq2:kK w u2 v1 v2*(v1*B+v2)≤w*B+u2:=by
   have:kK w u2 v1 v2≤(w*B+u2)/(v1*B+v2):=Nat.min_le_right _ _
   exact Nat.le_trans (Nat.mul_le_mul_right _ this) (Nat.div_mul_le_self _ _)
  generalize kK w u2 v1 v2=g at *
  rcases g with _ | g
  ·exact Nat.zero_le _
  ·have:g≤U/V:=by
    rw[Nat.le_div_iff_mul_le hVpos]
    -- (g+1) V2 P≤U,and V<(V2+1) P,g+1≤B-1≤v1 B
    have e1:(g+1)*(v1*B+v2)*P≤(w*B+u2)*P:=Nat.mul_le_mul_right _ hq2
    have e2:g*V≤g*((v1*B+v2)*P+P):=Nat.mul_le_mul_left _ (by omega)
    have e3:g*P≤(v1*B+v2)*P:=Nat.mul_le_mul_right _ (by
     have:1*B≤v1*B:=Nat.mul_le_mul_right _ h1
     omega)
    rw[Nat.add_mul,Nat.one_mul,Nat.add_mul] at e1
    rw[Nat.mul_add,← Nat.mul_assoc] at e2
    omega
   omega
theorem aeD {g:Nat} {v:List Nat} {k:Nat} (hk:k<v.length):(g*val v)/B^k%B=(g*v[k]+g*val (v.take k)/B^k)%B∧g*val (v.take (k+1))/B^(k+1)=(g*v[k]+g*val (v.take k)/B^k)/B:=by
 have e1:=x7 hk
 have e2:=tE v (k+1)
 rw[Nat.min_eq_left (by omega)] at e2
 constructor
 ·rw[e2,e1,Nat.mul_add,Nat.mul_add,Nat.mul_left_comm g (B^k),Nat.mul_left_comm g (B^(k+1)),dZ,Nat.add_comm]
 ·rw[e1,Nat.mul_add,Nat.mul_left_comm g (B^k),dY,Nat.add_comm]
theorem Y0 {g:Nat} {v:List Nat} (hv:ok v) (hg:g<B) (k:Nat):g*val (v.take k)/B^k<B:=by
 apply Nat.div_lt_of_lt_mul
 have h1:=yS (sx hv k) (n:=k) (by simp; omega)
 have:g*val (v.take k)≤B*val (v.take k):=Nat.mul_le_mul_right _ (by omega)
 have h2:B*val (v.take k)<B*B^k:=Nat.mul_lt_mul_of_pos_left h1 zX
 rw[Nat.mul_comm (B^k)]
 omega
def xd (Z:Nat) (u:List Nat) (k:Nat):List Nat:=zt k Z++u.drop k
theorem YZ {Z:Nat} {u:List Nat}:xd Z u 0=u:=by simp[xd,zt]
theorem eW {Z:Nat} {u:List Nat} {k:Nat} (h:k≤u.length):(xd Z u k).length=u.length:=by simp[xd,zy]; omega
theorem Zo {Z:Nat} {u:List Nat} {k:Nat} (h:k<u.length):(xd Z u k)[k]'(by rw[eW (by omega)]; exact h)=u[k]:=by
 unfold xd
 rw[List.getElem_append_right (by rw[zy]; exact Nat.le_refl _)]
 simp[zy]
theorem Zp {Z:Nat} {u:List Nat} {k:Nat} (h:k<u.length):(xd Z u k).set k (Z/B^k%B)=xd Z u (k+1):=by
 unfold xd
 rw[List.set_append_right _ _ (by rw[zy]; exact Nat.le_refl _),zy,Nat.sub_self,List.drop_eq_getElem_cons h,List.set_cons_zero,qi]
 simp
theorem Ke {Z:Nat} {u:List Nat} {n:Nat} (h:u.length=n):xd Z u n=zt n Z:=by
 unfold xd; rw[List.drop_of_length_le (by omega)]; simp
theorem P8 {n x:Nat}:zt n (x+B^n)=zt n x:=by
 refine UD yM yM (by rw[zy,zy]) ?_
 rw[cJ,cJ,Nat.add_mod_right]
theorem Ci {U n k:Nat} (hk:k<n):(U+B^n)/B^k%B=U/B^k%B:=by
 have h:=P8 (n:=n) (x:=U)
 have h1:k<(zt n (U+B^n)).length:=by rw[zy]; exact hk
 have h2:k<(zt n U).length:=by rw[zy]; exact hk
 rw[← ut h1,← ut h2]
 simp only[h]
def seg (W:List Nat) (off:Nat) (X:List Nat):List Nat:=W.take off++X++W.drop (off+X.length)
theorem fM {W X:List Nat} {off:Nat} (h:off+X.length≤W.length):(seg W off X).length=W.length:=by simp[seg]; omega
theorem Up {W X:List Nat} {off i:Nat} (h:off+X.length≤W.length) (hi:i<X.length):(seg W off X)[off+i]'(by rw[fM h]; omega)=X[i]:=by
 unfold seg
 rw[List.getElem_append_left (by simp; omega),List.getElem_append_right (by simp; omega)]
 congr 1
 simp; omega
theorem Uq {W X:List Nat} {off i d:Nat} (h:off+X.length≤W.length) (hi:i<X.length):(seg W off X).set (off+i) d=seg W off (X.set i d):=by
 unfold seg
 rw[List.length_set,List.set_append_left _ _ (by simp; omega),List.set_append_right _ _ (by simp; omega)]
 have:off+i-(List.take off W).length=i:=by simp; omega
 rw[this]
theorem acv {W:List Nat} {off n:Nat} (h:off+n≤W.length):seg W off ((W.drop off).take n)=W:=by
 unfold seg
 have:((W.drop off).take n).length=n:=by simp; omega
 rw[this]
 rw[List.append_assoc,← List.drop_drop,List.take_append_drop,List.take_append_drop]
theorem RT {N L i t:Nat} (hL:L<B^(i+1)) (hi:i+1<N) (hlt:L+B^i*t<B^N) (ht:(L/B^i+t)/B<B) :
  ((zt N L).set i ((L/B^i+t)%B)).set (i+1) ((L/B^i+t)/B)=zt N (L+B^i*t):=by
 have hLN:L<B^N:=Nat.lt_of_lt_of_le hL (Nat.pow_le_pow_right zX (by omega))
 have hlen:=zy (n:=N) (x:=L)
 have ho:ok (zt N L):=yM
 have hd1:(L/B^i+t)%B<B:=Nat.mod_lt _ zX
 refine UD (RI (RI ho hd1) ht) yM (by simp[zy]) ?_
 rw[yq hlt]
 have e1:=UF (o:=zt N L) (j:=i) (d:=(L/B^i+t)%B) (by omega)
 have e2:=UF (o:=(zt N L).set i ((L/B^i+t)%B)) (j:=i+1) (d:=(L/B^i+t)/B) (by simp; omega)
 rw[yq hLN,ut] at e1
 rw[List.getElem_set_ne (by omega),ut,Nat.div_eq_of_lt hL] at e2
 have h0:0%B=0:=rfl
 rw[h0,Nat.mul_zero,Nat.add_zero] at e2
 have hc:L/B^i<B:=Nat.div_lt_of_lt_mul (by rw[← Nat.pow_succ]; exact hL)
 rw[Nat.mod_eq_of_lt hc] at e1
 have e3:=Nat.mod_add_div (L/B^i+t) B
 have e4:B^(i+1)*((L/B^i+t)/B)=B^i*(B*((L/B^i+t)/B)):=by rw[Nat.pow_succ,Nat.mul_assoc]
 have e5:B^i*((L/B^i+t)%B)+B^i*(B*((L/B^i+t)/B))=B^i*(L/B^i)+B^i*t:=by rw[← Nat.mul_add,e3,Nat.mul_add]
 rw[e2,e4]
 omega
theorem C6 {c a bits:Nat} (hb:bits<32) (hc:c<2^bits) (_ha:a<B):c ||| (a*2^bits%B)=c+a*2^bits%B∧c+a*2^bits%B=(c+a*2^bits)%B∧a*2^bits/B=(c+a*2^bits)/B∧c+a*2^bits%B<B:=by
 have hB:B=2^(32-bits)*2^bits:=by
  rw[← Nat.pow_add,Nat.sub_add_cancel (by omega)]; rfl
 have hm:a*2^bits%B=(a%2^(32-bits))*2^bits:=by
  rw[hB,Nat.mul_mod_mul_right]
 have hlt:a%2^(32-bits)<2^(32-bits):=Nat.mod_lt _ (Nat.pow_pos (by omega))
 have hd:=Nat.div_add_mod (a*2^bits) B
 have hsum:c+a*2^bits%B<B:=by
  rw[hm]
  have:(a%2^(32-bits)+1)*2^bits≤2^(32-bits)*2^bits:=Nat.mul_le_mul_right _ hlt
  rw[Nat.add_mul,← hB] at this
  omega
 refine ⟨?_,?_,?_,hsum⟩
 ·rw[hm]
  have h:=Nat.shiftLeft_add_eq_or_of_lt hc (a%2^(32-bits))
  rw[Nat.shiftLeft_eq] at h
  rw[Nat.or_comm,← h]; omega
 ·have:c+a*2^bits=c+a*2^bits%B+B*(a*2^bits/B):=by omega
  rw[this,Nat.add_mul_mod_self_left,Nat.mod_eq_of_lt hsum]
 ·have:c+a*2^bits=c+a*2^bits%B+B*(a*2^bits/B):=by omega
  rw[this,Nat.add_mul_div_left _ _ zX,Nat.div_eq_of_lt hsum,Nat.zero_add]
def shL (a:List Nat) (bits i:Nat):Nat:=val (a.take i)*2^bits
theorem KW {a:List Nat} {bits:Nat}:shL a bits 0=0:=by simp[shL,val]
theorem eY {bits:Nat} (hb:bits<32):2^bits<B:=by
 have:2^bits<2^32:=Nat.pow_lt_pow_right (by omega) hb
 exact this
theorem RS {a:List Nat} {bits i:Nat} (ha:ok a):shL a bits i<B^i*2^bits:=by
 unfold shL
 exact Nat.mul_lt_mul_of_pos_right (yS (sx ha i) (by simp; omega)) (Nat.pow_pos (by omega))
theorem KV {a:List Nat} {bits i:Nat} (hi:i<a.length):shL a bits (i+1)=shL a bits i+B^i*(a[i]*2^bits):=by
 unfold shL
 rw[x7 hi,Nat.add_mul,Nat.mul_assoc]
theorem FW {a:List Nat} {bits:Nat}:shL a bits a.length=val a*2^bits:=by
 unfold shL; rw[List.take_of_length_le (Nat.le_refl _)]
theorem Rc {n:Nat}:zt n 0=List.replicate n 0:=by
 refine UD yM (Ku n) (by simp[zy]) ?_
 rw[cJ,UE,Nat.zero_mod]
end Go.Dig

namespace Go.Proofs.YtpnliopaifpimaaGreat
open Go Go.Am Go.Dig
theorem abV {c x:Nat} (hc:c<B) (hx:x<B) (h:c ||| x<B):sX .or .u32 (c:Int) (x:Int)=((c ||| x:Nat):Int):=by
 rw[z9] at *
 have hbits:IntKind.u32.bits=32:=rfl
 simp only[sX]
 rw[BitVec.toNat_or]
 have e1:(BitVec.ofInt IntKind.u32.bits (c:Int)).toNat=c:=by rw[hbits,BitVec.toNat_ofInt]; omega
 have e2:(BitVec.ofInt IntKind.u32.bits (x:Int)).toNat=x:=by rw[hbits,BitVec.toNat_ofInt]; omega
 rw[e1,e2]
 exact IntWalk.u32_in _ (by omega)
def Xw (a:List Nat) (m:Am.Mode) (σ:List (Nat × zf)) (out:List (List (Nat × AV))) (b bits i:Nat):St :=
 {env:=[(0,nl m a),(1,zU bits),(5,.sl (b+11) 1 0 (a.length+1)),(13,iv a.length),(14,iv i)],sto:=pt σ (b+11) (.arr 1 (zD (zt (a.length+1) (shL a bits i)))),out:=out,base:=b}
theorem acy {m:Am.Mode} {a:List Nat} {bits:Nat} {s:St} {K:AV→St→Prop} (b:Nat) (ha:ok a) (hn:a.length<1099511627775) (hb:bits<32) (hf:lk s.sto (b+11)=none)
  (h:K (.sl (b+11) 1 0 (a.length+1)) ⟨s.env,pt s.sto (b+11) (.arr 1 (zD (zt (a.length+1) (val a*2^bits)))),s.out,s.base⟩):yH Tryz.prog nI [nl m a,zU bits] s K:=by
 obtain ⟨env,σ,out,base⟩:=s
 simp only at hf h
 refine nu b Tf (by simp) ?_
 have w:IntKind.i64.wrap ((a.length:Int)+1)=(a.length:Int)+1:=wrap64 (by omega) (by omega)
 have e1:((a.length:Int)+1).toNat=a.length+1:=by omega
 simp[cV,w,eMk,e1,hf]
 refine ⟨by omega,by omega,by omega,?_⟩
 refine zw (Xw a m σ (env::out) b bits) (fun _=>True) a.length (by simp[Xw,KW,Rc]; exact .inl rfl) trivial (fun i hi _=>?_) (fun _=>?_)
 ·have e:(i:Int)<a.length:=by omega
  have hpow:=eY hb
  have hak:=xv ha hi
  have hL:=RS (bits:=bits) (i:=i) ha
  have hLB:shL a bits i<B^(i+1):=by
   have:B^i*2^bits≤B^i*B:=Nat.mul_le_mul_left _ (by omega)
   rw[Nat.pow_succ]; omega
  have hc:shL a bits i/B^i<2^bits:=Nat.div_lt_of_lt_mul hL
  obtain ⟨o1,o2,o3,o4⟩:=C6 (c:=shL a bits i/B^i) (a:=a[i]) hb hc hak
  have hsucc:=KV (bits:=bits) hi
  have hL2:=RS (bits:=bits) (i:=i+1) ha
  have hLN:shL a bits (i+1)<B^(a.length+1):=by
   have h1:B^(i+1)*2^bits≤B^(i+1)*B:=Nat.mul_le_mul_left _ (by omega)
   have h3:B^(i+1+1)=B^(i+1)*B:=Nat.pow_succ _ _
   have h2:B^(i+1+1)≤B^(a.length+1):=Nat.pow_le_pow_right zX (by omega)
   omega
  have htB:(shL a bits i/B^i+a[i]*2^bits)/B<B:=by
   rw[← o3]
   apply Nat.div_lt_of_lt_mul
   exact Nat.mul_lt_mul_of_lt_of_lt hak hpow
  have hstep:=RT (N:=a.length+1) (i:=i) (t:=a[i]*2^bits) hLB (by omega) (by rw[← hsucc]; exact hLN) htB
  rw[← hsucc,← o2,← o3] at hstep
  have hlen:=zy (n:=a.length+1) (x:=shL a bits i)
  have hi1:i<(zt (a.length+1) (shL a bits i)).length:=by omega
  have hget:(zt (a.length+1) (shL a bits i))[i]=shL a bits i/B^i:=by
   rw[ut,Nat.mod_eq_of_lt (Nat.lt_trans hc hpow)]
  obtain ⟨c,hcE⟩:∃ c,shL a bits i/B^i=c:=⟨_,rfl⟩
  obtain ⟨t,htE⟩:∃ t,a[i]*2^bits=t:=⟨_,rfl⟩
  have htlt:t<B*B:=by rw[← htE]; exact Nat.mul_lt_mul_of_lt_of_lt hak hpow
  rw[hcE,htE] at o1 o4 hstep
  rw[hcE] at hget hc
  obtain ⟨x,hxE⟩:∃ x,t%B=x:=⟨_,rfl⟩
  obtain ⟨q,hqE⟩:∃ q,t/B=q:=⟨_,rfl⟩
  rw[hxE] at o1 o4 hstep
  rw[hqE] at hstep
  have hxB:x<B:=by rw[← hxE]; exact Nat.mod_lt _ zX
  have hqB:q<B:=by rw[← hqE]; exact Nat.div_lt_of_lt_mul htlt
  have hor:=abV (c:=c) (x:=x) (by omega) hxB (by rw[o1]; exact o4)
  rw[o1] at hor
  obtain ⟨y,hyE⟩:∃ y,c+x=y:=⟨_,rfl⟩
  rw[hyE] at hor hstep
  have hBB:B*B=18446744073709551616:=by decide
  rw[hBB] at htlt
  have f1:IntKind.u32.wrap (t:Int)=(x:Int):=by rw[w32,hxE]
  have f2:(t:Int).fdiv (2^min 32 IntKind.u64.bits)=(q:Int):=by rw[ZH,hqE]
  have f3:IntKind.u32.wrap (q:Int)=q:=IntWalk.u32_in _ (by rw[z9] at hqB; omega)
  have u1:IntKind.u64.wrap ((a[i]:Nat):Int)=(a[i]:Nat):=w64 (by rw[z9] at hak; omega)
  have hmin:min bits IntKind.u64.bits=bits:=by
   have:IntKind.u64.bits=64:=rfl
   omega
  have u2:IntKind.u64.wrap (((a[i]:Nat):Int)*2^bits)=(t:Int):=by
   rw[show ((a[i]:Nat):Int)*2^bits=((a[i]*2^bits:Nat):Int) by simp,htE]; exact w64 htlt
  have hset:((zD (zt (a.length+1) (shL a bits i))).set i [uv y]).set (i+1) [uv q]=zD (zt (a.length+1) (shL a bits (i+1))):=by
   rw[xH,xH,hstep]
  have wi:IntKind.i64.wrap ((i:Int)+1)=(i:Int)+1:=wrap64 (by omega) (by omega)
  have ei1:(i:Int)<a.length+1:=by omega
  have e2:((i:Int)+1).toNat=i+1:=by omega
  have e3:(0:Int)≤(i:Int)+1:=by omega
  have hi2:i+1<(zt (a.length+1) (shL a bits i)).length:=by omega
  have hnb:¬ ((bits:Int)<0):=by omega
  simp[rG,Xw,e,hi,hi1,hi2,ei1,e2,e3,hget,hor,u1,xY,wG,hmin,u2,f1,f2,f3,wi,splice,hset]
 ·have:zt (a.length+1) (shL a bits a.length)=zt (a.length+1) (val a*2^bits):=by rw[FW]
  simp[rG,Xw,jh,bq,this]
  exact h
def gK (w v1 k:Nat):Nat:=w/v1-k
def rK (w v1 k:Nat):Nat:=w%v1+k*v1
theorem Ey {w v1 k:Nat} (hk:k≤w/v1):w=gK w v1 k*v1+rK w v1 k:=by
 unfold gK rK
 have h:=Nat.div_add_mod w v1
 have:(w/v1-k)*v1+k*v1=v1*(w/v1):=by rw[← Nat.add_mul,Nat.sub_add_cancel hk,Nat.mul_comm]
 omega
structure az (W v:List Nat) (off e:Nat):Prop where
 okW:ok W
 okv:ok v
 hv:v.length=e+2
 hW:off+e+3≤W.length
 small:W.length<1099511627776
def qX (W:List Nat) (off e:Nat):Nat:=W.getD (off+(e+2)) 0*B+W.getD (off+(e+1)) 0
def Xr (m:Am.Mode) (W v:List Nat) (σ:List (Nat × zf)) (out:List (List (Nat × AV))) (b j off e k:Nat):St :=
 {env:=[(0,.sl j 1 off (e+3)),(1,nl m v),(5,iv ((e:Int)+2)),(7,zU (gK (qX W off e) (v.getD (e+1) 0) k)),(8,zU (rK (qX W off e) (v.getD (e+1) 0) k))],sto:=σ,out:=out,base:=b}
theorem JL {m:Am.Mode} {W v:List Nat} {σ:List (Nat × zf)} {out:List (List (Nat × AV))} {b j off e:Nat} {K:Exit→St→Prop} (h:az W v off e) (hj:lk σ j=some (.arr 1 (zD W)))
  (h1:0<v.getD (e+1) 0) (hw:qX W off e≤v.getD (e+1) 0*B+(B-1)) (g:Nat) (hg:g=kK (qX W off e) (W.getD (off+e) 0) (v.getD (e+1) 0) (v.getD e 0))
  (hK:∀ r q y,(q=69∨q=81)→awp Tryz.prog uq {env:=[(0,.sl j 1 off (e+3)),(1,nl m v),(5,iv ((e:Int)+2)),(7,zU g),(8,r),(q,y)],sto:=σ,out:=out,base:=b} K) :
  awp Tryz.prog (.loop vj) (Xr m W v σ out b j off e 0) (vi 0 (pS Tryz.prog uq K)):=by
 have hvl:=h.hv
 have hWl:=h.hW
 have hsm:=h.small
 have hv0:e<v.length:=by omega
 have hv1:e+1<v.length:=by omega
 have hW0:off+e<W.length:=by omega
 have q1:v.getD (e+1) 0=v[e+1]:=by simp[hv1]
 have q2:v.getD e 0=v[e]:=by simp[hv0]
 have q3:W.getD (off+e) 0=W[off+e]:=by simp[hW0]
 have hu2:W.getD (off+e) 0<B:=tH h.okW _
 have hv2B:v.getD e 0<B:=tH h.okv _
 have hv1B:v.getD (e+1) 0<B:=tH h.okv _
 have hwB:qX W off e<B*B:=by
  have a1:=tH h.okW (off+(e+2))
  have a2:=tH h.okW (off+(e+1))
  have:(W.getD (off+(e+2)) 0+1)*B≤B*B:=Nat.mul_le_mul_right _ a1
  unfold qX
  rw[Nat.add_mul] at this
  omega
 generalize hwe:qX W off e=w at *
 generalize hv1e:v.getD (e+1) 0=v1 at *
 generalize hu2e:W.getD (off+e) 0=u2 at *
 generalize hv2e:v.getD e 0=v2 at *
 have hle:=ae8 (w:=w) (v2:=v2) h1 hu2
 rw[← hg] at hle
 rw[show B*B=18446744073709551616 by decide] at hwB
 have hst:∀ k,Xr m W v σ out b j off e k={env:=[(0,.sl j 1 off (e+3)),(1,nl m v),(5,iv ((e:Int)+2)),(7,zU (gK w v1 k)),(8,zU (rK w v1 k))],sto:=σ,out:=out,base:=b}:=fun k=>by
  rw[Xr,hwe,hv1e]
 have i1:IntKind.i64.wrap ((e:Int))=e:=wrap64 (by omega) (by omega)
 have i2:IntKind.i64.wrap ((e:Int)+1)=(e:Int)+1:=wrap64 (by omega) (by omega)
 have i5:IntKind.i64.wrap ((e:Int)+2-1)=(e:Int)+1:=by rw[wrap64]<;>omega
 have i6:IntKind.i64.wrap ((e:Int)+2-2)=(e:Int):=by rw[wrap64]<;>omega
 have i3:((e:Int)+1).toNat=e+1:=by omega
 have i4:(0:Int)≤(e:Int)+1:=by omega
 have c1:IntKind.u64.wrap (v1:Int)=v1:=w64 (by rw[z9] at hv1B; omega)
 have c2:IntKind.u64.wrap (v2:Int)=v2:=w64 (by rw[z9] at hv2B; omega)
 have c3:IntKind.u64.wrap (u2:Int)=u2:=w64 (by rw[z9] at hu2; omega)
 have p1:v[e+1]=v1:=by rw[← q1]
 have p2:v[e]=v2:=by rw[← q2]
 have p3:W[off+e]=u2:=by rw[← q3]
 have x1:(e:Int)<v.length:=by omega
 have x2:(e:Int)+1<v.length:=by omega
 have x3:(e:Int)<(e:Int)+3:=by omega
 refine zw (Xr m W v σ out b j off e) (fun k=>rK w v1 k<B) (w/v1-g) (by rw[hst]; simp) ?_ (fun k hk hr=>?_) (fun hr=>?_)
 ·show rK w v1 0<B
  unfold rK
  rw[Nat.zero_mul,Nat.add_zero]
  exact Nat.lt_trans (Nat.mod_lt w h1) hv1B
 ·have hkw:k≤w/v1:=Nat.le_trans (Nat.le_of_lt hk) (Nat.sub_le _ _)
  have hkw2:k+1≤w/v1:=Nat.le_trans hk (Nat.sub_le _ _)
  have heq:=Ey (w:=w) (v1:=v1) (k:=k) hkw
  have hbig:=(ZU (u2:=u2) (v2:=v2) h1 heq).2 (by rw[← hg]; unfold gK; omega)
  have hgk:gK w v1 (k+1)+1=gK w v1 k:=by unfold gK; omega
  have hrk:rK w v1 (k+1)=rK w v1 k+v1:=by unfold rK; rw[Nat.add_mul]; omega
  have heq2:=Ey (w:=w) (v1:=v1) (k:=k+1) (by omega)
  have hbrk:=fun hB=>aap (u2:=u2) (v2:=v2) h1 heq2 hw hv2B hB
  have hgle:gK w v1 k≤w:=by
   have:w/v1≤w:=Nat.div_le_self _ _
   unfold gK; omega
  have hend:B≤rK w v1 (k+1)→gK w v1 (k+1)=g:=fun hB=>by
   have:=hbrk hB
   rw[ZU h1 heq2,← hg] at this
   unfold gK at *
   omega
  rw[hst]
  have hgsub:IntKind.u64.wrap ((gK w v1 k:Int)-1)=(gK w v1 (k+1):Int):=by rw[vb]<;>omega
  have hradd:IntKind.u64.wrap ((rK w v1 k:Int)+(v1:Int))=(rK w v1 (k+1):Int):=by
   rw[z9] at hr hv1B
   rw[vb]<;>omega
  have rest:∀ K2,(∀ q y,(q=69∨q=81)→(¬ B≤rK w v1 (k+1)→K2 Exit.normal {env:=[(0,.sl j 1 off (e+3)),(1,nl m v),(5,iv ((e:Int)+2)),(7,zU (gK w v1 (k+1))),(8,zU (rK w v1 (k+1))),(q,y)],sto:=σ,out:=out,base:=b}) ∧
    (B≤rK w v1 (k+1)→K2 (Exit.exit 0) {env:=[(0,.sl j 1 off (e+3)),(1,nl m v),(5,iv ((e:Int)+2)),(7,zU (gK w v1 (k+1))),(8,zU (rK w v1 (k+1))),(q,y)],sto:=σ,out:=out,base:=b})) →
    awp Tryz.prog vj {env:=[(0,.sl j 1 off (e+3)),(1,nl m v),(5,iv ((e:Int)+2)),(7,zU (gK w v1 k)),(8,zU (rK w v1 k))],sto:=σ,out:=out,base:=b} K2:=by
   intro K2 hK2
   by_cases hB:B≤gK w v1 k
   ·have hB':(4294967296:Int)≤gK w v1 k:=by rw[z9] at hB; omega
    by_cases hBr:B≤rK w v1 (k+1)
    ·have hBr':(4294967296:Int)≤rK w v1 (k+1):=by rw[z9] at hBr; omega
     simp[vj,hB',hBr',hgsub,i5,i3,i4,x2,hv1,p1,c1,hradd]
     exact (hK2 _ _ (by simp)).2 hBr
    ·have hBr':¬ (4294967296:Int)≤rK w v1 (k+1):=by rw[z9] at hBr; omega
     simp[vj,hB',hBr',hgsub,i5,i3,i4,x2,hv1,p1,c1,hradd]
     exact (hK2 _ _ (by simp)).1 hBr
   ·have hB':¬ (4294967296:Int)≤gK w v1 k:=by rw[z9] at hB; omega
    have hlt:rK w v1 k*B+u2<gK w v1 k*v2:=hbig.resolve_left hB
    have hor:=or_hi hr hu2
    have hsh:=ME hr
    have hpl:gK w v1 k*v2<18446744073709551616:=by
     have:gK w v1 k*v2≤(B-1)*(B-1):=Nat.mul_le_mul (by omega) (by omega)
     have:(B-1)*(B-1)<18446744073709551616:=by decide
     omega
    obtain ⟨p,hp⟩:∃ p,gK w v1 k*v2=p:=⟨_,rfl⟩
    obtain ⟨rb,hrb⟩:∃ rb,rK w v1 k*B=rb:=⟨_,rfl⟩
    rw[hp] at hlt hpl
    rw[hrb] at hlt hor hsh
    have hmul:IntKind.u64.wrap ((gK w v1 k:Int)*(v2:Int))=(p:Int):=by
     rw[show (gK w v1 k:Int)*(v2:Int)=((gK w v1 k*v2:Nat):Int) by simp,hp]; exact w64 hpl
    have hlt':(rb:Int)+(u2:Int)<(p:Int):=by omega
    simp only[Int.natCast_add] at hor
    by_cases hBr:B≤rK w v1 (k+1)
    ·have hBr':(4294967296:Int)≤rK w v1 (k+1):=by rw[z9] at hBr; omega
     simp[vj,hB',hBr',hgsub,i1,i5,i3,i4,x1,x2,x3,hv0,hv1,hW0,p1,p2,p3,c1,c2,c3,hj,hmul,xY,hsh,hor,hlt',hradd]
     exact (hK2 _ _ (by simp)).2 hBr
    ·have hBr':¬ (4294967296:Int)≤rK w v1 (k+1):=by rw[z9] at hBr; omega
     simp[vj,hB',hBr',hgsub,i1,i5,i3,i4,x1,x2,x3,hv0,hv1,hW0,p1,p2,p3,c1,c2,c3,hj,hmul,xY,hsh,hor,hlt',hradd]
     exact (hK2 _ _ (by simp)).1 hBr
  refine rest _ fun q y hq=>⟨fun hB=>?_,fun hB=>?_⟩
  ·rw[XA,hst]
   refine ⟨by rcases hq with rfl | rfl<;>simp,by omega⟩
  ·have:=hend hB
   rw[this]
   exact hK _ _ _ hq
 ·have hgk:gK w v1 (w/v1-g)=g:=by unfold gK; omega
  have heq:=Ey (w:=w) (v1:=v1) (k:=w/v1-g) (by omega)
  have hnb:=fun hb=>(ZU (u2:=u2) (v2:=v2) h1 heq).1 hb
  rw[hgk,← hg] at hnb
  have hB:¬ B≤g:=fun hb=>Nat.lt_irrefl _ (hnb (.inl hb))
  have hlt:¬ rK w v1 (w/v1-g)*B+u2<g*v2:=fun hb=>Nat.lt_irrefl _ (hnb (.inr hb))
  have hB':¬ (4294967296:Int)≤g:=by rw[z9] at hB; omega
  have hor:=or_hi hr hu2
  have hsh:=ME hr
  have hst2:Xr m W v σ out b j off e (w/v1-g)={env:=[(0,.sl j 1 off (e+3)),(1,nl m v),(5,iv ((e:Int)+2)),(7,zU g),(8,zU (rK w v1 (w/v1-g)))],sto:=σ,out:=out,base:=b}:=by
   rw[hst,hgk]
  rw[hst2]
  clear hst2 heq
  generalize rK w v1 (w/v1-g)=r at *
  obtain ⟨p,hp⟩:∃ p,g*v2=p:=⟨_,rfl⟩
  obtain ⟨rb,hrb⟩:∃ rb,r*B=rb:=⟨_,rfl⟩
  have hpl:g*v2<18446744073709551616:=by
   have:g*v2≤(B-1)*(B-1):=Nat.mul_le_mul (by omega) (by omega)
   have:(B-1)*(B-1)<18446744073709551616:=by decide
   omega
  rw[hp] at hlt hpl
  rw[hrb] at hlt hor hsh
  have hmul:IntKind.u64.wrap ((g:Int)*(v2:Int))=(p:Int):=by
   rw[show (g:Int)*(v2:Int)=((g*v2:Nat):Int) by simp,hp]; exact w64 hpl
  have hlt':¬ (rb:Int)+(u2:Int)<(p:Int):=by omega
  simp only[Int.natCast_add] at hor
  simp[vj,hB',i1,x1,x3,hv0,hW0,p2,p3,c2,c3,hj,hmul,xY,hsh,hor,hlt']
  exact hK _ _ _ (by simp)
theorem adG {p:Nat} (hp:p<18446744073709551616):sX .and .u64 (p:Int) 4294967295=((p%B:Nat):Int):=by
 have hbits:IntKind.u64.bits=64:=rfl
 simp only[sX]
 rw[BitVec.toNat_and]
 have e1:(BitVec.ofInt IntKind.u64.bits (p:Int)).toNat=p:=by rw[hbits,BitVec.toNat_ofInt]; omega
 have e2:(BitVec.ofInt IntKind.u64.bits 4294967295).toNat=4294967295:=rfl
 rw[e1,e2]
 have h:=Nat.and_two_pow_sub_one_eq_mod p 32
 have:(2:Nat)^32-1=4294967295:=by decide
 rw[this] at h
 rw[h,show (2:Nat)^32=B from rfl]
 exact w64 (Nat.lt_trans (Nat.mod_lt _ zX) (by decide))
def cK (g:Nat) (v:List Nat) (k:Nat):Nat:=g*val (v.take k)/B^k
def Xs (m:Am.Mode) (W v u:List Nat) (σ:List (Nat × zf)) (out:List (List (Nat × AV))) (b j off e g x T k:Nat):St :=
 {env:=[(0,.sl j 1 off (e+3)),(1,nl m v),(5,iv ((e:Int)+2)),(7,zU g),(9,zU (cK g v k)),(10,zU (bor x T k)),(82,iv ((e:Int)+2)),(83,iv k)],sto:=pt σ j (.arr 1 (zD (seg W off (xd (x-T) u k)))),out:=out,base:=b}
section
variable {m:Am.Mode} {W v:List Nat} {σ:List (Nat × zf)} {out:List (List (Nat × AV))} {b j off e g x:Nat} {K:Exit→St→Prop} (h:az W v off e) (hj:lk σ j=some (.arr 1 (zD W)))
  (hg:g<B) (hx:∀ k,k<e+3→x/B^k%B=W.getD (off+k) 0) (hT:g*val v≤x)
include h hj hg hx hT
omit hj in
theorem P7 {s:St} (hs:bh s (Xs m W v ((W.drop off).take (e+3)) σ out b j off e g x (g*val v) 0))
  (hK:awp Tryz.prog rF {env:=[(0,.sl j 1 off (e+3)),(1,nl m v),(5,iv ((e:Int)+2)),(7,zU g),(9,zU (cK g v (e+2))),(10,zU (bor x (g*val v) (e+2))),(82,iv ((e:Int)+2)),(83,iv ((e:Int)+2)),(84,bv false)],sto:=pt σ j (.arr 1 (zD (seg W off (xd (x-g*val v) ((W.drop off).take (e+3)) (e+2))))),out:=out,base:=b} K) :
  awp Tryz.prog (.loop lZ) s (vi 2 (pS Tryz.prog rF K)):=by
 have hvl:=h.hv
 have hWl:=h.hW
 have hsm:=h.small
 generalize hue:(W.drop off).take (e+3)=u at *
 have hul:u.length=e+3:=by rw[← hue]; simp; omega
 refine zw (Xs m W v u σ out b j off e g x (g*val v)) (fun _=>True) (e+2) hs trivial (fun k hk _=>?_) (fun _=>?_)
 ·have hkv:k<v.length:=by omega
  have hku:k<u.length:=by omega
  have hvB:=xv h.okv hkv
  have hWk:off+k<W.length:=by omega
  have huk:u[k]=W[off+k]:=by subst hue; simp
  have hq:W.getD (off+k) 0=W[off+k]:=by simp[hWk]
  have hukB:u[k]<B:=by rw[huk]; exact xv h.okW hWk
  have hcB:cK g v k<B:=Y0 h.okv hg k
  obtain ⟨m1,m2⟩:=aeD (g:=g) hkv
  have hsd:=cG (k:=k) hT
  have hbs:=aG (x:=x) (y:=g*val v) (k:=k)
  have hb1:=SH (x:=x) (y:=g*val v) (k:=k)
  rw[hx k (by omega),hq,← huk,m1] at hsd hbs
  have hck:cK g v (k+1)=(g*v[k]+cK g v k)/B:=m2
  change (((x-g*val v)/B^k%B:Nat):Int)=((u[k]:Nat)-((g*v[k]+cK g v k)%B:Nat)-(bor x (g*val v) k:Nat):Int)%4294967296 at hsd
  change bor x (g*val v) (k+1)=if u[k]<(g*v[k]+cK g v k)%B+bor x (g*val v) k then 1 else 0 at hbs
  have hpB:g*v[k]+cK g v k<18446744073709551616:=by
   have:=co hg hvB hcB zX
   have hBB:B*B=18446744073709551616:=by decide
   omega
  have hmx:=Zp (Z:=x-g*val v) hku
  have hml:=eW (Z:=x-g*val v) (u:=u) (k:=k) (by omega)
  have hmg:=Zo (Z:=x-g*val v) hku
  have hsl:=fM (W:=W) (X:=xd (x-g*val v) u k) (off:=off) (by rw[hml]; omega)
  have hsg:=Up (W:=W) (X:=xd (x-g*val v) u k) (off:=off) (i:=k) (by rw[hml]; omega) (by omega)
  have hss:=Uq (W:=W) (X:=xd (x-g*val v) u k) (off:=off) (i:=k) (d:=(x-g*val v)/B^k%B) (by rw[hml]; omega) (by omega)
  rw[hmx] at hss
  rw[hmg] at hsg
  obtain ⟨d,hd⟩:∃ d,(x-g*val v)/B^k%B=d:=⟨_,rfl⟩
  rw[hd] at hss hsd
  obtain ⟨p,hp⟩:∃ p,g*v[k]+cK g v k=p:=⟨_,rfl⟩
  obtain ⟨gv,hgv⟩:∃ gv,g*v[k]=gv:=⟨_,rfl⟩
  rw[hp] at hsd hbs hck hpB
  rw[hgv] at hp
  obtain ⟨pl,hpl⟩:∃ pl,p%B=pl:=⟨_,rfl⟩
  rw[hpl] at hsd hbs
  have hplB:pl<B:=by rw[← hpl]; exact Nat.mod_lt _ zX
  obtain ⟨c2,hc2⟩:∃ c2,p/B=c2:=⟨_,rfl⟩
  rw[hc2] at hck
  rw[Xs]
  generalize bor x (g*val v) k=b0 at *
  generalize hb2:bor x (g*val v) (k+1)=b2 at *
  have hA:off+k<(seg W off (xd (x-g*val v) u k)).length:=by omega
  have hset:(zD (seg W off (xd (x-g*val v) u k))).set (off+k) [uv d]=zD (seg W off (xd (x-g*val v) u (k+1))):=by rw[xH,hss]
  have hst1:Xs m W v u σ out b j off e g x (g*val v) (k+1)={env:=[(0,.sl j 1 off (e+3)),(1,nl m v),(5,iv ((e:Int)+2)),(7,zU g),(9,zU c2),(10,zU b2),(82,iv ((e:Int)+2)),(83,iv ((k:Int)+1))],sto:=pt σ j (.arr 1 (zD (seg W off (xd (x-g*val v) u (k+1))))),out:=out,base:=b}:=by
   rw[Xs,hck,hb2]; rfl
  clear hd
  generalize huk2:u[k]=uk at *
  have ek:(k:Int)<(e:Int)+2:=by omega
  have ekv:(k:Int)<v.length:=by omega
  have ek3:(k:Int)<(e:Int)+3:=by omega
  have u1:IntKind.u64.wrap ((v[k]:Nat):Int)=(v[k]:Nat):=w64 (Nat.lt_trans hvB (by decide))
  have u2:IntKind.u64.wrap ((g:Int)*(v[k]:Int))=(gv:Int):=by
   rw[show (g:Int)*(v[k]:Int)=((g*v[k]:Nat):Int) by simp,hgv]; exact w64 (by omega)
  have u3:IntKind.u64.wrap ((gv:Int)+(cK g v k:Int))=(p:Int):=by rw[vb]<;>omega
  have u4:(p:Int).fdiv (2^min 32 IntKind.u64.bits)=(c2:Int):=by rw[ZH,hc2]
  have u5:=adG hpB
  rw[hpl] at u5
  rw[z9] at hukB hplB
  have u6:IntKind.u64.wrap (uk:Int)=uk:=w64 (by omega)
  have u7:=adm ((uk:Int)-(pl:Int)) (b0:Int)
  have u8:=MI ((uk:Int)-(pl:Int)-(b0:Int))
  rw[← hsd] at u8
  have u9:=MF (u:=(uk:Int)-(pl:Int)-(b0:Int)) (by omega) (by omega)
  have u10:(if (uk:Int)-(pl:Int)-(b0:Int)<0 then (1:Int) else 0)=(b2:Int):=by
   rw[hbs]; split<;>split<;>omega
  rw[u10] at u9
  have w1:IntKind.i64.wrap ((k:Int)+1)=(k:Int)+1:=wrap64 (by omega) (by omega)
  simp[lZ,ek,ekv,ek3,hkv,u1,u2,u3,u4,u5,u6,u7,u8,u9,hA,hsg,splice,hset,w1,wG,hst1]
 ·simp[lZ,Xs]
  exact hK
end
def Sg (m:Am.Mode) (W v z:List Nat) (σ:List (Nat × zf)) (out:List (List (Nat × AV))) (b j off e g k:Nat):St :=
 {env:=[(0,.sl j 1 off (e+3)),(1,nl m v),(5,iv ((e:Int)+2)),(7,zU g),(9,zU (car z v k)),(134,iv ((e:Int)+2)),(135,iv k)],sto:=pt σ j (.arr 1 (zD (seg W off (xd (val z+val v) z k)))),out:=out,base:=b}
section
variable {m:Am.Mode} {W v z:List Nat} {σ:List (Nat × zf)} {out:List (List (Nat × AV))} {b j off e g:Nat} {K:Exit→St→Prop} (h:az W v off e) (hz:ok z) (hzl:z.length=e+3)
include h hz hzl
theorem El {s:St} (hs:bh s (Sg m W v z σ out b j off e g 0))
  (hK:awp Tryz.prog pB {env:=[(0,.sl j 1 off (e+3)),(1,nl m v),(5,iv ((e:Int)+2)),(7,zU g),(9,zU (car z v (e+2))),(134,iv ((e:Int)+2)),(135,iv ((e:Int)+2)),(136,bv false)],sto:=pt σ j (.arr 1 (zD (seg W off (xd (val z+val v) z (e+2))))),out:=out,base:=b} K) :
  awp Tryz.prog (.loop l0) s (vi 4 (pS Tryz.prog pB K)):=by
 have hvl:=h.hv
 have hWl:=h.hW
 have hsm:=h.small
 refine zw (Sg m W v z σ out b j off e g) (fun _=>True) (e+2) hs trivial (fun k hk _=>?_) (fun _=>?_)
 ·have hkv:k<v.length:=by omega
  have hkz:k<z.length:=by omega
  have hvB:=xv h.okv hkv
  have hzB:=xv hz hkz
  have hc:=S6 hz h.okv k
  obtain ⟨t,ht,g1,g2⟩:=Qq (a:=z) (b:=v) hkz (by omega)
  rw[List.getElem?_eq_getElem hkv,Option.getD_some] at ht
  have hmx:=Zp (Z:=val z+val v) hkz
  have hml:=eW (Z:=val z+val v) (u:=z) (k:=k) (by omega)
  have hmg:=Zo (Z:=val z+val v) hkz
  have hsl:=fM (W:=W) (X:=xd (val z+val v) z k) (off:=off) (by rw[hml]; omega)
  have hsg:=Up (W:=W) (X:=xd (val z+val v) z k) (off:=off) (i:=k) (by rw[hml]; omega) (by omega)
  have hss:=Uq (W:=W) (X:=xd (val z+val v) z k) (off:=off) (i:=k) (d:=(val z+val v)/B^k%B) (by rw[hml]; omega) (by omega)
  rw[hmx,g1] at hss
  rw[hmg] at hsg
  obtain ⟨d,hd⟩:∃ d,t%B=d:=⟨_,rfl⟩
  obtain ⟨q,hq⟩:∃ q,t/B=q:=⟨_,rfl⟩
  rw[hd] at hss
  rw[hq] at g2
  have hA:off+k<(seg W off (xd (val z+val v) z k)).length:=by omega
  have hset:(zD (seg W off (xd (val z+val v) z k))).set (off+k) [uv d]=zD (seg W off (xd (val z+val v) z (k+1))):=by rw[xH,hss]
  have hst1:Sg m W v z σ out b j off e g (k+1)={env:=[(0,.sl j 1 off (e+3)),(1,nl m v),(5,iv ((e:Int)+2)),(7,zU g),(9,zU q),(134,iv ((e:Int)+2)),(135,iv ((k:Int)+1))],sto:=pt σ j (.arr 1 (zD (seg W off (xd (val z+val v) z (k+1))))),out:=out,base:=b}:=by
   rw[Sg,g2]; rfl
  rw[Sg]
  generalize car z v k=c at *
  generalize hzk:z[k]=zk at *
  generalize hvk:v[k]=vk at *
  rw[z9] at hvB hzB
  have ek:(k:Int)<(e:Int)+2:=by omega
  have ekv:(k:Int)<v.length:=by omega
  have ek3:(k:Int)<(e:Int)+3:=by omega
  have f1:IntKind.u32.wrap (t:Int)=(d:Int):=by rw[w32,hd]
  have f2:(t:Int).fdiv (2^min 32 IntKind.u64.bits)=(q:Int):=by rw[ZH,hq]
  have u1:IntKind.u64.wrap (vk:Int)=vk:=w64 (by omega)
  have u2:IntKind.u64.wrap (zk:Int)=zk:=w64 (by omega)
  have u3:IntKind.u64.wrap ((zk:Int)+(vk:Int))=(zk:Int)+vk:=by rw[vb]<;>omega
  have u4:IntKind.u64.wrap ((zk:Int)+(vk:Int)+(c:Int))=(t:Int):=by rw[vb]<;>omega
  have w1:IntKind.i64.wrap ((k:Int)+1)=(k:Int)+1:=wrap64 (by omega) (by omega)
  simp[l0,ek,ekv,ek3,hkv,hvk,u1,u2,u3,u4,f1,f2,hA,hsg,splice,hset,w1,wG,hst1]
 ·simp[l0,Sg]
  exact hK
theorem aal (hg:0<g) (hgB:g<B):awp Tryz.prog pB {env:=[(0,.sl j 1 off (e+3)),(1,nl m v),(5,iv ((e:Int)+2)),(7,zU g),(9,zU (car z v (e+2))),(134,iv ((e:Int)+2)),(135,iv ((e:Int)+2)),(136,bv false)],sto:=pt σ j (.arr 1 (zD (seg W off (xd (val z+val v) z (e+2))))),out:=out,base:=b}
  (fun ex s=>ex=.ret∧s={env:=[(4,uv (g-1))],sto:=pt σ j (.arr 1 (zD (seg W off (zt (e+3) (val z+val v))))),out:=out,base:=b}):=by
 have hvl:=h.hv
 have hWl:=h.hW
 have hsm:=h.small
 have hkz:e+2<z.length:=by omega
 have hzB:=xv hz hkz
 have hc:=S6 hz h.okv (e+2)
 obtain ⟨t,ht,g1,g2⟩:=Qq (a:=z) (b:=v) hkz (by omega)
 rw[List.getElem?_eq_none (by omega),Option.getD_none] at ht
 have hmx:=Zp (Z:=val z+val v) hkz
 have hml:=eW (Z:=val z+val v) (u:=z) (k:=e+2) (by omega)
 have hmg:=Zo (Z:=val z+val v) hkz
 have hsl:=fM (W:=W) (X:=xd (val z+val v) z (e+2)) (off:=off) (by rw[hml]; omega)
 have hsg:=Up (W:=W) (X:=xd (val z+val v) z (e+2)) (off:=off) (i:=e+2) (by rw[hml]; omega) (by omega)
 have hss:=Uq (W:=W) (X:=xd (val z+val v) z (e+2)) (off:=off) (i:=e+2) (d:=(val z+val v)/B^(e+2)%B) (by rw[hml]; omega) (by omega)
 rw[hmx,g1,show e+2+1=e+3 from rfl,Ke hzl] at hss
 rw[hmg] at hsg
 obtain ⟨d,hd⟩:∃ d,t%B=d:=⟨_,rfl⟩
 rw[hd] at hss
 have hA:off+(e+2)<(seg W off (xd (val z+val v) z (e+2))).length:=by omega
 have hset:(zD (seg W off (xd (val z+val v) z (e+2)))).set (off+(e+2)) [uv d]=zD (seg W off (zt (e+3) (val z+val v))):=by rw[xH,hss]
 generalize car z v (e+2)=c at *
 generalize hzk:z[e+2]=zk at *
 have e1:((e:Int)+2).toNat=e+2:=by omega
 have e2:(0:Int)≤(e:Int)+2:=by omega
 have e3:(e:Int)+2<(e:Int)+3:=by omega
 have u1:IntKind.u32.wrap (c:Int)=c:=IntWalk.u32_in _ (by omega)
 have u2:IntKind.u32.wrap ((zk:Int)+(c:Int))=(d:Int):=by
  have:(zk:Int)+(c:Int)=(t:Int):=by omega
  rw[this,w32,hd]
 rw[z9] at hgB
 have u3:IntKind.u64.wrap ((g:Int)-1)=((g-1:Nat):Int):=by rw[vb]<;>omega
 have u4:IntKind.u32.wrap ((g-1:Nat):Int)=((g-1:Nat):Int):=IntWalk.u32_in _ (by omega)
 simp[pB,e1,e2,e3,hA,hsg,u1,u2,u3,u4,splice,hset]
end
theorem Rt {α:Type} {l:List (Nat × α)} {n:Nat} {x:α} (h:lk l n=some x):lk (pt l n x)=lk l:=by
 funext i
 rw[ua]
 split
 ·subst i; exact h.symm
 ·rfl
section
variable {m:Am.Mode} {W v:List Nat} {σ:List (Nat × zf)} {out:List (List (Nat × AV))} {b j off e g x:Nat} {K:Exit→St→Prop} (h:az W v off e)
  (hg:g<B) (hx:∀ k,k<e+3→x/B^k%B=W.getD (off+k) 0) (hT:g*val v≤x) (hZ:x-g*val v<B^(e+3))
include h hg hx hT hZ
theorem Em (hK0:bor x (g*val v) (e+3)=0→K .ret {env:=[(4,uv g)],sto:=pt σ j (.arr 1 (zD (seg W off (zt (e+3) (x-g*val v))))),out:=out,base:=b})
  (hK1:bor x (g*val v) (e+3)=1→0<g∧K .ret {env:=[(4,uv (g-1))],sto:=pt σ j (.arr 1 (zD (seg W off (zt (e+3) (x-g*val v+val v))))),out:=out,base:=b}) :
  awp Tryz.prog rF {env:=[(0,.sl j 1 off (e+3)),(1,nl m v),(5,iv ((e:Int)+2)),(7,zU g),(9,zU (cK g v (e+2))),(10,zU (bor x (g*val v) (e+2))),(82,iv ((e:Int)+2)),(83,iv ((e:Int)+2)),(84,bv false)],sto:=pt σ j (.arr 1 (zD (seg W off (xd (x-g*val v) ((W.drop off).take (e+3)) (e+2))))),out:=out,base:=b} K:=by
 have hvl:=h.hv
 have hWl:=h.hW
 have hsm:=h.small
 generalize hue:(W.drop off).take (e+3)=u at *
 have hul:u.length=e+3:=by rw[← hue]; simp; omega
 have hku:e+2<u.length:=by omega
 have hWk:off+(e+2)<W.length:=by omega
 have huk:u[e+2]=W[off+(e+2)]:=by subst hue; simp
 have hq:W.getD (off+(e+2)) 0=W[off+(e+2)]:=by simp[hWk]
 have hukB:u[e+2]<B:=by rw[huk]; exact xv h.okW hWk
 have hcB:cK g v (e+2)<B:=Y0 h.okv hg (e+2)
 have hcT:g*val v/B^(e+2)%B=cK g v (e+2):=by
  have:cK g v (e+2)=g*val v/B^(e+2):=by unfold cK; rw[List.take_of_length_le (by omega)]
  rw[← this,Nat.mod_eq_of_lt hcB]
 have hsd:=cG (k:=e+2) hT
 have hbs:=aG (x:=x) (y:=g*val v) (k:=e+2)
 have hb1:=SH (x:=x) (y:=g*val v) (k:=e+2)
 rw[hx (e+2) (by omega),hq,← huk,hcT] at hsd hbs
 have hmx:=Zp (Z:=x-g*val v) hku
 rw[show e+2+1=e+3 from rfl,Ke hul] at hmx
 have hml:=eW (Z:=x-g*val v) (u:=u) (k:=e+2) (by omega)
 have hmg:=Zo (Z:=x-g*val v) hku
 have hsl:=fM (W:=W) (X:=xd (x-g*val v) u (e+2)) (off:=off) (by rw[hml]; omega)
 have hsg:=Up (W:=W) (X:=xd (x-g*val v) u (e+2)) (off:=off) (i:=e+2) (by rw[hml]; omega) (by omega)
 have hss:=Uq (W:=W) (X:=xd (x-g*val v) u (e+2)) (off:=off) (i:=e+2) (d:=(x-g*val v)/B^(e+2)%B) (by rw[hml]; omega) (by omega)
 rw[hmx] at hss
 rw[hmg] at hsg
 obtain ⟨d,hd⟩:∃ d,(x-g*val v)/B^(e+2)%B=d:=⟨_,rfl⟩
 rw[hd] at hss hsd
 rw[show e+2+1=e+3 from rfl] at hbs
 have hA:off+(e+2)<(seg W off (xd (x-g*val v) u (e+2))).length:=by omega
 have hset:(zD (seg W off (xd (x-g*val v) u (e+2)))).set (off+(e+2)) [uv d]=zD (seg W off (zt (e+3) (x-g*val v))):=by rw[xH,hss]
 have hg0:bor x (g*val v) (e+3)=1→0<g:=fun h1=>by
  rcases Nat.eq_zero_or_pos g with h0 | h0
  ·exfalso
   rw[h0,Nat.zero_mul] at h1
   simp[bor] at h1
  ·exact h0
 generalize cK g v (e+2)=c at *
 generalize bor x (g*val v) (e+2)=b0 at *
 generalize hb2:bor x (g*val v) (e+3)=b2 at *
 generalize huk2:u[e+2]=uk at *
 clear hd
 have e1:((e:Int)+2).toNat=e+2:=by omega
 have e2:(0:Int)≤(e:Int)+2:=by omega
 have e3:(e:Int)+2<(e:Int)+3:=by omega
 rw[z9] at hukB hcB
 have u6:IntKind.u64.wrap (uk:Int)=uk:=w64 (by omega)
 have u7:=adm ((uk:Int)-(c:Int)) (b0:Int)
 have u8:=MI ((uk:Int)-(c:Int)-(b0:Int))
 have hsd':((d:Nat):Int)=((uk:Int)-(c:Int)-(b0:Int))%4294967296:=hsd
 rw[← hsd'] at u8
 have u9:=MF (u:=(uk:Int)-(c:Int)-(b0:Int)) (by omega) (by omega)
 have u10:(if (uk:Int)-(c:Int)-(b0:Int)<0 then (1:Int) else 0)=(b2:Int):=by
  rw[hbs]; split<;>split<;>omega
 rw[u10] at u9
 have hgB:=hg
 rw[z9] at hgB
 have u11:IntKind.u32.wrap (g:Int)=(g:Int):=IntWalk.u32_in _ (by omega)
 have hb2v:b2=0∨b2=1:=by rw[hbs]; split<;>simp
 rcases hb2v with h0 | h0
 ·subst h0
  simp[rF,e1,e2,e3,hA,hsg,u6,u7,u8,u9,u11,wG,splice,hset]
  exact hK0 rfl
 ·subst h0
  obtain ⟨hgp,hfin⟩:=hK1 rfl
  simp[rF,e1,e2,e3,hA,hsg,u6,u7,u8,u9,wG,splice,hset]
  refine El (m:=m) (σ:=σ) (out:=out) (b:=b) (j:=j) (g:=g) h (yM (n:=e+3) (x:=x-g*val v)) zy ?_ ?_
  ·simp[Sg,YZ,Tt]
  ·refine vh (fun ex s hs=>?_) (aal h (yM (n:=e+3) (x:=x-g*val v)) zy hgp hg)
   rw[yq hZ] at hs
   obtain ⟨rfl,rfl⟩:=hs
   exact hfin
theorem P6 (hj:lk σ j=some (.arr 1 (zD W))) {r y:AV} {q:Nat} (hq:q=69∨q=81) (hK0:bor x (g*val v) (e+3)=0→K .ret {env:=[(4,uv g)],sto:=pt σ j (.arr 1 (zD (seg W off (zt (e+3) (x-g*val v))))),out:=out,base:=b})
  (hK1:bor x (g*val v) (e+3)=1→0<g∧K .ret {env:=[(4,uv (g-1))],sto:=pt σ j (.arr 1 (zD (seg W off (zt (e+3) (x-g*val v+val v))))),out:=out,base:=b}) :
  awp Tryz.prog uq {env:=[(0,.sl j 1 off (e+3)),(1,nl m v),(5,iv ((e:Int)+2)),(7,zU g),(8,r),(q,y)],sto:=σ,out:=out,base:=b} K:=by
 have hl:=Em (m:=m) (σ:=σ) (out:=out) (b:=b) (j:=j) h hg hx hT hZ hK0 hK1
 have hc0:cK g v 0=0:=by simp[cK,val]
 have hs:=acv (W:=W) (off:=off) (n:=e+3) (by have:=h.hW; omega)
 rcases hq with rfl | rfl
 ·simp[uq]
  refine P7 h hg hx hT ?_ hl
  simp[Xs,YZ,hs,hc0,aH]
  exact .inr (.inl (Rt hj))
 ·simp[uq]
  refine P7 h hg hx hT ?_ hl
  simp[Xs,YZ,hs,hc0,aH]
  exact .inr (.inl (Rt hj))
end
theorem A4 {v:List Nat} {e:Nat} (h:v.length=e+2):val v=(v.getD (e+1) 0*B+v.getD e 0)*B^e+val (v.take e):=by
 have h1:=tE v e
 have h2:v.drop e=[v[e],v[e+1]]:=by
  rw[List.drop_eq_getElem_cons (by omega),List.drop_eq_getElem_cons (by omega),List.drop_of_length_le (by omega)]
 rw[Nat.min_eq_left (by omega),h2] at h1
 have q1:v.getD (e+1) 0=v[e+1]:=by simp[h]
 have q2:v.getD e 0=v[e]:=by simp[h]
 rw[h1,q1,q2]
 simp only[val,Nat.mul_zero,Nat.add_zero]
 grind
theorem A5 {u:List Nat} {e:Nat} (h:u.length=e+3):val u=((u.getD (e+2) 0*B+u.getD (e+1) 0)*B+u.getD e 0)*B^e+val (u.take e):=by
 have h1:=tE u e
 have h2:u.drop e=[u[e],u[e+1],u[e+2]]:=by
  rw[List.drop_eq_getElem_cons (by omega),List.drop_eq_getElem_cons (by omega),List.drop_eq_getElem_cons (by omega),List.drop_of_length_le (by omega)]
 rw[Nat.min_eq_left (by omega),h2] at h1
 have q0:u.getD (e+2) 0=u[e+2]:=by simp[h]
 have q1:u.getD (e+1) 0=u[e+1]:=by simp[h]
 have q2:u.getD e 0=u[e]:=by simp[h]
 rw[h1,q0,q1,q2]
 simp only[val,Nat.mul_zero,Nat.add_zero]
 grind
theorem ahH {t v1 v2 u2 P Q R U V:Nat} (_hP:0<P) (hU:U=(t*B+u2)*P+R) (hV:V=(v1*B+v2)*P+Q) (hQ:Q<P) (hv2:v2<B) (hlt:U<V*B):t≤v1*B+(B-1):=by
 have a1:t*B*P≤U:=by
  rw[hU]
  have:t*B*P≤(t*B+u2)*P:=Nat.mul_le_mul_right _ (Nat.le_add_right _ _)
  exact Nat.le_trans this (Nat.le_add_right _ _)
 have a2:V≤(v1*B+B)*P:=by
  rw[hV]
  have h1:(v1*B+v2+1)*P≤(v1*B+B)*P:=Nat.mul_le_mul_right _ (by omega)
  rw[Nat.add_mul,Nat.one_mul] at h1
  exact Nat.le_trans (Nat.add_le_add_left (Nat.le_of_lt hQ) _) h1
 have a3:V*B≤(v1*B+B)*P*B:=Nat.mul_le_mul_right _ a2
 have a4:t*(P*B)<(v1*B+B)*(P*B):=by
  rw[← Nat.mul_assoc,← Nat.mul_assoc]
  rw[Nat.mul_assoc t,Nat.mul_comm B P,← Nat.mul_assoc] at a1
  exact Nat.lt_of_le_of_lt a1 (Nat.lt_of_lt_of_le hlt a3)
 have a5:=Nat.lt_of_mul_lt_mul_right a4
 have:=zX
 generalize v1*B=q at *
 omega
theorem aeo {w v1:Nat}:gK w v1 0=w/v1:=Nat.sub_zero _
theorem ae9 {w v1:Nat}:rK w v1 0=w%v1:=by unfold rK; rw[Nat.zero_mul,Nat.add_zero]
theorem Qk {a c:Nat} (ha:a<B) (hc:c<B):a*B+c<18446744073709551616:=by
 have:(a+1)*B≤B*B:=Nat.mul_le_mul_right _ ha
 have hBB:B*B=18446744073709551616:=by decide
 rw[Nat.add_mul,hBB,Nat.one_mul] at this
 exact Nat.lt_of_lt_of_le (Nat.add_lt_add_left hc _) this
theorem aaG {z n:Nat}:zt n (z+B^n)=zt n z:=P8
theorem ad6 {m:Am.Mode} {W v:List Nat} {σ:List (Nat × zf)} {out:List (List (Nat × AV))} {b j off e g U Q R:Nat} {K:Exit→St→Prop} (h:az W v off e) (hg:g<B) (hj:lk σ j=some (.arr 1 (zD W)))
  {r y:AV} {q:Nat} (hq:q=69∨q=81) (hx:∀ k,k<e+3→U/B^k%B=W.getD (off+k) 0) (hUN:U<B^(e+3)) (hTN:g*val v<B^(e+3)) (hmod:val v*Q+R=U) (hR:R<val v) (hc:Q≤g∧g≤Q+1)
  (hK:∀ ex s,ex=.ret→s={env:=[(4,uv Q)],sto:=pt σ j (.arr 1 (zD (seg W off (zt (e+3) R)))),out:=out,base:=b}→K ex s) :
  awp Tryz.prog uq {env:=[(0,.sl j 1 off (e+3)),(1,nl m v),(5,iv ((e:Int)+2)),(7,zU g),(8,r),(q,y)],sto:=σ,out:=out,base:=b} K:=by
 rcases Nat.lt_or_ge U (g*val v) with hlt | hle
 ·have hgQ:g=Q+1:=by
   rcases Nat.lt_or_ge Q g with h1 | h1
   ·omega
   ·exfalso
    have:g*val v≤Q*val v:=Nat.mul_le_mul_right _ h1
    rw[Nat.mul_comm] at hmod
    omega
  subst hgQ
  have hz:U+B^(e+3)-(Q+1)*val v+val v=R+B^(e+3):=by
   rw[Nat.add_mul,Nat.one_mul] at *
   rw[Nat.mul_comm] at hmod
   omega
  refine P6 (x:=U+B^(e+3)) h hg (fun k hk=>?_) (by omega) (by omega) hj hq (fun h0=>?_) (fun _=>⟨by omega,?_⟩)
  ·rw[Ci hk]; exact hx k hk
  ·exfalso
   simp only[bor,Nat.add_mod_right,Nat.mod_eq_of_lt hUN,Nat.mod_eq_of_lt hTN,if_pos hlt] at h0
   exact absurd h0 (by decide)
  ·refine hK _ _ rfl ?_
   rw[hz,aaG,Nat.add_sub_cancel]
 ·have hgQ:g=Q:=by
   rcases Nat.lt_or_ge Q g with h1 | h1
   ·exfalso
    have:(Q+1)*val v≤g*val v:=Nat.mul_le_mul_right _ h1
    rw[Nat.add_mul,Nat.one_mul] at this
    rw[Nat.mul_comm] at hmod
    omega
   ·omega
  subst hgQ
  have hz:U-g*val v=R:=by
   rw[Nat.mul_comm] at hmod
   omega
  refine P6 (x:=U) h hg hx hle (by omega) hj hq (fun _=>?_) (fun h1=>?_)
  ·exact hK _ _ rfl (by rw[hz])
  ·exfalso
   simp only[bor,Nat.mod_eq_of_lt hUN,Nat.mod_eq_of_lt hTN,if_neg (Nat.not_lt.mpr hle)] at h1
   exact absurd h1 (by decide)
theorem agB {m:Am.Mode} {W v:List Nat} {s:St} {K:AV→St→Prop} (b:Nat) {j off e U:Nat} (h:az W v off e) (hj:lk s.sto j=some (.arr 1 (zD W)))
  (h1:0<v.getD (e+1) 0) (hU:U=val ((W.drop off).take (e+3))) (hlt:U<val v*B)
  (hK:K (uv (U/val v)) ⟨s.env,pt s.sto j (.arr 1 (zD (seg W off (zt (e+3) (U%val v))))),s.out,s.base⟩):yH Tryz.prog Yk [.sl j 1 off (e+3),nl m v] s K:=by
 obtain ⟨env,σ,out,base⟩:=s
 simp only at hj hK
 have hvl:=h.hv
 have hWl:=h.hW
 have hsm:=h.small
 have hul:((W.drop off).take (e+3)).length=e+3:=by simp; omega
 have hug:∀ k,k<e+3→((W.drop off).take (e+3)).getD k 0=W.getD (off+k) 0:=fun k hk=>by
  simp[List.getD,hk]
 have hvV:=A4 hvl
 have huU:=A5 hul
 rw[← hU,hug _ (by omega),hug _ (by omega),hug _ (by omega)] at huU
 have okv2:ok ((W.drop off).take (e+3)):=sx (QZ h.okW off) _
 have hv2:v.getD e 0<B:=tH h.okv _
 have hu2:W.getD (off+e) 0<B:=tH h.okW _
 have hQ:val (v.take e)<B^e:=yS (sx h.okv e) (by simp; omega)
 have hR:val (((W.drop off).take (e+3)).take e)<B^e:=yS (sx okv2 e) (by simp; omega)
 have hclose:=EV (w:=qX W off e) h1 hu2 hv2 huU hR hvV hQ hlt
 have hw:qX W off e≤v.getD (e+1) 0*B+(B-1):=by
  exact ahH (Nat.pow_pos zX) huU hvV hQ hv2 hlt
 have hv1:e+1<v.length:=by omega
 have hWa:off+(e+2)<W.length:=by omega
 have hWb:off+(e+1)<W.length:=by omega
 refine nu b AN (by simp) ?_
 have p1:v.getD (e+1) 0=v[e+1]:=by simp[hv1]
 have p2:W.getD (off+(e+2)) 0=W[off+(e+2)]:=by simp[hWa]
 have p3:W.getD (off+(e+1)) 0=W[off+(e+1)]:=by simp[hWb]
 have b1:v[e+1]<B:=xv h.okv hv1
 have b2:W[off+(e+2)]<B:=xv h.okW hWa
 have b3:W[off+(e+1)]<B:=xv h.okW hWb
 have hsh:=ME b2
 have hwe:qX W off e=W[off+(e+2)]*B+W[off+(e+1)]:=by rw[qX,p2,p3]
 have hor:sX .or .u64 ((W[off+(e+2)]*B:Nat):Int) (W[off+(e+1)]:Int)=((qX W off e:Nat):Int):=by rw[hwe]; exact or_hi b2 b3
 have hwB:qX W off e<18446744073709551616:=by rw[hwe]; exact Qk b2 b3
 have fin:∀ K2:Exit→St→Prop,(∀ ex s,ex=.ret→s={env:=[(4,uv (U/val v))],sto:=pt σ j (.arr 1 (zD (seg W off (zt (e+3) (U%val v))))),out:=env::out,base:=b}→K2 ex s) →
   awp Tryz.prog (.loop vj) (Xr m W v σ (env::out) b j off e 0) (vi 0 (pS Tryz.prog uq K2)):=by
  intro K2 hK2
  have hw3:∀ k,k<e+3→U/B^k%B=W.getD (off+k) 0:=fun k hk=>by
   have hd:=YK okv2
   rw[hul,← hU] at hd
   have h2:k<(zt (e+3) U).length:=by rw[zy]; exact hk
   rw[← ut h2,← hug k hk,← hd]
   simp[List.getD,h2]
  have hUN:U<B^(e+3):=by rw[hU]; exact yS okv2 (Nat.le_of_eq hul)
  have hVpos:0<val v:=by
   have hpp:=Nat.pow_pos (n:=e) zX
   rw[hvV]
   exact Nat.lt_of_lt_of_le (Nat.mul_pos (Nat.lt_of_lt_of_le (Nat.mul_pos h1 zX) (Nat.le_add_right _ _)) hpp) (Nat.le_add_right _ _)
  have hgB:kK (qX W off e) (W.getD (off+e) 0) (v.getD (e+1) 0) (v.getD e 0)<B:=Nat.lt_of_le_of_lt (Nat.min_le_left _ _) (by decide)
  refine JL h hj h1 hw _ rfl fun r q y hq=>?_
  generalize kK (qX W off e) (W.getD (off+e) 0) (v.getD (e+1) 0) (v.getD e 0)=g at *
  have hmod:val v*(U/val v)+U%val v=U:=Nat.div_add_mod U (val v)
  have hml:=Nat.mod_lt U hVpos
  have hVN:val v<B^(e+2):=yS h.okv (Nat.le_of_eq hvl)
  have hTN:g*val v<B^(e+3):=by
   rw[show e+3=(e+2)+1 from rfl,Nat.pow_succ,Nat.mul_comm]
   exact Nat.mul_lt_mul_of_lt_of_lt hVN hgB
  exact ad6 h hgB hj hq hw3 hUN hTN hmod hml hclose hK2
 have st0:Xr m W v σ (env::out) b j off e 0={env:=[(0,.sl j 1 off (e+3)),(1,nl m v),(5,iv ((e:Int)+2)),(7,zU (qX W off e/v.getD (e+1) 0)),(8,zU (qX W off e%v.getD (e+1) 0))],sto:=σ,out:=env::out,base:=b}:=by
  rw[Xr,aeo,ae9]
 rw[st0] at fin
 clear hwe
 clear st0 hclose hw huU hvV
 obtain ⟨rb,hrb⟩:∃ rb,W[off+(e+2)]*B=rb:=⟨_,rfl⟩
 rw[hrb] at hor hsh
 generalize qX W off e=w at *
 rw[p1] at fin h1
 generalize g1:v[e+1]=v1 at *
 generalize g2:W[off+(e+2)]=w3 at *
 generalize g3:W[off+(e+1)]=w2 at *
 have t1:IntKind.u64.wrap ((w:Int).tdiv v1)=((w/v1:Nat):Int):=by
  rw[← Int.ofNat_tdiv]
  exact w64 (Nat.lt_of_le_of_lt (Nat.div_le_self _ _) hwB)
 have t2:((w:Int).tmod v1)=((w%v1:Nat):Int):=by rw[← Int.ofNat_tmod]
 have t3:IntKind.u64.wrap ((w:Int)/v1)=((w/v1:Nat):Int):=by
  rw[← Int.natCast_ediv]
  exact w64 (Nat.lt_of_le_of_lt (Nat.div_le_self _ _) hwB)
 generalize w/v1=q at *
 generalize w%v1=r at *
 have hv10:¬ v1=0:=by omega
 have c0:(e:Int)+2<(e:Int)+3:=by omega
 have c1:((e:Int)+2).toNat=e+2:=by omega
 have c2:((e:Int)+1).toNat=e+1:=by omega
 have c3:(0:Int)≤(e:Int)+2:=by omega
 have c4:(0:Int)≤(e:Int)+1:=by omega
 have c5:(e:Int)+1<(e:Int)+3:=by omega
 have i5:IntKind.i64.wrap ((e:Int)+2-1)=(e:Int)+1:=by rw[wrap64]<;>omega
 have hlen:(v.length:Int)=(e:Int)+2:=by omega
 rw[z9] at b1 b2 b3
 have u1:IntKind.u64.wrap (v1:Int)=v1:=w64 (by omega)
 have u2:IntKind.u64.wrap (w3:Int)=w3:=w64 (by omega)
 have u3:IntKind.u64.wrap (w2:Int)=w2:=w64 (by omega)
 simp[PY,hj,g1,g2,g3,c0,c1,c2,c3,c4,c5,i5,hlen,u1,u2,u3,hWa,hWb,hv1,hv10,xY,hsh,hor,tR,qk,t2,t3]
 refine fin _ fun ex s he hs=>?_
 subst he hs
 simp[NC]
 exact hK
end Go.Proofs.YtpnliopaifpimaaGreat

namespace Go.Dig
def lz (t:Nat):Nat:=31-Nat.log2 t
theorem MB {t:Nat}:lz t<32:=by unfold lz; omega
theorem ag4 {t:Nat} (ht:t<B):Nat.log2 t<32:=by
 rcases Nat.eq_zero_or_pos t with h | h
 ·subst h; decide
 ·exact (Nat.log2_lt (by omega)).2 ht
theorem abm {t k:Nat} (_ht:t<B) (hk:k<lz t):t*2^k<2147483648:=by
 have h1:t<2^(Nat.log2 t+1):=Nat.lt_log2_self
 have h2:t*2^k<2^(Nat.log2 t+1)*2^k:=Nat.mul_lt_mul_of_pos_right h1 (Nat.pow_pos (by omega))
 rw[← Nat.pow_add] at h2
 have h3:2^(Nat.log2 t+1+k)≤2^31:=Nat.pow_le_pow_right (by omega) (by unfold lz at hk; omega)
 have h4:(2:Nat)^31=2147483648:=by decide
 omega
theorem L9 {t:Nat} (h0:0<t) (ht:t<B):2147483648≤t*2^lz t∧t*2^lz t<B:=by
 have hl:=ag4 ht
 constructor
 ·have h1:2^Nat.log2 t≤t:=Nat.log2_self_le (by omega)
  have h2:2^Nat.log2 t*2^lz t≤t*2^lz t:=Nat.mul_le_mul_right _ h1
  rw[← Nat.pow_add,show Nat.log2 t+lz t=31 by unfold lz; omega] at h2
  have h4:(2:Nat)^31=2147483648:=by decide
  omega
 ·have h1:t<2^(Nat.log2 t+1):=Nat.lt_log2_self
  have h2:t*2^lz t<2^(Nat.log2 t+1)*2^lz t:=Nat.mul_lt_mul_of_pos_right h1 (Nat.pow_pos (by omega))
  rw[← Nat.pow_add,show Nat.log2 t+1+lz t=32 by unfold lz; omega] at h2
  exact h2
theorem JM {x n:Nat} (h1:B^n≤x) (h2:x<B^(n+1)):(zh x).length=n+1:=by
 have a:=zE.2 h2
 have b:=c8.2 h1
 omega
theorem cH {D n:Nat} (h:(zh D).length=n+1):B^n≤D∧D<B^(n+1)∧0<D/B^n∧D/B^n<B:=by
 have a:B^n≤D:=c8.1 (by omega)
 have b:D<B^(n+1):=zE.1 (by omega)
 refine ⟨a,b,Nat.div_pos a (uy n),Nat.div_lt_of_lt_mul ?_⟩
 rw[← Nat.pow_succ]; exact b
theorem B8 {D n N:Nat} (h:(zh D).length=n+1) (hN:N=lz (D/B^n)):B^n≤D*2^N∧D*2^N<B^(n+1)∧(zh (D*2^N)).length=n+1:=by
 obtain ⟨a,b,c,d⟩:=cH h
 have hl:=(L9 c d).2
 rw[← hN] at hl
 have hN32:N<32:=by rw[hN]; exact MB
 have hB:B=2^(32-N)*2^N:=by
  rw[← Nat.pow_add,Nat.sub_add_cancel (by omega)]; rfl
 have h1:D/B^n+1≤2^(32-N):=by
  have h0:=hl
  generalize D/B^n=t at *
  rw[hB] at h0
  exact Nat.lt_of_mul_lt_mul_right h0
 have h2:D<(D/B^n+1)*B^n:=by
  have:=Nat.lt_mul_div_succ D (uy n)
  rw[Nat.mul_comm] at this
  exact this
 have h3:D<2^(32-N)*B^n:=Nat.lt_of_lt_of_le h2 (Nat.mul_le_mul_right _ h1)
 have h4:D*2^N<2^(32-N)*B^n*2^N:=Nat.mul_lt_mul_of_pos_right h3 (Nat.pow_pos (by omega))
 have h5:2^(32-N)*B^n*2^N=B^(n+1):=by
  rw[Nat.mul_right_comm,← hB,Nat.pow_succ,Nat.mul_comm]
 have h6:B^n≤D*2^N:=Nat.le_trans a (Nat.le_mul_of_pos_right _ (Nat.pow_pos (by omega)))
 rw[h5] at h4
 exact ⟨h6,h4,JM h6 h4⟩
def rst (A V j:Nat):Nat:=A/B^j%V*B^j+A%B^j
theorem RP {A V j n:Nat} (hV:V<B^n) (h0:0<V):rst A V j<B^(j+n):=by
 have h1:A/B^j%V+1≤B^n:=Nat.le_trans (Nat.mod_lt _ h0) (Nat.le_of_lt hV)
 have h2:(A/B^j%V+1)*B^j≤B^n*B^j:=Nat.mul_le_mul_right _ h1
 have h3:A%B^j<B^j:=Nat.mod_lt _ (uy j)
 have h4:B^(j+n)=B^n*B^j:=by rw[Nat.pow_add,Nat.mul_comm]
 unfold rst
 rw[h4]
 rw[Nat.add_mul,Nat.one_mul] at h2
 omega
theorem acq {A V:Nat}:rst A V 0=A%V:=by simp[rst,Nat.mod_one]
theorem afj {A V j:Nat} (h:A/B^j<V):rst A V j=A:=by
 unfold rst
 rw[Nat.mod_eq_of_lt h,Nat.mul_comm]
 exact Nat.div_add_mod A (B^j)
theorem afh {A V j:Nat}:rst A V j%B^j=A%B^j:=by
 unfold rst
 rw[Nat.add_comm,Nat.add_mul_mod_self_right,Nat.mod_mod]
theorem afi {A V j:Nat}:rst A V (j+1)/B^j=A/B^j/B%V*B+A/B^j%B:=by
 unfold rst
 rw[show A/B^(j+1)=A/B^j/B by rw[Nat.pow_succ,Nat.div_div_eq_div_mul]]
 have h1:A%B^(j+1)=A%B^j+B^j*(A/B^j%B):=by rw[Nat.pow_succ,Nat.mod_mul]
 rw[h1,Nat.pow_succ]
 have h2:A/B^j/B%V*(B^j*B)+(A%B^j+B^j*(A/B^j%B))=A%B^j+(A/B^j/B%V*B+A/B^j%B)*B^j:=by grind
 rw[h2,Nat.add_mul_div_right _ _ (uy j),Nat.div_eq_of_lt (Nat.mod_lt _ (uy j)),Nat.zero_add]
theorem acp {A V j L n:Nat} (hV:V<B^n) (h0:0<V) (hL:j+n+1≤L):seg (zt L (rst A V (j+1))) j (zt (n+1) (A/B^j%V))=zt L (rst A V j):=by
 have hlen:j+(zt (n+1) (A/B^j%V)).length≤(zt L (rst A V (j+1))).length:=by rw[zy,zy]; omega
 have hlt1:=RP (A:=A) (j:=j+1) hV h0
 have hlt0:=RP (A:=A) (j:=j) hV h0
 have hle:B^(j+1+n)≤B^L:=Nat.pow_le_pow_right zX (by omega)
 have hle0:B^(j+n)≤B^L:=Nat.pow_le_pow_right zX (by omega)
 have hL1:rst A V (j+1)<B^L:=Nat.lt_of_lt_of_le hlt1 hle
 have o1:ok (zt L (rst A V (j+1))):=yM
 refine UD ?_ yM (by rw[fM hlen,zy,zy]) ?_
 ·unfold seg
  exact Y5.2 ⟨Y5.2 ⟨sx o1 _,yM⟩,QZ o1 _⟩
 ·unfold seg
  rw[val_append,val_append,Jz o1 (by rw[zy]; omega),Sw o1 (by rw[zy,zy]; omega),yq hL1,yq (Nat.lt_of_lt_of_le hlt0 hle0)]
  have hz:rst A V (j+1)/B^(j+(zt (n+1) (A/B^j%V)).length)=0:=by
   rw[zy]
   exact Nat.div_eq_of_lt (by rw[show j+(n+1)=j+1+n by omega]; exact hlt1)
  have hl:(List.take j (zt L (rst A V (j+1)))).length=j:=by simp[zy]; omega
  have hx:A/B^j%V<B^(n+1):=Nat.lt_trans (Nat.lt_trans (Nat.mod_lt _ h0) hV) (Nat.pow_lt_pow_right (by decide) (by omega))
  rw[hz,hl,yq hx,Nat.mul_zero,Nat.add_zero]
  have h1:rst A V (j+1)%B^j=A%B^j:=by
   have h2:rst A V (j+1)%B^(j+1)%B^j=A%B^(j+1)%B^j:=by rw[afh]
   rw[Nat.mod_mod_of_dvd _ (Nat.pow_dvd_pow B (by omega)),Nat.mod_mod_of_dvd _ (Nat.pow_dvd_pow B (by omega))] at h2
   exact h2
  rw[h1]
  unfold rst
  rw[Nat.mul_comm,Nat.add_comm]
theorem B1 {A V j:Nat} (h0:0<V):(rst A V (j+1)/B^j)/V=A/V/B^j%B∧(rst A V (j+1)/B^j)%V=A/B^j%V∧rst A V (j+1)/B^j<V*B:=by
 obtain ⟨s1,s2,s3⟩:=RZ (A:=A/B^j) h0
 rw[afi]
 refine ⟨?_,s2,s3⟩
 rw[s1,Nat.div_div_eq_div_mul,Nat.div_div_eq_div_mul,Nat.mul_comm]
theorem Ab {X N i:Nat} (hN:N<32):(X/2^N)/B^i%B=(X/B^i%B)/2^N+(X/B^(i+1)%B)*2^(32-N)%B ∧
  (X/B^i%B)/2^N ||| (X/B^(i+1)%B)*2^(32-N)%B=(X/B^i%B)/2^N+(X/B^(i+1)%B)*2^(32-N)%B:=by
 have hB:B=2^(32-N)*2^N:=by
  rw[← Nat.pow_add,Nat.sub_add_cancel (by omega)]; rfl
 have hP:0<2^N:=Nat.pow_pos (by omega)
 have hM:0<2^(32-N):=Nat.pow_pos (by omega)
 rw[show X/2^N/B^i=X/B^i/2^N by rw[Nat.div_div_eq_div_mul,Nat.div_div_eq_div_mul,Nat.mul_comm],show X/B^(i+1)=X/B^i/B by rw[Nat.pow_succ,Nat.div_div_eq_div_mul]]
 generalize X/B^i=Y
 have hx:Y%B/2^N<2^(32-N):=by
  apply Nat.div_lt_of_lt_mul
  rw[Nat.mul_comm,← hB]; exact Nat.mod_lt _ zX
 have hc:∀ q,q*2^(32-N)%B=(q%2^N)*2^(32-N):=fun q=>by
  have h:=Nat.mul_mod_mul_right (2^(32-N)) q (2^N)
  rw[Nat.mul_comm (2^N) (2^(32-N)),← hB] at h
  exact h
 have hY:Y/2^N=Y/B*2^(32-N)+Y%B/2^N:=by
  have h1:Y=Y%B+2^N*(Y/B*2^(32-N)):=by
   have h2:=Nat.mod_add_div Y B
   have h3:2^N*(Y/B*2^(32-N))=B*(Y/B):=by
    have:2^N*(Y/B*2^(32-N))=2^(32-N)*2^N*(Y/B):=by
     generalize Y/B=z
     generalize (2:Nat)^N=p
     generalize (2:Nat)^(32-N)=m
     grind
    rw[this,← hB]
   rw[h3]; exact h2.symm
  have h4:Y/2^N=(Y%B+2^N*(Y/B*2^(32-N)))/2^N:=by rw[← h1]
  rw[h4,Nat.add_mul_div_left _ _ hP,Nat.add_comm]
 have hd:2^N ∣ B:=⟨2^(32-N),by rw[hB,Nat.mul_comm]⟩
 rw[hY,hc (Y/B%B),Nat.mod_mod_of_dvd _ hd]
 generalize hq:Y/B%2^N=a
 have ha:a<2^N:=by rw[← hq]; exact Nat.mod_lt _ hP
 generalize Y%B/2^N=c at *
 have hlt:a*2^(32-N)+c<B:=by
  have h1:(a+1)*2^(32-N)≤2^N*2^(32-N):=Nat.mul_le_mul_right _ ha
  rw[Nat.mul_comm (2^N),← hB,Nat.add_mul,Nat.one_mul] at h1
  omega
 constructor
 ·have h2:=hc (Y/B)
  rw[hq] at h2
  rw[Nat.add_mod,h2,Nat.mod_eq_of_lt (a:=c) (by omega),Nat.mod_eq_of_lt hlt,Nat.add_comm]
 ·have h:=Nat.two_pow_add_eq_or_of_lt hx a
  rw[Nat.or_comm,Nat.mul_comm a,← h,Nat.add_comm]
structure Ml (A D n m N X V:Nat):Prop where
 N32:N<32
 X_eq:X=A*2^N
 V_eq:V=D*2^N
 Xlt:X<B^(n+2+m+1)
 Vlen:(zh V).length=n+2
 Vpos:0<V
 Vlt:V<B^(n+2)
 top:X/B^(m+1)<V
 q:X/V=A/D
 r:X%V=(A%D)*2^N
 vtop:0<(zh V).getD (n+1) 0
theorem aid {A D n m:Nat} (hA:(zh A).length=n+2+m) (hD:(zh D).length=n+2):Ml A D n m (lz (D/B^(n+1))) (A*2^lz (D/B^(n+1))) (D*2^lz (D/B^(n+1))):=by
 have hN32:lz (D/B^(n+1))<32:=MB
 obtain ⟨h1,h2,h3⟩:=B8 (n:=n+1) hD rfl
 obtain ⟨h4,h5,h6,h7⟩:=cH (n:=n+1) hD
 have hP:0<2^lz (D/B^(n+1)):=Nat.pow_pos (by omega)
 have hAlt:A<B^(n+2+m):=zE.1 (Nat.le_of_eq hA)
 generalize lz (D/B^(n+1))=N at *
 obtain ⟨k1,k2,k3,k4⟩:=cH (n:=n+1) h3
 refine ⟨hN32,rfl,rfl,?_,h3,Nat.lt_of_lt_of_le (uy _) h1,h2,?_,Nat.mul_div_mul_right _ _ hP,Nat.mul_mod_mul_right _ _ _,?_⟩
 ·have:2^N≤B:=Nat.le_of_lt (eY hN32)
  rw[Nat.pow_succ]
  exact Nat.lt_of_lt_of_le (Nat.mul_lt_mul_of_pos_right hAlt hP) (Nat.mul_le_mul_left _ this)
 ·apply Nat.div_lt_of_lt_mul
  have a1:A*2^N<B^(n+2+m)*2^N:=Nat.mul_lt_mul_of_pos_right hAlt hP
  have a2:B^(n+1)*2^N≤D*2^N:=Nat.mul_le_mul_right _ h4
  have a3:B^(m+1)*(B^(n+1)*2^N)≤B^(m+1)*(D*2^N):=Nat.mul_le_mul_left _ a2
  have a4:B^(n+2+m)=B^(m+1)*B^(n+1):=by rw[← Nat.pow_add]; congr 1; omega
  rw[a4,Nat.mul_assoc] at a1
  exact Nat.lt_of_lt_of_le a1 a3
 ·have hl:n+1<(zh (D*2^N)).length:=by rw[h3]; omega
  have:(zh (D*2^N)).getD (n+1) 0=D*2^N/B^(n+1):=by
   rw[List.getD_eq_getElem?_getD,List.getElem?_eq_getElem hl,Option.getD_some,mF,Nat.mod_eq_of_lt k4]
  rw[this]
  exact k3
theorem afk {A V j n L:Nat} (hV:V<B^n) (h0:0<V) (hL:j+n+1≤L):rst A V (j+1)/B^j=val (((zt L (rst A V (j+1))).drop j).take (n+1)):=by
 have o1:ok (zt L (rst A V (j+1))):=yM
 have hlt1:=RP (A:=A) (j:=j+1) hV h0
 have hL1:rst A V (j+1)<B^L:=Nat.lt_of_lt_of_le hlt1 (Nat.pow_le_pow_right zX (by omega))
 have hlen:n+1≤((zt L (rst A V (j+1))).drop j).length:=by rw[List.length_drop,zy]; omega
 rw[Jz (QZ o1 _) hlen,Sw o1 (by rw[zy]; omega),yq hL1,Nat.mod_eq_of_lt]
 apply Nat.div_lt_of_lt_mul
 rw[← Nat.pow_add,show j+(n+1)=j+1+n by omega]
 exact hlt1
end Go.Dig

namespace Go.Proofs.YtpnliopaifpimaaGreat
open Go Go.Am Go.Dig
def Ut (A D k:Nat):St:={env:=[(0,nD A),(1,nD D),(9,zU k)],sto:=[]}
abbrev aW (A D:Nat):AV:=AV.tuple [nD (A/D),nD (A%D),iv 0]
theorem LV {x1 x2 x3 y1 y2 y3:AV} (h1:AV.imp x1 y1) (h2:AV.imp x2 y2) (h3:AV.imp x3 y3):AV.imp (.tuple [x1,x2,x3]) (.tuple [y1,y2,y3]):=fun I w v hv=>by
 cases hv with
 | tuple cells vs hs hc =>
  refine .tuple _ _ (by simpa using hs) fun i c hi=>?_
  match i,hi with
  | 0,hi=>simp at hi; subst hi; exact h1 _ _ _ (hc 0 x1 rfl)
  | 1,hi=>simp at hi; subst hi; exact h2 _ _ _ (hc 1 x2 rfl)
  | 2,hi=>simp at hi; subst hi; exact h3 _ _ _ (hc 2 x3 rfl)
  | i+3,hi=>simp at hi
theorem eQ {f:FuncId} {x y y' r:AV} (h:ze Tryz.prog f [x,y'] r) (hy:AV.imp y y'):ze Tryz.prog f [x,y] r:=fun I vs w h1 h2 h3 =>
 h I vs w h1 h2 fun i a hi=>by
  match i,hi with
  | 0,hi=>exact h3 0 a hi
  | 1,hi=>simp at hi; subst hi; exact hy _ _ _ (h3 1 y rfl)
  | i+2,hi=>simp at hi
theorem qx {sz:Nat}:AV.imp (.list sz .full []) (nD 0):=by
 rw[nD,yz]
 exact AV.imp_nil rfl
theorem Ck {m1 m2:Am.Mode} {a c:List Nat} (ha:ok a) (hc:ok c) (hna:a.length<549755813888) (hnc:c.length<549755813888) (f1:stm m1=m1) (f2:stm m2=m2) (hD:val c≠0)
  (hmain:∀ n m,(zh (val c)).length=n+2→(zh (val a)).length=n+2+m→val c≤val a →
   awp Tryz.prog (.loop qD) (Ut (val a) (val c) 0) (vi 0 (pS Tryz.prog sr (ZB qt (aW (val a) (val c)))))) :
  ze Tryz.prog pX [nl m1 a,nl m2 c] (aW (val a) (val c)):=by
 have k1:=xt (m:=m1) ha (by omega)
 have k2:=xt (m:=m2) hc (by omega)
 have hla:=wR ha
 have hlc:=wR hc
 generalize val a=A at *
 generalize val c=D at *
 have kc:=j9 (m1:=.plain) (m2:=.plain) (zx A) (zx D) (by omega) (by omega)
 rw[zJ,zJ] at kc
 have hl0:¬ (zh D).length=0:=by rw[List.length_eq_zero_iff,xj]; exact hD
 have hl0':¬ zh D=[]:=by rw[xj]; exact hD
 refine wW Dy (by simp) ?_
 simp[SS]
 refine za k1 (by simp[f1]) (by simp) ?_
 simp
 refine za k2 (by simp[f2]) (by simp) ?_
 simp[hl0]
 refine za kc (by simp) (by simp) ?_
 by_cases hlt:A<D
 ·have hc1:xk A D=-1:=by simp[xk,hlt]
  simp[hc1]
  have ka:=dF (m1:=.plain) (m2:=.plain) (a:=zh A) (b:=[]) (zx A) Kt (by omega) (by simp)
  rw[zJ] at ka
  refine za (eQ ka (AV.imp_nil (sz:=0) rfl)) (by simp) (by simp) ?_
  simp[qt,val]
  rw[aW,Nat.div_eq_of_lt hlt,Nat.mod_eq_of_lt hlt]
  exact LV qx AV.imp.refl AV.imp.refl
 ·have hc1:¬ xk A D<0:=by simp only[xk,if_neg hlt]; split<;>omega
  by_cases h1:(zh D).length=1
  ·have h1z:((zh D).length:Int)=1:=by omega
   have h10:0<(zh D).length:=by omega
   have hDB:D<B:=by
    have:=zE.1 (Nat.le_of_eq h1)
    simpa using this
   have hg:(zh D)[0]=D:=by rw[mF]; simp[Nat.mod_eq_of_lt hDB]
   have ks:=Gj (m:=.plain) (a:=zh A) (d:=D) (zx A) (by omega) (by omega) hDB rfl
   rw[zJ] at ks
   have hm:A%D<D:=Nat.mod_lt _ (by omega)
   generalize hq:A%D=r at *
   rw[z9] at hDB
   have kf:=nh (x:=r) (by omega)
   have u1:IntKind.u64.wrap (r:Int)=r:=w64 (by omega)
   simp[hc1,h1z,h10,hg]
   refine za ks (by simp) (by simp) ?_
   simp[u1]
   refine za kf (by simp) (by simp) ?_
   simp[qt]
   rw[aW,hq]
   exact AV.imp.refl
  ·have h1z:¬ ((zh D).length:Int)=1:=by omega
   simp[hc1,h1z]
   obtain ⟨n,hn⟩:∃ n,(zh D).length=n+2:=⟨(zh D).length-2,by omega⟩
   have hle:(zh D).length≤(zh A).length:=by
    rcases Nat.lt_or_ge (zh A).length (zh D).length with h2 | h2
    ·exact absurd (cm h2) hlt
    ·exact h2
   obtain ⟨m,hm⟩:∃ m,(zh A).length=n+2+m:=⟨(zh A).length-(n+2),by omega⟩
   exact hmain n m hn hm (by omega)
theorem N5 {m:Am.Mode} {a:List Nat} {bits:Nat} (ha:ok a) (hn:a.length<1099511627775) (hb:bits<32):ze Tryz.prog nI [nl m a,zU bits] (nl .plain (zt (a.length+1) (val a*2^bits))):=by
 refine wW Tf (by simp) ?_
 have w:IntKind.i64.wrap ((a.length:Int)+1)=(a.length:Int)+1:=wrap64 (by omega) (by omega)
 have e1:((a.length:Int)+1).toNat=a.length+1:=by omega
 simp[cV,w,eMk,e1]
 refine ⟨by omega,by omega,by omega,?_⟩
 refine zw (Xw a m [] [] 0 bits) (fun _=>True) a.length (by simp[Xw,KW,Rc]) trivial (fun i hi _=>?_) (fun _=>?_)
 ·have e:(i:Int)<a.length:=by omega
  have hpow:=eY hb
  have hak:=xv ha hi
  have hL:=RS (bits:=bits) (i:=i) ha
  have hLB:shL a bits i<B^(i+1):=by
   have:B^i*2^bits≤B^i*B:=Nat.mul_le_mul_left _ (by omega)
   rw[Nat.pow_succ]; omega
  have hc:shL a bits i/B^i<2^bits:=Nat.div_lt_of_lt_mul hL
  obtain ⟨o1,o2,o3,o4⟩:=C6 (c:=shL a bits i/B^i) (a:=a[i]) hb hc hak
  have hsucc:=KV (bits:=bits) hi
  have hL2:=RS (bits:=bits) (i:=i+1) ha
  have hLN:shL a bits (i+1)<B^(a.length+1):=by
   have h1:B^(i+1)*2^bits≤B^(i+1)*B:=Nat.mul_le_mul_left _ (by omega)
   have h3:B^(i+1+1)=B^(i+1)*B:=Nat.pow_succ _ _
   have h2:B^(i+1+1)≤B^(a.length+1):=Nat.pow_le_pow_right zX (by omega)
   omega
  have htB:(shL a bits i/B^i+a[i]*2^bits)/B<B:=by
   rw[← o3]
   apply Nat.div_lt_of_lt_mul
   exact Nat.mul_lt_mul_of_lt_of_lt hak hpow
  have hstep:=RT (N:=a.length+1) (i:=i) (t:=a[i]*2^bits) hLB (by omega) (by rw[← hsucc]; exact hLN) htB
  rw[← hsucc,← o2,← o3] at hstep
  have hlen:=zy (n:=a.length+1) (x:=shL a bits i)
  have hi1:i<(zt (a.length+1) (shL a bits i)).length:=by omega
  have hget:(zt (a.length+1) (shL a bits i))[i]=shL a bits i/B^i:=by
   rw[ut,Nat.mod_eq_of_lt (Nat.lt_trans hc hpow)]
  obtain ⟨c,hcE⟩:∃ c,shL a bits i/B^i=c:=⟨_,rfl⟩
  obtain ⟨t,htE⟩:∃ t,a[i]*2^bits=t:=⟨_,rfl⟩
  have htlt:t<B*B:=by rw[← htE]; exact Nat.mul_lt_mul_of_lt_of_lt hak hpow
  rw[hcE,htE] at o1 o4 hstep
  rw[hcE] at hget hc
  obtain ⟨x,hxE⟩:∃ x,t%B=x:=⟨_,rfl⟩
  obtain ⟨q,hqE⟩:∃ q,t/B=q:=⟨_,rfl⟩
  rw[hxE] at o1 o4 hstep
  rw[hqE] at hstep
  have hxB:x<B:=by rw[← hxE]; exact Nat.mod_lt _ zX
  have hqB:q<B:=by rw[← hqE]; exact Nat.div_lt_of_lt_mul htlt
  have hor:=abV (c:=c) (x:=x) (by omega) hxB (by rw[o1]; exact o4)
  rw[o1] at hor
  obtain ⟨y,hyE⟩:∃ y,c+x=y:=⟨_,rfl⟩
  rw[hyE] at hor hstep
  have hBB:B*B=18446744073709551616:=by decide
  rw[hBB] at htlt
  have f1:IntKind.u32.wrap (t:Int)=(x:Int):=by rw[w32,hxE]
  have f2:(t:Int).fdiv (2^min 32 IntKind.u64.bits)=(q:Int):=by rw[ZH,hqE]
  have f3:IntKind.u32.wrap (q:Int)=q:=IntWalk.u32_in _ (by rw[z9] at hqB; omega)
  have u1:IntKind.u64.wrap ((a[i]:Nat):Int)=(a[i]:Nat):=w64 (by rw[z9] at hak; omega)
  have hmin:min bits IntKind.u64.bits=bits:=by
   have:IntKind.u64.bits=64:=rfl
   omega
  have u2:IntKind.u64.wrap (((a[i]:Nat):Int)*2^bits)=(t:Int):=by
   rw[show ((a[i]:Nat):Int)*2^bits=((a[i]*2^bits:Nat):Int) by simp,htE]; exact w64 htlt
  have hset:((zD (zt (a.length+1) (shL a bits i))).set i [uv y]).set (i+1) [uv q]=zD (zt (a.length+1) (shL a bits (i+1))):=by
   rw[xH,xH,hstep]
  have wi:IntKind.i64.wrap ((i:Int)+1)=(i:Int)+1:=wrap64 (by omega) (by omega)
  have ei1:(i:Int)<a.length+1:=by omega
  have e2:((i:Int)+1).toNat=i+1:=by omega
  have e3:(0:Int)≤(i:Int)+1:=by omega
  have hi2:i+1<(zt (a.length+1) (shL a bits i)).length:=by omega
  have hnb:¬ ((bits:Int)<0):=by omega
  simp[rG,Xw,e,hi,hi1,hi2,ei1,e2,e3,hget,hor,u1,xY,wG,hmin,u2,f1,f2,f3,wi,splice,hset]
 ·have:zt (a.length+1) (shL a bits a.length)=zt (a.length+1) (val a*2^bits):=by rw[FW]
  have hlt:(zt (a.length+1) (val a*2^bits)).length=a.length+1:=zy
  have ht:List.take (a.length+1) (zD (zt (a.length+1) (val a*2^bits)))=zD (zt (a.length+1) (val a*2^bits)):=List.take_of_length_le (by rw[List.length_map,hlt]; exact Nat.le_refl _)
  simp[rG,Xw,jh,bq,this,hlt,ht]
  exact AV.imp.refl
theorem aey {t:Nat} (h0:0<t) (ht:t<B):∃ p,t*2^lz t=p∧2147483648≤p∧p<4294967296:=⟨_,rfl,(L9 h0 ht).1,(L9 h0 ht).2⟩
theorem aaH {A D n _m:Nat} {K:Exit→St→Prop} (hD:(zh D).length=n+2) (hn:n<549755813888)
  (hK:∀ q y,(q=53)→awp Tryz.prog sr {env:=[(0,nD A),(1,nD D),(9,zU (lz (D/B^(n+1)))),(q,y)],sto:=[]} K) :
  awp Tryz.prog (.loop qD) (Ut A D 0) (vi 0 (pS Tryz.prog sr K)):=by
 obtain ⟨_,_,ht0,htB⟩:True∧True∧0<D/B^(n+1)∧D/B^(n+1)<B:=⟨trivial,trivial,(cH (n:=n+1) hD).2.2⟩
 have hg:(zh D)[n+1]'(by omega)=D/B^(n+1):=by rw[mF,Nat.mod_eq_of_lt htB]
 have hlen:((zh D).length:Int)=(n:Int)+2:=by omega
 have w0:IntKind.i64.wrap ((n:Int)+2-1)=(n:Int)+1:=by rw[wrap64]<;>omega
 have e1:((n:Int)+1).toNat=n+1:=by omega
 have e2:(0:Int)≤(n:Int)+1:=by omega
 have e3:n+1<(zh D).length:=by omega
 generalize D/B^(n+1)=t at *
 refine zw (Ut A D) (fun _=>True) (lz t) (by simp[Ut]) trivial (fun k hk _=>?_) (fun _=>?_)
 ·have hs:=abm htB hk
  have h32:=MB (t:=t)
  obtain ⟨p,hp⟩:∃ p,t*2^k=p:=⟨_,rfl⟩
  rw[hp] at hs
  have hmin:min k IntKind.u32.bits=k:=by
   have:IntKind.u32.bits=32:=rfl
   omega
  have u1:IntKind.u32.wrap ((t:Int)*2^k)=(p:Int):=by
   rw[show (t:Int)*2^k=((t*2^k:Nat):Int) by simp,hp]; exact IntWalk.u32_in _ (by omega)
  have u2:IntKind.u64.wrap ((k:Int)+1)=(k:Int)+1:=vb (by omega) (by omega)
  have c1:(p:Int)<2147483648:=by omega
  have c2:¬ ((k:Int)<0):=by omega
  simp[qD,Ut,hlen,w0,e1,e2,e3,hg,xY,hmin,u1,u2,c1,c2]
 ·have h32:=MB (t:=t)
  obtain ⟨p,hp,h1,h2⟩:=aey ht0 htB
  have hk0:=hK _ (bv false) rfl
  clear hK
  generalize lz t=k at *
  have hmin:min k IntKind.u32.bits=k:=by
   have:IntKind.u32.bits=32:=rfl
   omega
  have u1:IntKind.u32.wrap ((t:Int)*2^k)=(p:Int):=by
   rw[show (t:Int)*2^k=((t*2^k:Nat):Int) by simp,hp]; exact IntWalk.u32_in _ (by omega)
  have c1:¬ (p:Int)<2147483648:=by omega
  have c3:¬ p<2147483648:=by omega
  have c2:¬ ((k:Int)<0):=by omega
  simp[qD,Ut,hlen,w0,e1,e2,e3,hg]
  rw[xY c2,Int.toNat_natCast,hmin,u1]
  generalize (p:Int)=z at *
  simp[c1]
  exact hk0
def nv (A D n m N X V k:Nat):St :=
 {env:=[(4,.sl 72 1 0 (m+1)),(9,zU N),(10,.sl 1011 1 0 (n+2+m+1)),(11,nD V),(12,iv ((n:Int)+2)),(13,iv m),(74,iv ((m:Int)+1)),(75,iv k)],
  sto:=[(72,.arr 1 (zD (uB (m+1) (A/D) k))),(1011,.arr 1 (zD (zt (n+2+m+1) (rst X V (m+1-k)))))]}
theorem ad8 {A D n m N X V:Nat} {K:Exit→St→Prop} (hA:(zh A).length=n+2+m) (hD:(zh D).length=n+2) (hn:n+m<274877906944) {y:AV} (h:Ml A D n m N X V)
  (hK:∀ s,bh s (nv A D n m N X V 0)→awp Tryz.prog (.loop qE) s (vi 2 (pS Tryz.prog so K))) :
  awp Tryz.prog sr {env:=[(0,nD A),(1,nD D),(9,zU N),(53,y)],sto:=[]} K:=by
 have hN32:=h.N32
 have kt:=xt (m:=.plain) (a:=zt (n+2+1) V) yM (by rw[zy]; omega)
 have hVlt:V<B^(n+2+1):=Nat.lt_trans h.Vlt (Nat.pow_lt_pow_right (by decide) (by omega))
 rw[yq hVlt] at kt
 have hVl:=h.Vlen
 have w1:IntKind.i64.wrap ((n:Int)+2+m-(n+2))=(m:Int):=by rw[wrap64]<;>omega
 have w2:IntKind.i64.wrap ((m:Int)+1)=(m:Int)+1:=by rw[wrap64]<;>omega
 have e1:((m:Int)+1).toNat=m+1:=by omega
 have e2:(zt (n+2+1) V).length=n+2+1:=zy
 have e3:(zD (zt (n+2+1) V)).length=n+2+1:=by rw[List.length_map,e2]
 simp[sr]
 refine ⟨rfl,?_⟩
 refine acy 1000 (zx A) (by omega) hN32 (by simp) ?_
 simp
 have ks:=N5 (m:=.plain) (bits:=N) (zx D) (by omega) hN32
 rw[zJ,← h.V_eq,hD] at ks
 refine za ks (by simp) (by simp) ?_
 simp
 refine za kt (by simp) (by simp) ?_
 simp[hVl,hA,hD,w1,w2,eMk,e1]
 refine ⟨by omega,by omega,by omega,?_⟩
 rw[zJ,← h.X_eq]
 have hz:rst X V (m+1)=X:=afj h.top
 refine hK _ ?_
 simp[nv,hz,Td,mN]
theorem aaI {A D n m N X V:Nat} {K:Exit→St→Prop} (hn:n+m<274877906944) (h:Ml A D n m N X V)
  (hK:∀ q y,q=76→awp Tryz.prog so {(nv A D n m N X V (m+1)) with env:=(nv A D n m N X V (m+1)).env++[(q,y)]} K) :
  ∀ s,bh s (nv A D n m N X V 0)→awp Tryz.prog (.loop qE) s (vi 2 (pS Tryz.prog so K)):=by
 intro s hs
 refine zw (nv A D n m N X V) (fun _=>True) (m+1) hs trivial (fun k hk _=>?_) (fun _=>?_)
 ·obtain ⟨j,hj⟩:∃ j,m-k=j:=⟨_,rfl⟩
  have hj1:m+1-k=j+1:=by omega
  have hj2:m+1-(k+1)=j:=by omega
  have hj3:m+1-1-k=j:=by omega
  have hlt:=RP (A:=X) (j:=j+1) h.Vlt h.Vpos
  obtain ⟨d1,d2,d3⟩:=B1 (A:=X) (j:=j) h.Vpos
  have hstep:=acp (A:=X) (V:=V) (j:=j) (L:=n+2+m+1) h.Vlt h.Vpos (by omega)
  have hval:=afk (A:=X) (V:=V) (j:=j) (n:=n+2) (L:=n+2+m+1) h.Vlt h.Vpos (by omega)
  have hset:=RY (n:=m+1) (D:=A/D) (i:=k) hk
  rw[hj3] at hset
  rw[h.q] at d1
  have hql:=RX (D:=A/D) (show k≤m+1 by omega)
  have hVl:=h.Vlen
  have e:(k:Int)<(m:Int)+1:=by omega
  have w1:IntKind.i64.wrap ((m:Int)-k)=(j:Int):=by rw[wrap64]<;>omega
  have w2:IntKind.i64.wrap ((j:Int)+(n+2))=(j:Int)+(n+2):=by rw[wrap64]<;>omega
  have w3:IntKind.i64.wrap ((j:Int)+(n+2)+1)=(j:Int)+(n+2)+1:=by rw[wrap64]<;>omega
  have w4:IntKind.i64.wrap ((k:Int)+1)=(k:Int)+1:=by rw[wrap64]<;>omega
  have w5:((j:Int)+(n+2)+1).toNat-j=n+3:=by omega
  have ok:az (zt (n+2+m+1) (rst X V (j+1))) (zh V) j n:=⟨yM,zx _,hVl,by rw[zy]; omega,by rw[zy]; omega⟩
  simp[qE,nv,e,w1,w2,w3,hj1,w5]
  refine ⟨by omega,by omega,rfl,?_⟩
  refine agB 3000 ok (by simp) h.vtop hval (by rw[zJ]; exact d3) ?_
  have w6:j<(uB (m+1) (A/D) k).length:=by omega
  have w7:(j:Int)<(m:Int)+1:=by omega
  simp only[zJ,d1,d2,hstep]
  generalize hd:A/D/B^j%B=d at *
  have hset':(zD (uB (m+1) (A/D) k)).set j [uv d]=zD (uB (m+1) (A/D) (k+1)):=by rw[xH,hset]
  simp[w6,w7,splice,hset',w4,hj2,nv]
 ·simp[qE,nv]
  have:=hK _ (bv false) rfl
  simp[nv] at this
  exact this
end Go.Proofs.YtpnliopaifpimaaGreat
