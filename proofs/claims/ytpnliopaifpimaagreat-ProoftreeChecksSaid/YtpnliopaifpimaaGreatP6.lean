/- What the proof rests on, part 6: Am43 Am44. -/
import Derived.Test.YtpnliopaifpimaaGreatP5
set_option maxRecDepth 100000
set_option maxHeartbeats 4000000
namespace Go.Am
abbrev nd:=List (List Int × Value)
def tK (k:List Int):Value:=.agg (k.map (Value.int .i64)).toArray
def sB:Nat→nd→List MapEntry
 | _,[]=>[]
 | b,(k,v)::l=>⟨tK k,v,b⟩::sB (b+1) l
def nJ (l:nd):Array MapEntry:=(sB 0 l).toArray
def vH (k:List Int):nd→Option Value
 | []=>none
 | (k',v)::l=>if k=k' then some v else vH k l
def gS (k:List Int) (v:Value):nd→nd
 | []=>[(k,v)]
 | (k',v')::l=>if k=k' then (k',v)::l else (k',v')::gS k v l
theorem Ji:∀ (b:Nat) (l:nd),(sB b l).length=l.length
 | _,[]=>rfl
 | b,(k,v)::l=>by simp[sB,Ji (b+1) l]
def ab (n:Nat) (l:nd):Prop:=∀ x∈l,x.1.length=n
theorem UQ {k:List Int} {v:Value}:∀ {l:nd},vH k l=none→gS k v l=l++[(k,v)]
 | [],_=>rfl
 | (k1,v1)::l,h=>by
  simp only[vH] at h
  split at h
  ·cases h
  ·rename_i hne
   simp only[gS,if_neg hne,List.cons_append,UQ h]
structure aoS (P:Program) (t key:TypeId) (n:Nat):Prop where
 kd:kds P Op.maxDepth key=some (List.replicate n (.i .i64))
 ag:agT P key=true
 chk:∀ (b:Bool) (k:List Int),k.length=n→zt P (Instr.checkKey b 10000 key (tK k))=some ()
section
variable {P:Program} {t key n:Nat} (hK:aoS P t key n)
include hK
theorem aoS.eqK {k k':List Int} (h:k.length=n) (h':k'.length=n):zt P (Op.equal key (tK k) (tK k'))=some (decide (k=k')):=by
 have e:=nM Op.maxDepth key _ (k.map (Value.int .i64)) (k'.map (Value.int .i64)) hK.kd (by rw[← h]; exact ZQ k) (by rw[← h']; exact ZQ k')
 simp only[valOf,hK.ag,if_true] at e
 rw[← Jj]
 exact e
theorem aoS.askK {k:List Int} (h:k.length=n):∀ (l:nd) (b i:Nat),ab n l→∃ r,zt P (Instr.findAsking key (tK k) (sB b l) i)=some r ∧
  (vH k l=none→r=none)∧∀ v,vH k l=some v→∃ j,r=some (i+j,v)∧j<l.length∧∃ x,(sB b l)[j]?=some ⟨tK k,x,b+j⟩∧∀ u,(sB b l).modify j (fun e=>{e with key:=tK k,val:=u})=sB b (gS k u l)
 | [],b,i,_=>⟨none,by simp[sB,Instr.findAsking,zX],fun _=>rfl,fun v hv=>by simp[vH] at hv⟩
 | (k',v')::l,b,i,hl=>by
  have h1:k'.length=n:=hl (k',v') (by simp)
  have h2:ab n l:=fun x hx=>hl x (by simp[hx])
  simp only[sB,Instr.findAsking,zU,hK.eqK h h1,Option.bind_some]
  by_cases e:k=k'
  ·subst e
   refine ⟨some (i,v'),by simp[zX],fun hn=>by simp[vH] at hn,fun v hv=>?_⟩
   simp only[vH,if_true,Option.some.injEq] at hv
   subst hv
   exact ⟨0,rfl,by simp,v',rfl,fun u=>by simp[gS,sB,List.modify]⟩
  ·obtain ⟨r,hr,h3,h4⟩:=aoS.askK h l (b+1) (i+1) h2
   refine ⟨r,by simp[e,hr],fun hn=>h3 (by simpa [vH,e] using hn),fun v hv=>?_⟩
   obtain ⟨j,rfl,hj,x,hx,hm⟩:=h4 v (by simpa [vH,e] using hv)
   refine ⟨j+1,by rw[show i+1+j=i+(j+1) by omega],by simp; omega,x,by rw[List.getElem?_cons_succ,hx,show b+1+j=b+(j+1) by omega],fun u=>?_⟩
   have:=hm u
   simp only[gS,if_neg e,sB,List.modify_succ_cons,this]
omit hK in
theorem aoS.nowK {kd:TypeDesc} {k:List Int} (hu:∀ x y,Instr.sameNow kd (.agg x) (.agg y)=none):∀ (l:nd) (b i:Nat),l≠[]→Instr.findNow kd (tK k) (sB b l) i=none
 | [],_,_,h=>absurd rfl h
 | (k',v')::l,b,i,_=>by simp[sB,Instr.findNow,tK,hu]
theorem aoS.findK {k:List Int} (h:k.length=n) (l:nd) (hl:ab n l):∃ r,zt P (Instr.findKey key (tK k) (nJ l).toList)=some r ∧
  (vH k l=none→r=none)∧∀ v,vH k l=some v→∃ j,r=some (j,v)∧j<l.length∧∃ x,(sB 0 l)[j]?=some ⟨tK k,x,j⟩∧∀ u,(sB 0 l).modify j (fun e=>{e with key:=tK k,val:=u})=sB 0 (gS k u l):=by
 obtain ⟨u,hu⟩:=(E7 hK.kd).1
 have hs:∀ x y,Instr.sameNow u (.agg x) (.agg y)=none:=fun x y=>by
  unfold Instr.sameNow
  cases u<;>rfl
 have e0:(nJ l).toList=sB 0 l:=rfl
 obtain ⟨r,hr,h3,h4⟩:=hK.askK h l 0 0 hl
 by_cases hn:l=[]
 ·subst hn
  refine ⟨none,?_,fun _=>rfl,fun v hv=>by simp[vH] at hv⟩
  simp only[Instr.findKey,zU,yO,hu,e0,sB,Instr.findNow,Option.bind_some,zX]
 ·refine ⟨r,?_,h3,fun v hv=>?_⟩
  ·simp[Instr.findKey,zU,yO,hu,e0,aoS.nowK hs l 0 0 hn,hr]
  ·obtain ⟨j,rfl,hj,x,hx,hm⟩:=h4 v hv
   exact ⟨j,by rw[Nat.zero_add],hj,x,by simpa using hx,hm⟩
variable {el:TypeId} {z:Value}
theorem aoS.findMK (hm:P.underlying t=some (.map key el)) (hz:zt P (zeroValue el)=some z) {k:List Int} (h:k.length=n) {l:nd} (hl:ab n l) :
  findM P t (tK k) (nJ l)=some (match vH k l with | some v=>(v,true) | none=>(z,false)):=by
 obtain ⟨r,hr,h3,h4⟩:=hK.findK h l hl
 unfold Am.findM
 rw[hm]
 simp only[hK.chk _ k h,hr]
 cases hf:vH k l with
 | none=>rw[h3 hf]; simp[hz]
 | some v=>obtain ⟨j,rfl,_⟩:=h4 v hf; rfl
theorem aoS.setMK (hm:P.underlying t=some (.map key el)) {k:List Int} (h:k.length=n) {l:nd} (hl:ab n l) {v:Value} :
  setM P t (tK k) v (nJ l) l.length=some (nJ (gS k v l),(gS k v l).length):=by
 obtain ⟨r,hr,h3,h4⟩:=hK.findK h l hl
 unfold Am.setM
 rw[hm]
 simp only[hK.chk _ k h,hr]
 cases hf:vH k l with
 | none =>
  rw[h3 hf]
  simp only[Option.some.injEq,Prod.mk.injEq]
  rw[UQ hf]
  refine ⟨?_,by simp⟩
  have key:∀ (l:nd) (b:Nat),sB b (l++[(k,v)])=sB b l++[⟨tK k,v,b+l.length⟩]:=fun l=>by
   induction l with
   | nil=>intro b; rfl
   | cons x l ih=>intro b; obtain ⟨k1,v1⟩:=x; simp only[List.cons_append,sB,ih,List.length_cons]; rw[show b+1+l.length=b+(l.length+1) by omega]
  unfold nJ
  rw[key l 0]
  simp
 | some u =>
  obtain ⟨j,rfl,hj,x,hx,hmod⟩:=h4 u hf
  have e1:(nJ l)[j]?=some ⟨tK k,x,j⟩:=by unfold nJ; simpa using hx
  have e2:zt P (Instr.keyThatStays (tK k) (tK k))=some (tK k):=by
   have hs:Instr.sameBits 10000 (tK k) (tK k)=true:=by
    unfold tK
    show Instr.sameBits (9999+1) _ _=true
    unfold Instr.sameBits
    simp only[beq_self_eq_true,Bool.true_and,List.all_eq_true]
    intro p hp
    have hz:∀ (l:List Value),(∀ y∈l,∃ m:Int,y=.int .i64 m)→∀ p∈l.zip l,Instr.sameBits 9999 p.1 p.2=true:=fun l=>by
     induction l with
     | nil=>intro _ p hp; simp at hp
     | cons y l ih =>
      intro hy p hp
      simp only[List.zip_cons_cons,List.mem_cons] at hp
      rcases hp with rfl | hp
      ·obtain ⟨m,rfl⟩:=hy y (by simp)
       show Instr.sameBits (9998+1) _ _=true
       unfold Instr.sameBits
       simp
      ·exact ih (fun y hy'=>hy y (by simp[hy'])) p hp
    exact hz _ (fun y hy=>by obtain ⟨m,_,rfl⟩:=List.mem_map.1 (by simpa using hy); exact ⟨m,rfl⟩) p hp
   unfold Instr.keyThatStays
   rw[if_pos hs]
   exact zX _ _
  simp only[e1,Option.map_some,Option.getD_some,e2,Option.some.injEq,Prod.mk.injEq]
  have e3:(gS k v l).length=l.length:=by
   have:=congrArg List.length (hmod v)
   simp only[List.length_modify,Ji] at this
   omega
  refine ⟨?_,e3.symm⟩
  unfold nJ
  rw[← hmod v]
  simp[List.modify_toArray]
end
section
variable {P:Program} {t key n el:Nat} {s:St} {d:Option Nat} {K:AV→Option zg→Prop} {KS:St→Prop} {σ:Nat→Option zg}
theorem Je {z:Value} (hK:aoS P t key n) (hm:P.underlying t=some (.map key el)) (hz:zt P (zeroValue el)=some z) {ok:Bool} {j:Nat} {l:nd} {k:List Int} {c:Nat}
  (hs:σ j=some (.map (nJ l) c)) (h:k.length=n) (hl:ab n l) :
  rc P t ok σ [.mp j,.agg (k.map iv)] K=K (if ok=true then .tuple [ofV ((vH k l).getD z),bv (vH k l).isSome] else ofV ((vH k l).getD z)) none:=by
 have e:toV (.agg (k.map iv))=some (tK k):=by simp only[toV,T6,Option.map_some]; rfl
 simp only[rc,hs,e,hK.findMK hm hz h hl]
 cases vH k l<;>rfl
theorem Jg (hK:aoS P t key n) (hm:P.underlying t=some (.map key el)) {j:Nat} {l:nd} {k:List Int} {x:AV} {v:Value}
  (hs:lk s.sto j=some (.map (nJ l) l.length)) (h:k.length=n) (hl:ab n l) (hx:toV x=some v) :
  qx P t s d KS [.mp j,.agg (k.map iv),x]=(d=none∧KS {s with sto:=pt s.sto j (.map (nJ (gS k v l)) (gS k v l).length)}):=by
 have e:toV (.agg (k.map iv))=some (tK k):=by simp only[toV,T6,Option.map_some]; rfl
 simp only[qx,hs,e,hx,hK.setMK hm h hl]
end
def ET (P:Program) (s:St) (d:Option Nat) (K:St→Prop):List AV→Prop
 | .fn (.func f) caps::ys=>yv P f=true∧py P f (ys++caps) s d K
 | _=>False
@[simp] theorem ajZ {P:Program} {s:St} {d:Option Nat} {K:St→Prop} {f:FuncId} {caps ys:List AV} :
  ET P s d K (.fn (.func f) caps::ys)=(yv P f=true∧py P f (ys++caps) s d K):=rfl
@[simp] theorem akR {P:Program} {xs:List Opd} {d:Option Nat} {os:List zi} {s:St} {KS:St→Prop} :
  zm P (⟨d,.callvI,xs,none⟩::os) s KS=ET P s d (Zh P os KS) (xs.map (ev s)):=propext Iff.rfl
end Go.Am
