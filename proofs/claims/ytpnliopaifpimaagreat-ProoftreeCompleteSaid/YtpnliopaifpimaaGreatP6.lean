/- What the proof rests on, part 6: Am43 Am44. -/
import Derived.Test.YtpnliopaifpimaaGreatP5
set_option maxRecDepth 100000
set_option maxHeartbeats 4000000
namespace Go.Am
abbrev pj:=List (List Int × Value)
def apf (k:List Int):Value:=.agg (k.map (Value.int .i64)).toArray
def tS:Nat→pj→List MapEntry
 | _,[]=>[]
 | b,(k,v)::l=>⟨apf k,v,b⟩::tS (b+1) l
def pJ (l:pj):Array MapEntry:=(tS 0 l).toArray
def vp (k:List Int):pj→Option Value
 | []=>none
 | (k',v)::l=>if k=k' then some v else vp k l
def jF (k:List Int) (v:Value):pj→pj
 | []=>[(k,v)]
 | (k',v')::l=>if k=k' then (k',v)::l else (k',v')::jF k v l
theorem Lv:∀ (b:Nat) (l:pj),(tS b l).length=l.length
 | _,[]=>rfl
 | b,(k,v)::l=>by simp[tS,Lv (b+1) l]
def cc (n:Nat) (l:pj):Prop:=∀ x∈l,x.1.length=n
theorem Xm {k:List Int} {v:Value}:∀ {l:pj},vp k l=none→jF k v l=l++[(k,v)]
 | [],_=>rfl
 | (k1,v1)::l,h=>by
  simp only[vp] at h
  split at h
  ·cases h
  ·rename_i hne
   simp only[jF,if_neg hne,List.cons_append,Xm h]
structure gy (P:Program) (t key:TypeId) (n:Nat):Prop where
 kd:kds P Op.maxDepth key=some (List.replicate n (.i .i64))
 ag:agT P key=true
 chk:∀ (b:Bool) (k:List Int),k.length=n→zr P (Instr.checkKey b 10000 key (apf k))=some ()
section
variable {P:Program} {t key n:Nat} (hK:gy P t key n)
include hK
theorem gy.eqK {k k':List Int} (h:k.length=n) (h':k'.length=n):zr P (Op.equal key (apf k) (apf k'))=some (decide (k=k')):=by
 have e:=pM Op.maxDepth key _ (k.map (Value.int .i64)) (k'.map (Value.int .i64)) hK.kd (by rw[← h]; exact bV k) (by rw[← h']; exact bV k')
 simp only[valOf,hK.ag,if_true] at e
 rw[← Lw]
 exact e
theorem gy.askK {k:List Int} (h:k.length=n):∀ (l:pj) (b i:Nat),cc n l→∃ r,zr P (Instr.findAsking key (apf k) (tS b l) i)=some r ∧
  (vp k l=none→r=none)∧∀ v,vp k l=some v→∃ j,r=some (i+j,v)∧j<l.length∧∃ x,(tS b l)[j]?=some ⟨apf k,x,b+j⟩∧∀ u,(tS b l).modify j (fun e=>{e with key:=apf k,val:=u})=tS b (jF k u l)
 | [],b,i,_=>⟨none,by simp[tS,Instr.findAsking,zQ],fun _=>rfl,fun v hv=>by simp[vp] at hv⟩
 | (k',v')::l,b,i,hl=>by
  have h1:k'.length=n:=hl (k',v') (by simp)
  have h2:cc n l:=fun x hx=>hl x (by simp[hx])
  simp only[tS,Instr.findAsking,zO,hK.eqK h h1,Option.bind_some]
  by_cases e:k=k'
  ·subst e
   refine ⟨some (i,v'),by simp[zQ],fun hn=>by simp[vp] at hn,fun v hv=>?_⟩
   simp only[vp,if_true,Option.some.injEq] at hv
   subst hv
   exact ⟨0,rfl,by simp,v',rfl,fun u=>by simp[jF,tS,List.modify]⟩
  ·obtain ⟨r,hr,h3,h4⟩:=gy.askK h l (b+1) (i+1) h2
   refine ⟨r,by simp[e,hr],fun hn=>h3 (by simpa [vp,e] using hn),fun v hv=>?_⟩
   obtain ⟨j,rfl,hj,x,hx,hm⟩:=h4 v (by simpa [vp,e] using hv)
   refine ⟨j+1,by rw[show i+1+j=i+(j+1) by omega],by simp; omega,x,by rw[List.getElem?_cons_succ,hx,show b+1+j=b+(j+1) by omega],fun u=>?_⟩
   have:=hm u
   simp only[jF,if_neg e,tS,List.modify_succ_cons,this]
omit hK in
theorem gy.nowK {kd:TypeDesc} {k:List Int} (hu:∀ x y,Instr.sameNow kd (.agg x) (.agg y)=none):∀ (l:pj) (b i:Nat),l≠[]→Instr.findNow kd (apf k) (tS b l) i=none
 | [],_,_,h=>absurd rfl h
 | (k',v')::l,b,i,_=>by simp[tS,Instr.findNow,apf,hu]
theorem gy.findK {k:List Int} (h:k.length=n) (l:pj) (hl:cc n l):∃ r,zr P (Instr.findKey key (apf k) (pJ l).toList)=some r ∧
  (vp k l=none→r=none)∧∀ v,vp k l=some v→∃ j,r=some (j,v)∧j<l.length∧∃ x,(tS 0 l)[j]?=some ⟨apf k,x,j⟩∧∀ u,(tS 0 l).modify j (fun e=>{e with key:=apf k,val:=u})=tS 0 (jF k u l):=by
 obtain ⟨u,hu⟩:=(Fi hK.kd).1
 have hs:∀ x y,Instr.sameNow u (.agg x) (.agg y)=none:=fun x y=>by
  unfold Instr.sameNow
  cases u<;>rfl
 have e0:(pJ l).toList=tS 0 l:=rfl
 obtain ⟨r,hr,h3,h4⟩:=hK.askK h l 0 0 hl
 by_cases hn:l=[]
 ·subst hn
  refine ⟨none,?_,fun _=>rfl,fun v hv=>by simp[vp] at hv⟩
  simp only[Instr.findKey,zO,yD,hu,e0,tS,Instr.findNow,Option.bind_some,zQ]
 ·refine ⟨r,?_,h3,fun v hv=>?_⟩
  ·simp[Instr.findKey,zO,yD,hu,e0,gy.nowK hs l 0 0 hn,hr]
  ·obtain ⟨j,rfl,hj,x,hx,hm⟩:=h4 v hv
   exact ⟨j,by rw[Nat.zero_add],hj,x,by simpa using hx,hm⟩
variable {el:TypeId} {z:Value}
theorem gy.findMK (hm:P.underlying t=some (.map key el)) (hz:zr P (zeroValue el)=some z) {k:List Int} (h:k.length=n) {l:pj} (hl:cc n l) :
  findM P t (apf k) (pJ l)=some (match vp k l with | some v=>(v,true) | none=>(z,false)):=by
 obtain ⟨r,hr,h3,h4⟩:=hK.findK h l hl
 unfold Am.findM
 rw[hm]
 simp only[hK.chk _ k h,hr]
 cases hf:vp k l with
 | none=>rw[h3 hf]; simp[hz]
 | some v=>obtain ⟨j,rfl,_⟩:=h4 v hf; rfl
theorem gy.setMK (hm:P.underlying t=some (.map key el)) {k:List Int} (h:k.length=n) {l:pj} (hl:cc n l) {v:Value} :
  setM P t (apf k) v (pJ l) l.length=some (pJ (jF k v l),(jF k v l).length):=by
 obtain ⟨r,hr,h3,h4⟩:=hK.findK h l hl
 unfold Am.setM
 rw[hm]
 simp only[hK.chk _ k h,hr]
 cases hf:vp k l with
 | none =>
  rw[h3 hf]
  simp only[Option.some.injEq,Prod.mk.injEq]
  rw[Xm hf]
  refine ⟨?_,by simp⟩
  have key:∀ (l:pj) (b:Nat),tS b (l++[(k,v)])=tS b l++[⟨apf k,v,b+l.length⟩]:=fun l=>by
   induction l with
   | nil=>intro b; rfl
   | cons x l ih=>intro b; obtain ⟨k1,v1⟩:=x; simp only[List.cons_append,tS,ih,List.length_cons]; rw[show b+1+l.length=b+(l.length+1) by omega]
  unfold pJ
  rw[key l 0]
  simp
 | some u =>
  obtain ⟨j,rfl,hj,x,hx,hmod⟩:=h4 u hf
  have e1:(pJ l)[j]?=some ⟨apf k,x,j⟩:=by unfold pJ; simpa using hx
  have e2:zr P (Instr.keyThatStays (apf k) (apf k))=some (apf k):=by
   have hs:Instr.sameBits 10000 (apf k) (apf k)=true:=by
    unfold apf
    show Instr.sameBits (9999+1) _ _=true
    unfold Instr.sameBits
    simp only[beq_self_eq_true,Bool.true_and,List.all_eq_true]
    intro p hp
    have hz:∀ (l:List Value),(∀ y∈l,∃ m:Int,y=.int .i64 m)→∀ p∈l.zip l,Instr.sameBits 9999 p.1 p.2=true:=fun l=>by
     induction l with
     | nil=>intro _ p hp; simp at hp
     | cons y l ih =>
      intro hy p hp
      simp only[List.zip_cons_cons,List.mem_cons] at hp
      rcases hp with rfl | hp
      ·obtain ⟨m,rfl⟩:=hy y (by simp)
       show Instr.sameBits (9998+1) _ _=true
       unfold Instr.sameBits
       simp
      ·exact ih (fun y hy'=>hy y (by simp[hy'])) p hp
    exact hz _ (fun y hy=>by obtain ⟨m,_,rfl⟩:=List.mem_map.1 (by simpa using hy); exact ⟨m,rfl⟩) p hp
   unfold Instr.keyThatStays
   rw[if_pos hs]
   exact zQ _ _
  simp only[e1,Option.map_some,Option.getD_some,e2,Option.some.injEq,Prod.mk.injEq]
  have e3:(jF k v l).length=l.length:=by
   have:=congrArg List.length (hmod v)
   simp only[List.length_modify,Lv] at this
   omega
  refine ⟨?_,e3.symm⟩
  unfold pJ
  rw[← hmod v]
  simp[List.modify_toArray]
end
section
variable {P:Program} {t key n el:Nat} {s:St} {d:Option Nat} {K:AV→Option zf→Prop} {KS:St→Prop} {σ:Nat→Option zf}
theorem Lr {z:Value} (hK:gy P t key n) (hm:P.underlying t=some (.map key el)) (hz:zr P (zeroValue el)=some z) {ok:Bool} {j:Nat} {l:pj} {k:List Int} {c:Nat}
  (hs:σ j=some (.map (pJ l) c)) (h:k.length=n) (hl:cc n l) :
  ss P t ok σ [.mp j,.agg (k.map iv)] K=K (if ok=true then .tuple [ofV ((vp k l).getD z),bv (vp k l).isSome] else ofV ((vp k l).getD z)) none:=by
 have e:toV (.agg (k.map iv))=some (apf k):=by simp only[toV,Uz,Option.map_some]; rfl
 simp only[ss,hs,e,hK.findMK hm hz h hl]
 cases vp k l<;>rfl
theorem Lt (hK:gy P t key n) (hm:P.underlying t=some (.map key el)) {j:Nat} {l:pj} {k:List Int} {x:AV} {v:Value}
  (hs:lk s.sto j=some (.map (pJ l) l.length)) (h:k.length=n) (hl:cc n l) (hx:toV x=some v) :
  rP P t s d KS [.mp j,.agg (k.map iv),x]=(d=none∧KS {s with sto:=pt s.sto j (.map (pJ (jF k v l)) (jF k v l).length)}):=by
 have e:toV (.agg (k.map iv))=some (apf k):=by simp only[toV,Uz,Option.map_some]; rfl
 simp only[rP,hs,e,hx,hK.setMK hm h hl]
end
def G3 (P:Program) (s:St) (d:Option Nat) (K:St→Prop):List AV→Prop
 | .fn (.func f) caps::ys=>yy P f=true∧qG P f (ys++caps) s d K
 | _=>False
@[simp] theorem aie {P:Program} {s:St} {d:Option Nat} {K:St→Prop} {f:FuncId} {caps ys:List AV} :
  G3 P s d K (.fn (.func f) caps::ys)=(yy P f=true∧qG P f (ys++caps) s d K):=rfl
@[simp] theorem ai6 {P:Program} {xs:List Opd} {d:Option Nat} {os:List zi} {s:St} {KS:St→Prop} :
  zl P (⟨d,.callvI,xs,none⟩::os) s KS=G3 P s d (bm P os KS) (xs.map (ev s)):=propext Iff.rfl
end Go.Am
