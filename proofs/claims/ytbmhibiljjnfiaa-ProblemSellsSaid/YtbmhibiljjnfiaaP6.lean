/- What the proof rests on, part 6: Am39 Am41 Am42 Am43 Am44. -/
import Derived.Test.YtbmhibiljjnfiaaP5
set_option maxRecDepth 100000
set_option maxHeartbeats 4000000
namespace Go.Am
open Go.RowKit
section
variable {P:Program} {t:TypeId} {ox oy:Operand} {k k':IntKind} {a b:Int} {K:AV→Option zd→Prop}
theorem Sv (h:b≠0):yc P .quo t ox oy [.val (.int k a),.val (.int k b)] K=K (.val (.int k (k.wrap (a.tdiv b)))) none:=by
 simp[yc,toV,zn,eqGuard,binOp,Op.intDiv,h,yU,ofV,xh,bind,Sem.bind,pure]
theorem Sw (h:b≠0):yc P .rem t ox oy [.val (.int k a),.val (.int k b)] K=K (.val (.int k (a.tmod b))) none:=by
 simp[yc,toV,zn,eqGuard,binOp,Op.intDiv,h,yU,ofV,xh,bind,Sem.bind,pure]
def sk (op:BinOp) (k:IntKind) (a b:Int):Int :=
 match op with
 | .and=>k.wrap (BitVec.ofInt k.bits a &&& BitVec.ofInt k.bits b).toNat
 | .or=>k.wrap (BitVec.ofInt k.bits a ||| BitVec.ofInt k.bits b).toNat
 | .xor=>k.wrap (BitVec.ofInt k.bits a ^^^ BitVec.ofInt k.bits b).toNat
 | _=>k.wrap (BitVec.ofInt k.bits a &&& ~~~BitVec.ofInt k.bits b).toNat
theorem Jm:yc P .and t ox oy [.val (.int k a),.val (.int k b)] K=K (.val (.int k (sk .and k a b))) none:=by
 simp[yc,toV,zn,eqGuard,binOp,Op.intBits,sk,yU,ofV,xh,bind,Sem.bind,pure]
theorem F2:yc P .or t ox oy [.val (.int k a),.val (.int k b)] K=K (.val (.int k (sk .or k a b))) none:=by
 simp[yc,toV,zn,eqGuard,binOp,Op.intBits,sk,yU,ofV,xh,bind,Sem.bind,pure]
theorem Jv:yc P .xor t ox oy [.val (.int k a),.val (.int k b)] K=K (.val (.int k (sk .xor k a b))) none:=by
 simp[yc,toV,zn,eqGuard,binOp,Op.intBits,sk,yU,ofV,xh,bind,Sem.bind,pure]
theorem Qm:yc P .andNot t ox oy [.val (.int k a),.val (.int k b)] K=K (.val (.int k (sk .andNot k a b))) none:=by
 simp[yc,toV,zn,eqGuard,binOp,Op.intBits,sk,yU,ofV,xh,bind,Sem.bind,pure]
theorem tg (h:¬ b<0):yc P .shl t ox oy [.val (.int k a),.val (.int k' b)] K=K (.val (.int k (k.wrap (a*2^(min b.toNat k.bits))))) none:=by
 simp[yc,toV,zn,eqGuard,binOp,Op.shift,h,yU,ofV,xh,bind,Sem.bind,pure]
theorem wI (h:¬ b<0):yc P .shr t ox oy [.val (.int k a),.val (.int k' b)] K=K (.val (.int k (a.fdiv (2^(min b.toNat k.bits))))) none:=by
 simp[yc,toV,zn,eqGuard,binOp,Op.shift,h,yU,ofV,xh,bind,Sem.bind,pure]
theorem Ph {x y:ByteArray}:(x.toList == y.toList)=decide (x=y):=by
 have:x.toList=y.toList↔x=y:=by
  constructor
  ·intro h
   have h1:x.data.toList=y.data.toList:=by simpa [ByteArray.toList_eq] using h
   cases x; cases y
   congr 1
   exact Array.ext' h1
  ·rintro rfl; rfl
 by_cases h:x=y
 ·subst h; simp
 ·have:¬ x.toList=y.toList:=fun e=>h (this.1 e)
  simp[h,this]
theorem MI {x y:ByteArray}:yc P .eql t ox oy [.val (.string x),.val (.string y)] K=K (bv (decide (x=y))) none:=by
 simp only[yc,toV,eqGuard,binOp,Op.stringOp,yU,ofV,xh,bind,pure,Ph]
 rfl
theorem MJ {x y:ByteArray}:yc P .neq t ox oy [.val (.string x),.val (.string y)] K=K (bv (!decide (x=y))) none:=by
 simp only[yc,toV,eqGuard,binOp,Op.stringOp,yU,ofV,xh,bind,pure,Ph]
 rfl
end
section
variable {P:Program} {s:St} {KS:St→Prop} {os:List zg} {d:Nat} {k k':IntKind}
theorem MB {ta tb:TypeId} {u:TypeDesc} {n:Int} (ha:P.underlying ta=some u) (hb:P.underlying tb=some (.int k')):gZ P ta tb (.val (.int k n))=some (.val (.int k' (k'.wrap n))):=by
 simp only[gZ,convert,zK,yR,ha,hb,Option.bind_some]
 rfl
theorem E9 {n:Int}:unA P .neg (.val (.int k n))=some (.val (.int k (k.wrap (0-n)))):=rfl
theorem Da {n:Int}:unA P .xor (.val (.int k n))=some (.val (.int k (sk .xor k (if k.signed then -1 else k.max) n))):=rfl
def zB (x:ByteArray) (k:Nat):Nat:=(x.data[k]?.getD 0).toNat
def idxA (P:Program) (t:TypeId) (x:AV) (y:AV):Option AV :=
 match toV x,y with
 | some a,.val i=>(zn P (Instr.index t a i)).map ofV
 | _,_=>none
theorem J3 {t:TypeId} {x y:Opd}:zh P (⟨some d,.idxV t,[x,y],none⟩::os) s KS=p6 (idxA P t (ev s x) (ev s y)) P os s d KS:=by
 show zw P (s.base+d) (.idxV t) [ev s x,ev s y] (lk s.sto) (xl P os s (some d) KS)=_
 cases hy:ev s y<;>cases hx:toV (ev s x)<;>simp only[zw,idxA,hx,p6]
 rename_i v a
 cases zn P (Instr.index t a v)<;>rfl
theorem JF {t:TypeId} (ht:P.underlying t=some .string) {xs:ByteArray} {ik:IntKind} {i:Int} (h0:0≤i) (h1:i<xs.size):idxA P t (.val (.string xs)) (.val (.int ik i))=some (.val (.int .u8 (zB xs i.toNat))):=by
 have h2:i.toNat<xs.size:=by omega
 simp only[idxA,toV,Instr.index,asIntOf,zK,yR,ht,zR,Option.bind_some,if_pos h0]
 rw[getElem?_pos xs i.toNat h2]
 have:zB xs i.toNat=(xs[i.toNat]'h2).toNat:=by
  unfold zB
  rw[Array.getElem?_eq_getElem (show i.toNat<xs.data.size from h2)]
  rfl
 rw[this]
 rfl
def Ur (lo hi mx:Bool) (x:AV) (ys:List AV) (k:AV→Option zd→Prop):Prop :=
 match x with
 | .val (.string s)=>wh s.size lo hi mx ys fun l h _=>mx=false∧k (.val (.string (s.extract l h))) none
 | _=>False
theorem Nn {t:TypeId} {lo hi mx:Bool} {x:Opd} {xs:List Opd}:zh P (⟨some d,.sliceV t lo hi mx,x::xs,none⟩::os) s KS=Ur lo hi mx (ev s x) (xs.map (ev s)) (xl P os s (some d) KS):=by
 show zw P (s.base+d) (.sliceV t lo hi mx) (ev s x::xs.map (ev s)) (lk s.sto) (xl P os s (some d) KS)=_
 simp only[zw,Ur]
 cases ev s x<;>try rfl
 rename_i v
 cases v<;>rfl
theorem Qn {lo hi mx:Bool} {x:ByteArray} {ys:List AV} {k:AV→Option zd→Prop}:Ur lo hi mx (.val (.string x)) ys k=wh x.size lo hi mx ys fun l h _=>mx=false∧k (.val (.string (x.extract l h))) none:=rfl
theorem Lm {xs:List Opd} {x:Opd} {d:Option Nat} {n:String}:zh P (⟨d,.callm n,x::xs,none⟩::os) s KS=(match ev s x with | .iface t r=>(match Zf P t n with | some f=>xY P f=true∧xK P f (lk s.sto) (r::xs.map (ev s)) (xl P os s d KS) | none=>False) | _=>False):=by
 show zw P (s.base+d.getD 0) (.callm n) (ev s x::xs.map (ev s)) (lk s.sto) (xl P os s d KS)=_
 simp only[zw]
 cases ev s x<;>try rfl
theorem Ln {xs:List Opd} {x:Opd} {d:Option Nat}:zh P (⟨d,.callv,x::xs,none⟩::os) s KS=(match ev s x with | .fn (.func f) caps=>xY P f=true∧xK P f (lk s.sto) (xs.map (ev s)++caps) (xl P os s d KS) | .fn (.via _ _ f _) rs=>xY P f=true∧xK P f (lk s.sto) (rs++xs.map (ev s)) (xl P os s d KS) | _=>False):=by
 show zw P (s.base+d.getD 0) .callv (ev s x::xs.map (ev s)) (lk s.sto) (xl P os s d KS)=_
 simp only[zw]
 cases ev s x<;>try rfl
 rename_i f caps
 cases f<;>rfl
theorem Dr {n:Nat} {k:Nat→Nat→Bool→Prop}:wh n false false false [] k=k 0 n false:=rfl
theorem Dq {n:Nat} {ik:IntKind} {l:Int} {k:Nat→Nat→Bool→Prop}:wh n true false false [.val (.int ik l)] k=(0≤l∧l≤n∧k l.toNat n false):=rfl
theorem Dp {n:Nat} {ik:IntKind} {h:Int} {k:Nat→Nat→Bool→Prop}:wh n false true false [.val (.int ik h)] k=(0≤h∧h≤n∧k 0 h.toNat false):=rfl
theorem FE {n:Nat} {ik jk:IntKind} {l h:Int} {k:Nat→Nat→Bool→Prop}:wh n true true false [.val (.int ik l),.val (.int jk h)] k=(0≤l∧l≤h∧h≤n∧k l.toNat h.toNat false):=rfl
theorem FD {n:Nat} {ik jk:IntKind} {h m:Int} {k:Nat→Nat→Bool→Prop}:wh n false true true [.val (.int ik h),.val (.int jk m)] k=(0≤h∧h=m∧m≤n∧k 0 h.toNat true):=rfl
theorem KY {n:Nat} {ik jk kk:IntKind} {l h m:Int} {k:Nat→Nat→Bool→Prop}:wh n true true true [.val (.int ik l),.val (.int jk h),.val (.int kk m)] k=(0≤l∧l≤h∧h=m∧m≤n∧k l.toNat h.toNat true):=rfl
theorem Qo {sz sz':Nat} {lo hi mx:Bool} {m:Mode} {rows:List (List AV)} {xs:List AV} {k:AV→Option zd→Prop} :
  ug sz lo hi mx (.list sz' m rows::xs) k=((rows=[]∨sz'=sz)∧wh rows.length lo hi mx xs fun l h f=>k (.list sz' (if f=true then .full else .plain) ((rows.take h).drop l)) none):=rfl
theorem ML {j sz sz' off len:Nat} {lo hi mx:Bool} {xs:List AV} {k:AV→Option zd→Prop} :
  ug sz lo hi mx (.sl j sz' off len::xs) k=(sz'=sz∧wh len lo hi mx xs fun l h _=>k (.sl j sz (off+l) (h-l)) none):=rfl
theorem MM {j sz sz' off len:Nat} {lo hi mx:Bool} {xs:List AV} {k:AV→Option zd→Prop} :
  ug sz lo hi mx (.us j sz' off len::xs) k=(sz'=sz∧wh len lo hi mx xs fun l h _=>k (.us j sz (off+l) (h-l)) none):=rfl
end
theorem Na {α:Type} {l:List (Nat × α)} {n:Nat} {x:α}:lk (pt l n x) n=some x:=by rw[vO,if_pos rfl]
theorem Np {α:Type} {l:List (Nat × α)} {n:Nat} {x y:α}:pt (pt l n x) n y=pt l n y:=by
 induction l with
 | nil=>simp[pt]
 | cons p l ih =>
  obtain ⟨q,z⟩:=p
  by_cases h:q=n
  ·subst h; simp[pt]
  ·simp[pt,h,ih]
section
variable {k:Nat} {e:zd}
theorem MW:frz k e .undef=.undef:=rfl
theorem Ea {v:Value}:frz k e (.val v)=.val v:=rfl
theorem F8 {c:List AV}:frz k e (.agg c)=.agg c:=rfl
theorem DN {c:List AV}:frz k e (.ro c)=.ro c:=rfl
theorem MT {t:TypeId} {x:AV}:frz k e (.iface t x)=.iface t x:=rfl
theorem DM {f:Fn} {c:List AV}:frz k e (.fn f c)=.fn f c:=rfl
theorem MV {c:List AV}:frz k e (.tuple c)=.tuple c:=rfl
theorem JD {sz:Nat} {m:Mode} {r:List (List AV)} (h:stm m=m):frz k e (.list sz m r)=.list sz m r:=by
 cases m with
 | plain=>rfl
 | full=>rfl
 | own l=>cases h
theorem MU {sz:Nat} {r:List (List AV)}:frz k e (.list sz .plain r)=.list sz .plain r:=rfl
theorem JC {sz:Nat} {r:List (List AV)}:frz k e (.list sz .full r)=.list sz .full r:=rfl
theorem F9 {j off:Nat}:frz k e (.ptr j off)=if j=k then (match e with
   | .var cells=>if (cells.drop off).all rf=true then .ro ((cells.drop off).map strip) else .undef
   | _=>.undef) else .ptr j off:=rfl
theorem JB {j sz i off:Nat}:frz k e (.eptr j sz i off)=if j=k then .undef else .eptr j sz i off:=rfl
theorem DP {j sz i off:Nat}:frz k e (.up j sz i off)=if j=k then .undef else .up j sz i off:=rfl
theorem DO {j sz off len:Nat}:frz k e (.sl j sz off len)=if j=k then (match e with
   | .arr sz' rows=>if sz'=sz∧off+len≤rows.length then .list sz .plain ((rows.drop off).take len) else .undef
   | _=>.undef) else .sl j sz off len:=rfl
theorem DQ {j sz off len:Nat}:frz k e (.us j sz off len)=if j=k then (match e with
   | .uarr sz' rows=>if sz'=sz∧off+len≤rows.length∧wC ((rows.drop off).take len)=true then .list sz .plain (zP ((rows.drop off).take len)) else .undef
   | _=>.undef) else .us j sz off len:=rfl
theorem SH {x:Nat} {ks:List Nat} {s:St} {K:St→Prop}:uA (x::ks) s K=qp (s.base+x) s (fun s'=>uA ks s' K):=rfl
end
theorem extract_eq {x:ByteArray} {n:Nat} (h:n≤x.size):(x.extract 0 n=x)↔n=x.size:=by
 constructor
 ·intro e
  have:=congrArg ByteArray.size e
  rw[ByteArray.size_extract] at this
  omega
 ·rintro rfl
  exact ByteArray.extract_zero_size
attribute [simp] Na Np
attribute [simp] MW Ea F8 DN MT DM MV MU JC F9 JB DP DO DQ SH
attribute [simp high] ZN Pq dS TA
attribute [simp] Jm F2 Jv Qm MI MJ MB E9 Da J3 JF Nn Qn Ln Lm Dr Dq Dp FE FD KY Qo ML MM
def St.impW (s t:St):Prop:=∀ (F:zU) (a:Act) (w:World) (I:Nat→Nat→Prop) (β:zO) (lam:zZ),Inv F s.look (lk s.sto) I β lam a w→Inv F t.look (lk t.sto) I β lam a w
theorem St.impW.imp {s t:St} (h:St.impW s t):St.imp s t:=fun F a w ⟨I,β,lam,hI⟩=>⟨I,β,lam,h F a w I β lam hI⟩
theorem St.impW.refl {s:St}:St.impW s s:=fun _ _ _ _ _ _ h=>h
theorem St.impW.trans {s t u:St} (h:St.impW s t) (k:St.impW t u):St.impW s u:=fun F a w I β lam g=>k F a w I β lam (h F a w I β lam g)
theorem va.pre {P:Program} {f:FuncId} {xs:List AV} {s t:St} {K:AV→St→Prop} (h:St.impW s t) (hc:va P f xs t K):va P f xs s K:=fun F a w I β lam hI=>hc F a w I β lam (h F a w I β lam hI)
theorem CL {I I':Nat→Nat→Prop} {w:World} {β β':zO} {lam lam':zZ} {v:Value} (h:R I w β lam (.tuple []) v):R I' w β' lam' (.tuple []) v:=by
 cases h with
 | base h=>cases h with | tuple _ vs hs _=>exact .base (.tuple _ vs hs fun i c hc=>by simp at hc)
 | tuple _ vs hs _ _=>exact .base (.tuple _ vs hs fun i c hc=>by simp at hc)
theorem va.post {P:Program} {f:FuncId} {xs:List AV} {s:St} {K K':AV→St→Prop} (hc:va P f xs s K) (h:∀ r s',K r s'→(∃ t,St.impW s' t∧K' r t)∨(r=.tuple []∧∃ t,St.imp s' t∧K' r t)):va P f xs s K' :=
 fun F a w I β lam hI vs hn hv=>Calls.mono (hc F a w I β lam hI vs hn hv) fun e w' ⟨v,e1,r,s',I',β',lam',hK,hI',hR⟩=>by
  refine ⟨v,e1,r,?_⟩
  rcases h r s' hK with ⟨t,ht,hk⟩ | ⟨rfl,t,ht,hk⟩
  ·exact ⟨t,I',β',lam',hk,ht _ _ _ _ _ _ hI',hR⟩
  ·obtain ⟨I2,β2,lam2,h2⟩:=ht _ _ _ ⟨I',β',lam',hI'⟩
   refine ⟨t,I2,β2,lam2,hk,h2,?_⟩
   exact CL hR
def JO (M:Nat):AV→Bool
 | .ptr k _=>decide (k<M)
 | .eptr k _ _ _=>decide (k<M)
 | .sl k _ _ _=>decide (k<M)
 | .us k _ _ _=>decide (k<M)
 | .up k _ _ _=>decide (k<M)
 | .mp k=>decide (k<M)
 | .list _ (.own l) _=>decide (l<M)
 | .fn _ _=>false
 | .tuple _=>false
 | .lit _ _=>false
 | .raw _=>false
 | _=>true
def low (M:Nat):AV→Bool
 | .fn _ caps=>caps.all (JO M)
 | .tuple cells=>cells.all (JO M)
 | x=>JO M x
section
variable {I:Nat→Nat→Prop} {w:World} {β:zO} {lam:zZ}
theorem R.own_plain {sz:Nat} {m:Mode} {rows:List (List AV)} {v:Value} (h:R I w β lam (.list sz m rows) v):R I w β lam (.list sz .plain rows) v:=by
 cases h with
 | base h =>
  cases h with
  | listNil sz m a cap hm ho=>exact .base (.listNil _ _ _ _ (fun h=>by cases h) (fun _ h=>by cases h))
  | list sz m rows b o cap g hcap hm ho hrow hcell hc=>exact .base (.list _ _ rows b o cap g hcap (fun h=>by cases h) (fun _ h=>by cases h) hrow hcell hc)
 | own sz l' rows a cap h hl'=>exact .base h
theorem R.nil_plain {sz sz':Nat} {m:Mode} {v:Value} (h:R I w β lam (.list sz m []) v):R I w β lam (.list sz' .plain []) v:=by
 cases h with
 | base h=>cases h<;>exact .base (.listNil _ _ _ _ (fun h=>by cases h) (fun _ h=>by cases h))
 | own sz l' rows a cap h hl'=>exact .base (.listNil _ _ _ _ (fun h=>by cases h) (fun _ h=>by cases h))
end
def aK (x y:AV):Prop:=x=y∨(∃ sz m rows,x=.list sz m rows∧y=.list sz .plain rows)∨∃ sz sz' m,x=.list sz m []∧y=.list sz' .plain []
theorem aK.refl {x:AV}:aK x x:=.inl rfl
theorem aK.list {sz:Nat} {m:Am.Mode} {rows:List (List AV)}:aK (.list sz m rows) (.list sz .plain rows):=.inr (.inl ⟨_,_,_,rfl,rfl⟩)
theorem aK.nil {sz sz':Nat} {m:Am.Mode}:aK (.list sz m []) (.list sz' .plain []):=.inr (.inr ⟨_,_,_,rfl,rfl⟩)
theorem aK.R {x y:AV} (h:aK x y) {I:Nat→Nat→Prop} {w:World} {β:zO} {lam:zZ} {v:Value} (hx:R I w β lam x v):R I w β lam y v:=by
 rcases h with rfl | ⟨sz,m,rows,rfl,rfl⟩ | ⟨sz,sz',m,rfl,rfl⟩
 ·exact hx
 ·exact hx.own_plain
 ·exact hx.nil_plain
abbrev tz:=List (List Int × Value)
def vv (k:List Int):Value:=.agg (k.map (Value.int .i64)).toArray
def vJ:Nat→tz→List MapEntry
 | _,[]=>[]
 | b,(k,v)::l=>⟨vv k,v,b⟩::vJ (b+1) l
def vQ (l:tz):Array MapEntry:=(vJ 0 l).toArray
def xj (k:List Int):tz→Option Value
 | []=>none
 | (k',v)::l=>if k=k' then some v else xj k l
def ti (k:List Int) (v:Value):tz→tz
 | []=>[(k,v)]
 | (k',v')::l=>if k=k' then (k',v)::l else (k',v')::ti k v l
theorem SA:∀ (b:Nat) (l:tz),(vJ b l).length=l.length
 | _,[]=>rfl
 | b,(k,v)::l=>by simp[vJ,SA (b+1) l]
def pF (n:Nat) (l:tz):Prop:=∀ x∈l,x.1.length=n
theorem Tz {n:Nat} {k:List Int} {v:Value} (hk:k.length=n):∀ {l:tz},pF n l→pF n (ti k v l)
 | [],_=>fun x hx=>by simp only[ti,List.mem_singleton] at hx; subst hx; exact hk
 | (k',v')::l,h=>by
  have h1:k'.length=n:=h (k',v') (by simp)
  have h2:pF n l:=fun x hx=>h x (by simp[hx])
  unfold ti
  split
  ·intro x hx
   simp only[List.mem_cons] at hx
   rcases hx with rfl | hx
   ·exact h1
   ·exact h2 x hx
  ·intro x hx
   simp only[List.mem_cons] at hx
   rcases hx with rfl | hx
   ·exact h1
   ·exact Tz hk h2 x hx
theorem bF {k k':List Int} {v:Value}:∀ {l:tz},xj k' (ti k v l)=if k'=k then some v else xj k' l
 | []=>by
  simp only[ti,xj]
 | (k1,v1)::l=>by
  unfold ti
  by_cases h:k=k1
  ·rw[if_pos h]
   subst h
   simp only[xj]
   split<;>rfl
  ·rw[if_neg h]
   simp only[xj]
   rw[bF (l:=l)]
   by_cases h2:k'=k1
   ·subst h2; rw[if_pos rfl,if_neg (Ne.symm h),if_pos rfl]
   ·rw[if_neg h2,if_neg h2]
theorem ae {k:List Int} {v:Value}:∀ {l:tz},xj k l=none→ti k v l=l++[(k,v)]
 | [],_=>rfl
 | (k1,v1)::l,h=>by
  simp only[xj] at h
  split at h
  ·cases h
  ·rename_i hne
   simp only[ti,if_neg hne,List.cons_append,ae h]
structure kl (P:Program) (t key:TypeId) (n:Nat):Prop where
 kd:kds P Op.maxDepth key=some (List.replicate n (.i .i64))
 ag:agT P key=true
 chk:∀ (b:Bool) (k:List Int),k.length=n→zn P (Instr.checkKey b 10000 key (vv k))=some ()
section
variable {P:Program} {t key n:Nat} (hK:kl P t key n)
include hK
theorem kl.eqK {k k':List Int} (h:k.length=n) (h':k'.length=n):zn P (Op.equal key (vv k) (vv k'))=some (decide (k=k')):=by
 have e:=r9 Op.maxDepth key _ (k.map (Value.int .i64)) (k'.map (Value.int .i64)) hK.kd (by rw[← h]; exact lb k) (by rw[← h']; exact lb k')
 simp only[valOf,hK.ag,if_true] at e
 rw[← Xk]
 exact e
theorem kl.askK {k:List Int} (h:k.length=n):∀ (l:tz) (b i:Nat),pF n l→∃ r,zn P (Instr.findAsking key (vv k) (vJ b l) i)=some r ∧
  (xj k l=none→r=none)∧∀ v,xj k l=some v→∃ j,r=some (i+j,v)∧j<l.length∧∃ x,(vJ b l)[j]?=some ⟨vv k,x,b+j⟩∧∀ u,(vJ b l).modify j (fun e=>{e with key:=vv k,val:=u})=vJ b (ti k u l)
 | [],b,i,_=>⟨none,by simp[vJ,Instr.findAsking,zR],fun _=>rfl,fun v hv=>by simp[xj] at hv⟩
 | (k',v')::l,b,i,hl=>by
  have h1:k'.length=n:=hl (k',v') (by simp)
  have h2:pF n l:=fun x hx=>hl x (by simp[hx])
  simp only[vJ,Instr.findAsking,zK,hK.eqK h h1,Option.bind_some]
  by_cases e:k=k'
  ·subst e
   refine ⟨some (i,v'),by simp[zR],fun hn=>by simp[xj] at hn,fun v hv=>?_⟩
   simp only[xj,if_true,Option.some.injEq] at hv
   subst hv
   exact ⟨0,rfl,by simp,v',rfl,fun u=>by simp[ti,vJ,List.modify]⟩
  ·obtain ⟨r,hr,h3,h4⟩:=kl.askK h l (b+1) (i+1) h2
   refine ⟨r,by simp[e,hr],fun hn=>h3 (by simpa [xj,e] using hn),fun v hv=>?_⟩
   obtain ⟨j,rfl,hj,x,hx,hm⟩:=h4 v (by simpa [xj,e] using hv)
   refine ⟨j+1,by rw[show i+1+j=i+(j+1) by omega],by simp; omega,x,by rw[List.getElem?_cons_succ,hx,show b+1+j=b+(j+1) by omega],fun u=>?_⟩
   have:=hm u
   simp only[ti,if_neg e,vJ,List.modify_succ_cons,this]
omit hK in
theorem kl.nowK {kd:TypeDesc} {k:List Int} (hu:∀ x y,Instr.sameNow kd (.agg x) (.agg y)=none):∀ (l:tz) (b i:Nat),l≠[]→Instr.findNow kd (vv k) (vJ b l) i=none
 | [],_,_,h=>absurd rfl h
 | (k',v')::l,b,i,_=>by simp[vJ,Instr.findNow,vv,hu]
theorem kl.findK {k:List Int} (h:k.length=n) (l:tz) (hl:pF n l):∃ r,zn P (Instr.findKey key (vv k) (vQ l).toList)=some r ∧
  (xj k l=none→r=none)∧∀ v,xj k l=some v→∃ j,r=some (j,v)∧j<l.length∧∃ x,(vJ 0 l)[j]?=some ⟨vv k,x,j⟩∧∀ u,(vJ 0 l).modify j (fun e=>{e with key:=vv k,val:=u})=vJ 0 (ti k u l):=by
 obtain ⟨u,hu⟩:=(Pg hK.kd).1
 have hs:∀ x y,Instr.sameNow u (.agg x) (.agg y)=none:=fun x y=>by
  unfold Instr.sameNow
  cases u<;>rfl
 have e0:(vQ l).toList=vJ 0 l:=rfl
 obtain ⟨r,hr,h3,h4⟩:=hK.askK h l 0 0 hl
 by_cases hn:l=[]
 ·subst hn
  refine ⟨none,?_,fun _=>rfl,fun v hv=>by simp[xj] at hv⟩
  simp only[Instr.findKey,zK,yR,hu,e0,vJ,Instr.findNow,Option.bind_some,zR]
 ·refine ⟨r,?_,h3,fun v hv=>?_⟩
  ·simp[Instr.findKey,zK,yR,hu,e0,kl.nowK hs l 0 0 hn,hr]
  ·obtain ⟨j,rfl,hj,x,hx,hm⟩:=h4 v hv
   exact ⟨j,by rw[Nat.zero_add],hj,x,by simpa using hx,hm⟩
variable {el:TypeId} {z:Value}
theorem kl.findMK (hm:P.underlying t=some (.map key el)) (hz:zn P (zeroValue el)=some z) {k:List Int} (h:k.length=n) {l:tz} (hl:pF n l) :
  findM P t (vv k) (vQ l)=some (match xj k l with | some v=>(v,true) | none=>(z,false)):=by
 obtain ⟨r,hr,h3,h4⟩:=hK.findK h l hl
 unfold Am.findM
 rw[hm]
 simp only[hK.chk _ k h,hr]
 cases hf:xj k l with
 | none=>rw[h3 hf]; simp[hz]
 | some v=>obtain ⟨j,rfl,_⟩:=h4 v hf; rfl
theorem kl.setMK (hm:P.underlying t=some (.map key el)) {k:List Int} (h:k.length=n) {l:tz} (hl:pF n l) {v:Value} :
  setM P t (vv k) v (vQ l) l.length=some (vQ (ti k v l),(ti k v l).length):=by
 obtain ⟨r,hr,h3,h4⟩:=hK.findK h l hl
 unfold Am.setM
 rw[hm]
 simp only[hK.chk _ k h,hr]
 cases hf:xj k l with
 | none =>
  rw[h3 hf]
  simp only[Option.some.injEq,Prod.mk.injEq]
  rw[ae hf]
  refine ⟨?_,by simp⟩
  have key:∀ (l:tz) (b:Nat),vJ b (l++[(k,v)])=vJ b l++[⟨vv k,v,b+l.length⟩]:=fun l=>by
   induction l with
   | nil=>intro b; rfl
   | cons x l ih=>intro b; obtain ⟨k1,v1⟩:=x; simp only[List.cons_append,vJ,ih,List.length_cons]; rw[show b+1+l.length=b+(l.length+1) by omega]
  unfold vQ
  rw[key l 0]
  simp
 | some u =>
  obtain ⟨j,rfl,hj,x,hx,hmod⟩:=h4 u hf
  have e1:(vQ l)[j]?=some ⟨vv k,x,j⟩:=by unfold vQ; simpa using hx
  have e2:zn P (Instr.keyThatStays (vv k) (vv k))=some (vv k):=by
   have hs:Instr.sameBits 10000 (vv k) (vv k)=true:=by
    unfold vv
    show Instr.sameBits (9999+1) _ _=true
    unfold Instr.sameBits
    simp only[beq_self_eq_true,Bool.true_and,List.all_eq_true]
    intro p hp
    have hz:∀ (l:List Value),(∀ y∈l,∃ m:Int,y=.int .i64 m)→∀ p∈l.zip l,Instr.sameBits 9999 p.1 p.2=true:=fun l=>by
     induction l with
     | nil=>intro _ p hp; simp at hp
     | cons y l ih =>
      intro hy p hp
      simp only[List.zip_cons_cons,List.mem_cons] at hp
      rcases hp with rfl | hp
      ·obtain ⟨m,rfl⟩:=hy y (by simp)
       show Instr.sameBits (9998+1) _ _=true
       unfold Instr.sameBits
       simp
      ·exact ih (fun y hy'=>hy y (by simp[hy'])) p hp
    exact hz _ (fun y hy=>by obtain ⟨m,_,rfl⟩:=List.mem_map.1 (by simpa using hy); exact ⟨m,rfl⟩) p hp
   unfold Instr.keyThatStays
   rw[if_pos hs]
   exact zR _ _
  simp only[e1,Option.map_some,Option.getD_some,e2,Option.some.injEq,Prod.mk.injEq]
  have e3:(ti k v l).length=l.length:=by
   have:=congrArg List.length (hmod v)
   simp only[List.length_modify,SA] at this
   omega
  refine ⟨?_,e3.symm⟩
  unfold vQ
  rw[← hmod v]
  simp[List.modify_toArray]
end
section
variable {P:Program} {t key n el:Nat} {s:St} {d:Option Nat} {K:AV→Option zd→Prop} {KS:St→Prop} {σ:Nat→Option zd}
theorem bt {z:Value} (hK:kl P t key n) (hm:P.underlying t=some (.map key el)) (hz:zn P (zeroValue el)=some z) {ok:Bool} {j:Nat} {l:tz} {k:List Int} {c:Nat}
  (hs:σ j=some (.map (vQ l) c)) (h:k.length=n) (hl:pF n l) :
  vf P t ok σ [.mp j,.agg (k.map iv)] K=K (if ok=true then .tuple [ofV ((xj k l).getD z),bv (xj k l).isSome] else ofV ((xj k l).getD z)) none:=by
 have e:toV (.agg (k.map iv))=some (vv k):=by simp only[toV,eN,Option.map_some]; rfl
 simp only[vf,hs,e,hK.findMK hm hz h hl]
 cases xj k l<;>rfl
theorem bw (hK:kl P t key n) (hm:P.underlying t=some (.map key el)) {j:Nat} {l:tz} {k:List Int} {x:AV} {v:Value}
  (hs:lk s.sto j=some (.map (vQ l) l.length)) (h:k.length=n) (hl:pF n l) (hx:toV x=some v) :
  vg P t s d KS [.mp j,.agg (k.map iv),x]=(d=none∧KS {s with sto:=pt s.sto j (.map (vQ (ti k v l)) (ti k v l).length)}):=by
 have e:toV (.agg (k.map iv))=some (vv k):=by simp only[toV,eN,Option.map_some]; rfl
 simp only[vg,hs,e,hx,hK.setMK hm h hl]
end
def Q5 (P:Program) (s:St) (d:Option Nat) (K:St→Prop):List AV→Prop
 | .fn (.func f) caps::ys=>xY P f=true∧sP P f (ys++caps) s d K
 | _=>False
@[simp] theorem CV {P:Program} {s:St} {d:Option Nat} {K:St→Prop} {f:FuncId} {caps ys:List AV} :
  Q5 P s d K (.fn (.func f) caps::ys)=(xY P f=true∧sP P f (ys++caps) s d K):=rfl
@[simp] theorem Bj {P:Program} {xs:List Opd} {d:Option Nat} {os:List zg} {s:St} {KS:St→Prop} :
  zh P (⟨d,.callvI,xs,none⟩::os) s KS=Q5 P s d (bR P os KS) (xs.map (ev s)):=propext Iff.rfl
end Go.Am
