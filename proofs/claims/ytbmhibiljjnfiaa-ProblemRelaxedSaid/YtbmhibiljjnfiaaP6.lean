/- What the proof rests on, part 6: Am39 Am41 Am42 Am43 Am44. -/
import Derived.Test.YtbmhibiljjnfiaaP5
set_option maxRecDepth 100000
set_option maxHeartbeats 4000000
namespace Go.Am
open Go.RowKit
section
variable {P:Program} {t:TypeId} {ox oy:Operand} {k k':IntKind} {a b:Int} {K:AV→Option Entry→Prop}
theorem eBin_quo (h:b≠0):eBin P .quo t ox oy [.val (.int k a),.val (.int k b)] K=K (.val (.int k (k.wrap (a.tdiv b)))) none:=by
 simp[eBin,toV,semPure,eqGuard,binOp,Op.intDiv,h,optV,ofV,ofV1,bind,Sem.bind,pure]
theorem eBin_rem (h:b≠0):eBin P .rem t ox oy [.val (.int k a),.val (.int k b)] K=K (.val (.int k (a.tmod b))) none:=by
 simp[eBin,toV,semPure,eqGuard,binOp,Op.intDiv,h,optV,ofV,ofV1,bind,Sem.bind,pure]
def bitI (op:BinOp) (k:IntKind) (a b:Int):Int :=
 match op with
 | .and=>k.wrap (BitVec.ofInt k.bits a &&& BitVec.ofInt k.bits b).toNat
 | .or=>k.wrap (BitVec.ofInt k.bits a ||| BitVec.ofInt k.bits b).toNat
 | .xor=>k.wrap (BitVec.ofInt k.bits a ^^^ BitVec.ofInt k.bits b).toNat
 | _=>k.wrap (BitVec.ofInt k.bits a &&& ~~~BitVec.ofInt k.bits b).toNat
theorem eBin_and:eBin P .and t ox oy [.val (.int k a),.val (.int k b)] K=K (.val (.int k (bitI .and k a b))) none:=by
 simp[eBin,toV,semPure,eqGuard,binOp,Op.intBits,bitI,optV,ofV,ofV1,bind,Sem.bind,pure]
theorem eBin_or:eBin P .or t ox oy [.val (.int k a),.val (.int k b)] K=K (.val (.int k (bitI .or k a b))) none:=by
 simp[eBin,toV,semPure,eqGuard,binOp,Op.intBits,bitI,optV,ofV,ofV1,bind,Sem.bind,pure]
theorem eBin_xor:eBin P .xor t ox oy [.val (.int k a),.val (.int k b)] K=K (.val (.int k (bitI .xor k a b))) none:=by
 simp[eBin,toV,semPure,eqGuard,binOp,Op.intBits,bitI,optV,ofV,ofV1,bind,Sem.bind,pure]
theorem eBin_andNot:eBin P .andNot t ox oy [.val (.int k a),.val (.int k b)] K=K (.val (.int k (bitI .andNot k a b))) none:=by
 simp[eBin,toV,semPure,eqGuard,binOp,Op.intBits,bitI,optV,ofV,ofV1,bind,Sem.bind,pure]
theorem eBin_shl (h:¬ b<0):eBin P .shl t ox oy [.val (.int k a),.val (.int k' b)] K=K (.val (.int k (k.wrap (a*2^(min b.toNat k.bits))))) none:=by
 simp[eBin,toV,semPure,eqGuard,binOp,Op.shift,h,optV,ofV,ofV1,bind,Sem.bind,pure]
theorem eBin_shr (h:¬ b<0):eBin P .shr t ox oy [.val (.int k a),.val (.int k' b)] K=K (.val (.int k (a.fdiv (2^(min b.toNat k.bits))))) none:=by
 simp[eBin,toV,semPure,eqGuard,binOp,Op.shift,h,optV,ofV,ofV1,bind,Sem.bind,pure]
theorem listBeq {x y:ByteArray}:(x.toList == y.toList)=decide (x=y):=by
 have:x.toList=y.toList↔x=y:=by
  constructor
  ·intro h
   have h1:x.data.toList=y.data.toList:=by simpa [ByteArray.toList_eq] using h
   cases x; cases y
   congr 1
   exact Array.ext' h1
  ·rintro rfl; rfl
 by_cases h:x=y
 ·subst h; simp
 ·have:¬ x.toList=y.toList:=fun e=>h (this.1 e)
  simp[h,this]
theorem eBin_seql {x y:ByteArray}:eBin P .eql t ox oy [.val (.string x),.val (.string y)] K=K (bv (decide (x=y))) none:=by
 simp only[eBin,toV,eqGuard,binOp,Op.stringOp,optV,ofV,ofV1,bind,pure,listBeq]
 rfl
theorem eBin_sneq {x y:ByteArray}:eBin P .neq t ox oy [.val (.string x),.val (.string y)] K=K (bv (!decide (x=y))) none:=by
 simp only[eBin,toV,eqGuard,binOp,Op.stringOp,optV,ofV,ofV1,bind,pure,listBeq]
 rfl
end
section
variable {P:Program} {s:St} {KS:St→Prop} {os:List AOper} {d:Nat} {k k':IntKind}
theorem convA_int {ta tb:TypeId} {u:TypeDesc} {n:Int} (ha:P.underlying ta=some u) (hb:P.underlying tb=some (.int k')):convA P ta tb (.val (.int k n))=some (.val (.int k' (k'.wrap n))):=by
 simp only[convA,convert,semPure_bind,pure_underlying,ha,hb,Option.bind_some]
 rfl
theorem unA_neg {n:Int}:unA P .neg (.val (.int k n))=some (.val (.int k (k.wrap (0-n)))):=rfl
theorem unA_xor {n:Int}:unA P .xor (.val (.int k n))=some (.val (.int k (bitI .xor k (if k.signed then -1 else k.max) n))):=rfl
def byteAt (x:ByteArray) (k:Nat):Nat:=(x.data[k]?.getD 0).toNat
def idxA (P:Program) (t:TypeId) (x:AV) (y:AV):Option AV :=
 match toV x,y with
 | some a,.val i=>(semPure P (Instr.index t a i)).map ofV
 | _,_=>none
theorem ops_idxV {t:TypeId} {x y:Opd}:awpOps P (⟨some d,.idxV t,[x,y],none⟩::os) s KS=optC (idxA P t (ev s x) (ev s y)) P os s d KS:=by
 show evalE P (s.base+d) (.idxV t) [ev s x,ev s y] (lk s.sto) (putC P os s (some d) KS)=_
 cases hy:ev s y<;>cases hx:toV (ev s x)<;>simp only[evalE,idxA,hx,optC]
 rename_i v a
 cases semPure P (Instr.index t a v)<;>rfl
theorem idxA_str {t:TypeId} (ht:P.underlying t=some .string) {xs:ByteArray} {ik:IntKind} {i:Int} (h0:0≤i) (h1:i<xs.size):idxA P t (.val (.string xs)) (.val (.int ik i))=some (.val (.int .u8 (byteAt xs i.toNat))):=by
 have h2:i.toNat<xs.size:=by omega
 simp only[idxA,toV,Instr.index,asIntOf,semPure_bind,pure_underlying,ht,semPure_pure,Option.bind_some,if_pos h0]
 rw[getElem?_pos xs i.toNat h2]
 have:byteAt xs i.toNat=(xs[i.toNat]'h2).toNat:=by
  unfold byteAt
  rw[Array.getElem?_eq_getElem (show i.toNat<xs.data.size from h2)]
  rfl
 rw[this]
 rfl
def eSliceV (lo hi mx:Bool) (x:AV) (ys:List AV) (k:AV→Option Entry→Prop):Prop :=
 match x with
 | .val (.string s)=>bnds s.size lo hi mx ys fun l h _=>mx=false∧k (.val (.string (s.extract l h))) none
 | _=>False
theorem ops_sliceV {t:TypeId} {lo hi mx:Bool} {x:Opd} {xs:List Opd}:awpOps P (⟨some d,.sliceV t lo hi mx,x::xs,none⟩::os) s KS=eSliceV lo hi mx (ev s x) (xs.map (ev s)) (putC P os s (some d) KS):=by
 show evalE P (s.base+d) (.sliceV t lo hi mx) (ev s x::xs.map (ev s)) (lk s.sto) (putC P os s (some d) KS)=_
 simp only[evalE,eSliceV]
 cases ev s x<;>try rfl
 rename_i v
 cases v<;>rfl
theorem eSliceV_str {lo hi mx:Bool} {x:ByteArray} {ys:List AV} {k:AV→Option Entry→Prop}:eSliceV lo hi mx (.val (.string x)) ys k=bnds x.size lo hi mx ys fun l h _=>mx=false∧k (.val (.string (x.extract l h))) none:=rfl
theorem ops_callv {xs:List Opd} {x:Opd} {d:Option Nat}:awpOps P (⟨d,.callv,x::xs,none⟩::os) s KS=(match ev s x with | .fn (.func f) caps=>okFn P f=true∧eCall P f (lk s.sto) (xs.map (ev s)++caps) (putC P os s d KS) | .fn (.via _ _ f _) rs=>okFn P f=true∧eCall P f (lk s.sto) (rs++xs.map (ev s)) (putC P os s d KS) | _=>False):=by
 show evalE P (s.base+d.getD 0) .callv (ev s x::xs.map (ev s)) (lk s.sto) (putC P os s d KS)=_
 simp only[evalE]
 cases ev s x<;>try rfl
 rename_i f caps
 cases f<;>rfl
theorem bnds_n {n:Nat} {k:Nat→Nat→Bool→Prop}:bnds n false false false [] k=k 0 n false:=rfl
theorem bnds_l {n:Nat} {ik:IntKind} {l:Int} {k:Nat→Nat→Bool→Prop}:bnds n true false false [.val (.int ik l)] k=(0≤l∧l≤n∧k l.toNat n false):=rfl
theorem bnds_h {n:Nat} {ik:IntKind} {h:Int} {k:Nat→Nat→Bool→Prop}:bnds n false true false [.val (.int ik h)] k=(0≤h∧h≤n∧k 0 h.toNat false):=rfl
theorem bnds_lh {n:Nat} {ik jk:IntKind} {l h:Int} {k:Nat→Nat→Bool→Prop}:bnds n true true false [.val (.int ik l),.val (.int jk h)] k=(0≤l∧l≤h∧h≤n∧k l.toNat h.toNat false):=rfl
theorem bnds_hm {n:Nat} {ik jk:IntKind} {h m:Int} {k:Nat→Nat→Bool→Prop}:bnds n false true true [.val (.int ik h),.val (.int jk m)] k=(0≤h∧h=m∧m≤n∧k 0 h.toNat true):=rfl
theorem bnds_lhm {n:Nat} {ik jk kk:IntKind} {l h m:Int} {k:Nat→Nat→Bool→Prop}:bnds n true true true [.val (.int ik l),.val (.int jk h),.val (.int kk m)] k=(0≤l∧l≤h∧h=m∧m≤n∧k l.toNat h.toNat true):=rfl
theorem eSlice_list {sz sz':Nat} {lo hi mx:Bool} {m:Mode} {rows:List (List AV)} {xs:List AV} {k:AV→Option Entry→Prop} :
  eSlice sz lo hi mx (.list sz' m rows::xs) k=((rows=[]∨sz'=sz)∧bnds rows.length lo hi mx xs fun l h f=>k (.list sz' (if f=true then .full else .plain) ((rows.take h).drop l)) none):=rfl
theorem eSlice_sl {j sz sz' off len:Nat} {lo hi mx:Bool} {xs:List AV} {k:AV→Option Entry→Prop} :
  eSlice sz lo hi mx (.sl j sz' off len::xs) k=(sz'=sz∧bnds len lo hi mx xs fun l h _=>k (.sl j sz (off+l) (h-l)) none):=rfl
theorem eSlice_us {j sz sz' off len:Nat} {lo hi mx:Bool} {xs:List AV} {k:AV→Option Entry→Prop} :
  eSlice sz lo hi mx (.us j sz' off len::xs) k=(sz'=sz∧bnds len lo hi mx xs fun l h _=>k (.us j sz (off+l) (h-l)) none):=rfl
end
theorem lk_pt_same {α:Type} {l:List (Nat × α)} {n:Nat} {x:α}:lk (pt l n x) n=some x:=by rw[lk_pt,if_pos rfl]
theorem pt_pt_same {α:Type} {l:List (Nat × α)} {n:Nat} {x y:α}:pt (pt l n x) n y=pt l n y:=by
 induction l with
 | nil=>simp[pt]
 | cons p l ih =>
  obtain ⟨q,z⟩:=p
  by_cases h:q=n
  ·subst h; simp[pt]
  ·simp[pt,h,ih]
section
variable {k:Nat} {e:Entry}
theorem frz_undef:frz k e .undef=.undef:=rfl
theorem frz_val {v:Value}:frz k e (.val v)=.val v:=rfl
theorem frz_agg {c:List AV}:frz k e (.agg c)=.agg c:=rfl
theorem frz_ro {c:List AV}:frz k e (.ro c)=.ro c:=rfl
theorem frz_iface {t:TypeId} {x:AV}:frz k e (.iface t x)=.iface t x:=rfl
theorem frz_fn {f:Fn} {c:List AV}:frz k e (.fn f c)=.fn f c:=rfl
theorem frz_tuple {c:List AV}:frz k e (.tuple c)=.tuple c:=rfl
theorem frz_list {sz:Nat} {m:Mode} {r:List (List AV)} (h:stm m=m):frz k e (.list sz m r)=.list sz m r:=by
 cases m with
 | plain=>rfl
 | full=>rfl
 | own l=>cases h
theorem frz_plain {sz:Nat} {r:List (List AV)}:frz k e (.list sz .plain r)=.list sz .plain r:=rfl
theorem frz_full {sz:Nat} {r:List (List AV)}:frz k e (.list sz .full r)=.list sz .full r:=rfl
theorem frz_ptr {j off:Nat}:frz k e (.ptr j off)=if j=k then (match e with
   | .var cells=>if (cells.drop off).all rf=true then .ro ((cells.drop off).map strip) else .undef
   | _=>.undef) else .ptr j off:=rfl
theorem frz_eptr {j sz i off:Nat}:frz k e (.eptr j sz i off)=if j=k then .undef else .eptr j sz i off:=rfl
theorem frz_up {j sz i off:Nat}:frz k e (.up j sz i off)=if j=k then .undef else .up j sz i off:=rfl
theorem frz_sl {j sz off len:Nat}:frz k e (.sl j sz off len)=if j=k then (match e with
   | .arr sz' rows=>if sz'=sz∧off+len≤rows.length then .list sz .plain ((rows.drop off).take len) else .undef
   | _=>.undef) else .sl j sz off len:=rfl
theorem frz_us {j sz off len:Nat}:frz k e (.us j sz off len)=if j=k then (match e with
   | .uarr sz' rows=>if sz'=sz∧off+len≤rows.length∧rowsRf ((rows.drop off).take len)=true then .list sz .plain (rowsSt ((rows.drop off).take len)) else .undef
   | _=>.undef) else .us j sz off len:=rfl
theorem freezes_cons {x:Nat} {ks:List Nat} {s:St} {K:St→Prop}:freezes (x::ks) s K=eFreeze (s.base+x) s (fun s'=>freezes ks s' K):=rfl
end
attribute [simp] lk_pt_same pt_pt_same
attribute [simp] frz_undef frz_val frz_agg frz_ro frz_iface frz_fn frz_tuple frz_plain frz_full frz_ptr frz_eptr frz_up frz_sl frz_us freezes_cons
attribute [simp high] refsTo_appV rf_appV strip_appV snap_appV
attribute [simp] eBin_and eBin_or eBin_xor eBin_andNot eBin_seql eBin_sneq convA_int unA_neg unA_xor ops_idxV idxA_str ops_sliceV eSliceV_str ops_callv bnds_n bnds_l bnds_h bnds_lh bnds_hm bnds_lhm eSlice_list eSlice_sl eSlice_us
end Go.Am

namespace Go.Am
open Go.RowKit
def St.impW (s t:St):Prop:=∀ (F:Frame0) (a:Act) (w:World) (I:Nat→Nat→Prop) (β:Blocks) (lam:Owned),Inv F s.look (lk s.sto) I β lam a w→Inv F t.look (lk t.sto) I β lam a w
theorem St.impW.imp {s t:St} (h:St.impW s t):St.imp s t:=fun F a w ⟨I,β,lam,hI⟩=>⟨I,β,lam,h F a w I β lam hI⟩
theorem St.impW.refl {s:St}:St.impW s s:=fun _ _ _ _ _ _ h=>h
theorem St.impW.trans {s t u:St} (h:St.impW s t) (k:St.impW t u):St.impW s u:=fun F a w I β lam g=>k F a w I β lam (h F a w I β lam g)
theorem CallI.pre {P:Program} {f:FuncId} {xs:List AV} {s t:St} {K:AV→St→Prop} (h:St.impW s t) (hc:CallI P f xs t K):CallI P f xs s K:=fun F a w I β lam hI=>hc F a w I β lam (h F a w I β lam hI)
theorem R_nil {I I':Nat→Nat→Prop} {w:World} {β β':Blocks} {lam lam':Owned} {v:Value} (h:R I w β lam (.tuple []) v):R I' w β' lam' (.tuple []) v:=by
 cases h with
 | base h=>cases h with | tuple _ vs hs _=>exact .base (.tuple _ vs hs fun i c hc=>by simp at hc)
 | tuple _ vs hs _ _=>exact .base (.tuple _ vs hs fun i c hc=>by simp at hc)
theorem CallI.post {P:Program} {f:FuncId} {xs:List AV} {s:St} {K K':AV→St→Prop} (hc:CallI P f xs s K) (h:∀ r s',K r s'→(∃ t,St.impW s' t∧K' r t)∨(r=.tuple []∧∃ t,St.imp s' t∧K' r t)):CallI P f xs s K' :=
 fun F a w I β lam hI vs hn hv=>Calls.mono (hc F a w I β lam hI vs hn hv) fun e w' ⟨v,e1,r,s',I',β',lam',hK,hI',hR⟩=>by
  refine ⟨v,e1,r,?_⟩
  rcases h r s' hK with ⟨t,ht,hk⟩ | ⟨rfl,t,ht,hk⟩
  ·exact ⟨t,I',β',lam',hk,ht _ _ _ _ _ _ hI',hR⟩
  ·obtain ⟨I2,β2,lam2,h2⟩:=ht _ _ _ ⟨I',β',lam',hI'⟩
   refine ⟨t,I2,β2,lam2,hk,h2,?_⟩
   exact R_nil hR
def low1 (M:Nat):AV→Bool
 | .ptr k _=>decide (k<M)
 | .eptr k _ _ _=>decide (k<M)
 | .sl k _ _ _=>decide (k<M)
 | .us k _ _ _=>decide (k<M)
 | .up k _ _ _=>decide (k<M)
 | .mp k=>decide (k<M)
 | .list _ (.own l) _=>decide (l<M)
 | .fn _ _=>false
 | .tuple _=>false
 | .lit _ _=>false
 | .raw _=>false
 | _=>true
def low (M:Nat):AV→Bool
 | .fn _ caps=>caps.all (low1 M)
 | .tuple cells=>cells.all (low1 M)
 | x=>low1 M x
end Go.Am

namespace Go.Am
open Go.RowKit
section
variable {I:Nat→Nat→Prop} {w:World} {β:Blocks} {lam:Owned}
theorem R.own_plain {sz:Nat} {m:Mode} {rows:List (List AV)} {v:Value} (h:R I w β lam (.list sz m rows) v):R I w β lam (.list sz .plain rows) v:=by
 cases h with
 | base h =>
  cases h with
  | listNil sz m a cap hm ho=>exact .base (.listNil _ _ _ _ (fun h=>by cases h) (fun _ h=>by cases h))
  | list sz m rows b o cap g hcap hm ho hrow hcell hc=>exact .base (.list _ _ rows b o cap g hcap (fun h=>by cases h) (fun _ h=>by cases h) hrow hcell hc)
 | own sz l' rows a cap h hl'=>exact .base h
theorem R.nil_plain {sz sz':Nat} {m:Mode} {v:Value} (h:R I w β lam (.list sz m []) v):R I w β lam (.list sz' .plain []) v:=by
 cases h with
 | base h=>cases h<;>exact .base (.listNil _ _ _ _ (fun h=>by cases h) (fun _ h=>by cases h))
 | own sz l' rows a cap h hl'=>exact .base (.listNil _ _ _ _ (fun h=>by cases h) (fun _ h=>by cases h))
end
def weak (x y:AV):Prop:=x=y∨(∃ sz m rows,x=.list sz m rows∧y=.list sz .plain rows)∨∃ sz sz' m,x=.list sz m []∧y=.list sz' .plain []
theorem weak.refl {x:AV}:weak x x:=.inl rfl
theorem weak.list {sz:Nat} {m:Am.Mode} {rows:List (List AV)}:weak (.list sz m rows) (.list sz .plain rows):=.inr (.inl ⟨_,_,_,rfl,rfl⟩)
theorem weak.nil {sz sz':Nat} {m:Am.Mode}:weak (.list sz m []) (.list sz' .plain []):=.inr (.inr ⟨_,_,_,rfl,rfl⟩)
theorem weak.R {x y:AV} (h:weak x y) {I:Nat→Nat→Prop} {w:World} {β:Blocks} {lam:Owned} {v:Value} (hx:R I w β lam x v):R I w β lam y v:=by
 rcases h with rfl | ⟨sz,m,rows,rfl,rfl⟩ | ⟨sz,sz',m,rfl,rfl⟩
 ·exact hx
 ·exact hx.own_plain
 ·exact hx.nil_plain
end Go.Am

namespace Go.Am
abbrev Ents:=List (List Int × Value)
def keyV (k:List Int):Value:=.agg (k.map (Value.int .i64)).toArray
def entL:Nat→Ents→List MapEntry
 | _,[]=>[]
 | b,(k,v)::l=>⟨keyV k,v,b⟩::entL (b+1) l
def mapA (l:Ents):Array MapEntry:=(entL 0 l).toArray
def findL (k:List Int):Ents→Option Value
 | []=>none
 | (k',v)::l=>if k=k' then some v else findL k l
def setL (k:List Int) (v:Value):Ents→Ents
 | []=>[(k,v)]
 | (k',v')::l=>if k=k' then (k',v)::l else (k',v')::setL k v l
theorem entL_len:∀ (b:Nat) (l:Ents),(entL b l).length=l.length
 | _,[]=>rfl
 | b,(k,v)::l=>by simp[entL,entL_len (b+1) l]
def keysN (n:Nat) (l:Ents):Prop:=∀ x∈l,x.1.length=n
theorem setL_none {k:List Int} {v:Value}:∀ {l:Ents},findL k l=none→setL k v l=l++[(k,v)]
 | [],_=>rfl
 | (k1,v1)::l,h=>by
  simp only[findL] at h
  split at h
  ·cases h
  ·rename_i hne
   simp only[setL,if_neg hne,List.cons_append,setL_none h]
structure KeyT (P:Program) (t key:TypeId) (n:Nat):Prop where
 kd:kds P Op.maxDepth key=some (List.replicate n (.i .i64))
 ag:agT P key=true
 chk:∀ (b:Bool) (k:List Int),k.length=n→semPure P (Instr.checkKey b 10000 key (keyV k))=some ()
section
variable {P:Program} {t key n:Nat} (hK:KeyT P t key n)
include hK
theorem KeyT.eqK {k k':List Int} (h:k.length=n) (h':k'.length=n):semPure P (Op.equal key (keyV k) (keyV k'))=some (decide (k=k')):=by
 have e:=pure_equalIn Op.maxDepth key _ (k.map (Value.int .i64)) (k'.map (Value.int .i64)) hK.kd (by rw[← h]; exact fitL_iv k) (by rw[← h']; exact fitL_iv k')
 simp only[valOf,hK.ag,if_true] at e
 rw[← eqL_iv]
 exact e
theorem KeyT.askK {k:List Int} (h:k.length=n):∀ (l:Ents) (b i:Nat),keysN n l→∃ r,semPure P (Instr.findAsking key (keyV k) (entL b l) i)=some r ∧
  (findL k l=none→r=none)∧∀ v,findL k l=some v→∃ j,r=some (i+j,v)∧j<l.length∧∃ x,(entL b l)[j]?=some ⟨keyV k,x,b+j⟩∧∀ u,(entL b l).modify j (fun e=>{e with key:=keyV k,val:=u})=entL b (setL k u l)
 | [],b,i,_=>⟨none,by simp[entL,Instr.findAsking,semPure_pure],fun _=>rfl,fun v hv=>by simp[findL] at hv⟩
 | (k',v')::l,b,i,hl=>by
  have h1:k'.length=n:=hl (k',v') (by simp)
  have h2:keysN n l:=fun x hx=>hl x (by simp[hx])
  simp only[entL,Instr.findAsking,semPure_bind,hK.eqK h h1,Option.bind_some]
  by_cases e:k=k'
  ·subst e
   refine ⟨some (i,v'),by simp[semPure_pure],fun hn=>by simp[findL] at hn,fun v hv=>?_⟩
   simp only[findL,if_true,Option.some.injEq] at hv
   subst hv
   exact ⟨0,rfl,by simp,v',rfl,fun u=>by simp[setL,entL,List.modify]⟩
  ·obtain ⟨r,hr,h3,h4⟩:=KeyT.askK h l (b+1) (i+1) h2
   refine ⟨r,by simp[e,hr],fun hn=>h3 (by simpa [findL,e] using hn),fun v hv=>?_⟩
   obtain ⟨j,rfl,hj,x,hx,hm⟩:=h4 v (by simpa [findL,e] using hv)
   refine ⟨j+1,by rw[show i+1+j=i+(j+1) by omega],by simp; omega,x,by rw[List.getElem?_cons_succ,hx,show b+1+j=b+(j+1) by omega],fun u=>?_⟩
   have:=hm u
   simp only[setL,if_neg e,entL,List.modify_succ_cons,this]
omit hK in
theorem KeyT.nowK {kd:TypeDesc} {k:List Int} (hu:∀ x y,Instr.sameNow kd (.agg x) (.agg y)=none):∀ (l:Ents) (b i:Nat),l≠[]→Instr.findNow kd (keyV k) (entL b l) i=none
 | [],_,_,h=>absurd rfl h
 | (k',v')::l,b,i,_=>by simp[entL,Instr.findNow,keyV,hu]
theorem KeyT.findK {k:List Int} (h:k.length=n) (l:Ents) (hl:keysN n l):∃ r,semPure P (Instr.findKey key (keyV k) (mapA l).toList)=some r ∧
  (findL k l=none→r=none)∧∀ v,findL k l=some v→∃ j,r=some (j,v)∧j<l.length∧∃ x,(entL 0 l)[j]?=some ⟨keyV k,x,j⟩∧∀ u,(entL 0 l).modify j (fun e=>{e with key:=keyV k,val:=u})=entL 0 (setL k u l):=by
 obtain ⟨u,hu⟩:=(kds_one hK.kd).1
 have hs:∀ x y,Instr.sameNow u (.agg x) (.agg y)=none:=fun x y=>by
  unfold Instr.sameNow
  cases u<;>rfl
 have e0:(mapA l).toList=entL 0 l:=rfl
 obtain ⟨r,hr,h3,h4⟩:=hK.askK h l 0 0 hl
 by_cases hn:l=[]
 ·subst hn
  refine ⟨none,?_,fun _=>rfl,fun v hv=>by simp[findL] at hv⟩
  simp only[Instr.findKey,semPure_bind,pure_underlying,hu,e0,entL,Instr.findNow,Option.bind_some,semPure_pure]
 ·refine ⟨r,?_,h3,fun v hv=>?_⟩
  ·simp[Instr.findKey,semPure_bind,pure_underlying,hu,e0,KeyT.nowK hs l 0 0 hn,hr]
  ·obtain ⟨j,rfl,hj,x,hx,hm⟩:=h4 v hv
   exact ⟨j,by rw[Nat.zero_add],hj,x,by simpa using hx,hm⟩
variable {el:TypeId} {z:Value}
theorem KeyT.findMK (hm:P.underlying t=some (.map key el)) (hz:semPure P (zeroValue el)=some z) {k:List Int} (h:k.length=n) {l:Ents} (hl:keysN n l) :
  findM P t (keyV k) (mapA l)=some (match findL k l with | some v=>(v,true) | none=>(z,false)):=by
 obtain ⟨r,hr,h3,h4⟩:=hK.findK h l hl
 unfold Am.findM
 rw[hm]
 simp only[hK.chk _ k h,hr]
 cases hf:findL k l with
 | none=>rw[h3 hf]; simp[hz]
 | some v=>obtain ⟨j,rfl,_⟩:=h4 v hf; rfl
theorem KeyT.setMK (hm:P.underlying t=some (.map key el)) {k:List Int} (h:k.length=n) {l:Ents} (hl:keysN n l) {v:Value} :
  setM P t (keyV k) v (mapA l) l.length=some (mapA (setL k v l),(setL k v l).length):=by
 obtain ⟨r,hr,h3,h4⟩:=hK.findK h l hl
 unfold Am.setM
 rw[hm]
 simp only[hK.chk _ k h,hr]
 cases hf:findL k l with
 | none =>
  rw[h3 hf]
  simp only[Option.some.injEq,Prod.mk.injEq]
  rw[setL_none hf]
  refine ⟨?_,by simp⟩
  have key:∀ (l:Ents) (b:Nat),entL b (l++[(k,v)])=entL b l++[⟨keyV k,v,b+l.length⟩]:=fun l=>by
   induction l with
   | nil=>intro b; rfl
   | cons x l ih=>intro b; obtain ⟨k1,v1⟩:=x; simp only[List.cons_append,entL,ih,List.length_cons]; rw[show b+1+l.length=b+(l.length+1) by omega]
  unfold mapA
  rw[key l 0]
  simp
 | some u =>
  obtain ⟨j,rfl,hj,x,hx,hmod⟩:=h4 u hf
  have e1:(mapA l)[j]?=some ⟨keyV k,x,j⟩:=by unfold mapA; simpa using hx
  have e2:semPure P (Instr.keyThatStays (keyV k) (keyV k))=some (keyV k):=by
   have hs:Instr.sameBits 10000 (keyV k) (keyV k)=true:=by
    unfold keyV
    show Instr.sameBits (9999+1) _ _=true
    unfold Instr.sameBits
    simp only[beq_self_eq_true,Bool.true_and,List.all_eq_true]
    intro p hp
    have hz:∀ (l:List Value),(∀ y∈l,∃ m:Int,y=.int .i64 m)→∀ p∈l.zip l,Instr.sameBits 9999 p.1 p.2=true:=fun l=>by
     induction l with
     | nil=>intro _ p hp; simp at hp
     | cons y l ih =>
      intro hy p hp
      simp only[List.zip_cons_cons,List.mem_cons] at hp
      rcases hp with rfl | hp
      ·obtain ⟨m,rfl⟩:=hy y (by simp)
       show Instr.sameBits (9998+1) _ _=true
       unfold Instr.sameBits
       simp
      ·exact ih (fun y hy'=>hy y (by simp[hy'])) p hp
    exact hz _ (fun y hy=>by obtain ⟨m,_,rfl⟩:=List.mem_map.1 (by simpa using hy); exact ⟨m,rfl⟩) p hp
   unfold Instr.keyThatStays
   rw[if_pos hs]
   exact semPure_pure _ _
  simp only[e1,Option.map_some,Option.getD_some,e2,Option.some.injEq,Prod.mk.injEq]
  have e3:(setL k v l).length=l.length:=by
   have:=congrArg List.length (hmod v)
   simp only[List.length_modify,entL_len] at this
   omega
  refine ⟨?_,e3.symm⟩
  unfold mapA
  rw[← hmod v]
  simp[List.modify_toArray]
end
section
variable {P:Program} {t key n el:Nat} {s:St} {d:Option Nat} {K:AV→Option Entry→Prop} {KS:St→Prop} {σ:Nat→Option Entry}
theorem eLookup_ints {z:Value} (hK:KeyT P t key n) (hm:P.underlying t=some (.map key el)) (hz:semPure P (zeroValue el)=some z) {ok:Bool} {j:Nat} {l:Ents} {k:List Int} {c:Nat}
  (hs:σ j=some (.map (mapA l) c)) (h:k.length=n) (hl:keysN n l) :
  eLookup P t ok σ [.mp j,.agg (k.map iv)] K=K (if ok=true then .tuple [ofV ((findL k l).getD z),bv (findL k l).isSome] else ofV ((findL k l).getD z)) none:=by
 have e:toV (.agg (k.map iv))=some (keyV k):=by simp only[toV,toVs_iv,Option.map_some]; rfl
 simp only[eLookup,hs,e,hK.findMK hm hz h hl]
 cases findL k l<;>rfl
theorem eMapset_ints (hK:KeyT P t key n) (hm:P.underlying t=some (.map key el)) {j:Nat} {l:Ents} {k:List Int} {x:AV} {v:Value}
  (hs:lk s.sto j=some (.map (mapA l) l.length)) (h:k.length=n) (hl:keysN n l) (hx:toV x=some v) :
  eMapset P t s d KS [.mp j,.agg (k.map iv),x]=(d=none∧KS {s with sto:=pt s.sto j (.map (mapA (setL k v l)) (setL k v l).length)}):=by
 have e:toV (.agg (k.map iv))=some (keyV k):=by simp only[toV,toVs_iv,Option.map_some]; rfl
 simp only[eMapset,hs,e,hx,hK.setMK hm h hl]
end
end Go.Am

namespace Go.Am
def eCallvI (P:Program) (s:St) (d:Option Nat) (K:St→Prop):List AV→Prop
 | .fn (.func f) caps::ys=>okFn P f=true∧eCallI P f (ys++caps) s d K
 | _=>False
@[simp] theorem eCallvI_fn {P:Program} {s:St} {d:Option Nat} {K:St→Prop} {f:FuncId} {caps ys:List AV} :
  eCallvI P s d K (.fn (.func f) caps::ys)=(okFn P f=true∧eCallI P f (ys++caps) s d K):=rfl
@[simp] theorem ops_callvI {P:Program} {xs:List Opd} {d:Option Nat} {os:List AOper} {s:St} {KS:St→Prop} :
  awpOps P (⟨d,.callvI,xs,none⟩::os) s KS=eCallvI P s d (opsC P os KS) (xs.map (ev s)):=propext Iff.rfl
end Go.Am
