/- What the proof rests on, part 1: Am1 Am2 Am3 Am4 Am5 Am6 Am7 Am8. -/
import Derived.Calls
import Derived.Orders
import Derived.Below
import Derived.Deep.MidRow
import Derived.KernelRfl
import Derived.IntWalk
import Derived.Laws.BytesArg
set_option maxRecDepth 100000
set_option maxHeartbeats 4000000
namespace Go.Am
open Go.RowKit
def zr {α:Type} (P:Program):Sem α→Option α
 | .pure a=>some a
 | .program k=>zr P (k P)
 | _=>none
theorem wJ {α:Type} {P:Program} {s:Sem α} {a:α} (h:zr P s=some a) (w:World):s.run P w=.ok a w:=by
 induction s with
 | pure b=>simp[zr] at h; subst h; rfl
 | program k ih=>simp only[zr] at h; simp only[Sem.run]; exact ih P h
 | _=>simp[zr] at h
inductive Mode where
 | plain
 | full
 | own (l:Nat)
inductive AV where
 | undef
 | val (v:Value)
 | agg (cells:List AV)
 | tuple (vs:List AV)
 | list (sz:Nat) (m:Mode) (rows:List (List AV))
 | ro (cells:List AV)
 | ptr (k off:Nat)
 | eptr (k sz i off:Nat)
 | sl (k sz off len:Nat)
 | fn (f:Fn) (caps:List AV)
 | us (l sz off len:Nat)
 | up (l sz i off:Nat)
 | iface (t:TypeId) (x:AV)
 | mp (k:Nat)
 | lit (sz:Nat) (rows:List (List AV))
 | raw (cells:List AV)
abbrev single (v:Value):Bool:=v.oneCell'
def fF:Fn→Array Value→Value
 | .via _ _ f _,vs=>.func (.func f) vs #[]
 | f,vs=>.func f #[] vs
theorem Rs (f:Fn) (vs:Array Value):single (fF f vs)=true:=by cases f<;>rfl
inductive R0 (I:Nat→Nat→Prop) (w:World):AV→Value→Prop where
 | undef (v:Value):R0 I w .undef v
 | val (v:Value):R0 I w (.val v) v
 | agg (cells:List AV) (vs:Array Value) (hs:vs.size=cells.length) (h1:vs.all (·.oneCell')=true)
   (hc:∀ i c,cells[i]?=some c→R0 I w c (vs.getD i undef)):R0 I w (.agg cells) (.agg vs)
 | tuple (cells:List AV) (vs:Array Value) (hs:vs.size=cells.length)
   (hc:∀ i c,cells[i]?=some c→R0 I w c (vs.getD i undef)):R0 I w (.tuple cells) (.tuple vs)
 | listNil (sz:Nat) (m:Mode) (a:Option Addr) (cap:Nat) (hm:m=.full→cap=0) (ho:∀ l,m≠.own l):R0 I w (.list sz m []) (.slice a 0 cap)
 | list (sz:Nat) (m:Mode) (rows:List (List AV)) (b o cap:Nat) (g:Nat→Nat→Value)
   (hcap:rows.length≤cap) (hm:m=.full→cap=rows.length) (ho:∀ l,m≠.own l)
   (hrow:∀ (i:Nat) (r:List AV),rows[i]?=some r→r.length=sz)
   (hcell:∀ (i:Nat) (r:List AV) j c,rows[i]?=some r→r[j]?=some c→I b (o+i*sz+j)∧w.cell? ⟨b,o+i*sz+j,none⟩=some (g i j)∧single (g i j)=true)
   (hc:∀ (i:Nat) (r:List AV) j c,rows[i]?=some r→r[j]?=some c→R0 I w c (g i j)) :
   R0 I w (.list sz m rows) (.slice (some ⟨b,o,none⟩) rows.length cap)
 | ro (cells:List AV) (b o:Nat) (g:Nat→Value)
   (hcell:∀ j c,cells[j]?=some c→I b (o+j)∧w.cell? ⟨b,o+j,none⟩=some (g j)∧single (g j)=true)
   (hc:∀ j c,cells[j]?=some c→R0 I w c (g j)):R0 I w (.ro cells) (.pointer (some ⟨b,o,none⟩))
 | fn (f:Fn) (caps:List AV) (vs:Array Value) (hs:vs.size=caps.length)
   (hc:∀ i c,caps[i]?=some c→R0 I w c (vs.getD i undef)):R0 I w (.fn f caps) (fF f vs)
 | iface (t:TypeId) (x:AV) (v:Value) (h:R0 I w x v):R0 I w (.iface t x) (.iface t v)
theorem R0.mono {I I':Nat→Nat→Prop} {w w':World} (hI:∀ b o,I b o→I' b o)
  (hw:∀ b o v,I b o→w.cell? ⟨b,o,none⟩=some v→w'.cell? ⟨b,o,none⟩=some v) {x:AV} {v:Value}
  (h:R0 I w x v):R0 I' w' x v:=by
 induction h with
 | undef v=>exact .undef v
 | val v=>exact .val v
 | agg cells vs hs h1 _ ih=>exact .agg cells vs hs h1 ih
 | tuple cells vs hs _ ih=>exact .tuple cells vs hs ih
 | listNil sz m a cap hm ho=>exact .listNil sz m a cap hm ho
 | list sz m rows b o cap g hcap hm ho hrow hcell _ ih =>
  exact .list sz m rows b o cap g hcap hm ho hrow (fun i r j c h1 h2 =>
   ⟨hI _ _ (hcell i r j c h1 h2).1,hw _ _ _ (hcell i r j c h1 h2).1 (hcell i r j c h1 h2).2.1,(hcell i r j c h1 h2).2.2⟩) ih
 | ro cells b o g hcell _ ih =>
  exact .ro cells b o g (fun j c h1=>⟨hI _ _ (hcell j c h1).1,hw _ _ _ (hcell j c h1).1 (hcell j c h1).2.1,(hcell j c h1).2.2⟩) ih
 | fn f caps vs hs _ ih=>exact .fn f caps vs hs ih
 | iface t x v _ ih=>exact .iface t x v ih
abbrev zR:=Nat→Option Nat
abbrev ya:=Nat→Option (Option Addr × Nat × Nat × Nat)
inductive R (I:Nat→Nat→Prop) (w:World) (β:zR) (lam:ya):AV→Value→Prop where
 | base {x:AV} {v:Value} (h:R0 I w x v):R I w β lam x v
 | ptr (k off b:Nat) (h:β k=some b):R I w β lam (.ptr k off) (.pointer (some ⟨b,off,none⟩))
 | eptr (k sz i off b:Nat) (h:β k=some b):R I w β lam (.eptr k sz i off) (.pointer (some ⟨b,i*sz+off,none⟩))
 | sl (k sz off len cap b:Nat) (av:Option Addr) (h:β k=some b) (hc:len≤cap) (ha:len≠0→av=some ⟨b,off*sz,none⟩):R I w β lam (.sl k sz off len) (.slice av len cap)
 | own (sz l:Nat) (rows:List (List AV)) (a:Option Addr) (cap:Nat) (h:R0 I w (.list sz .plain rows) (.slice a rows.length cap))
   (hl:lam l=some (a,rows.length,cap,sz)):R I w β lam (.list sz (.own l) rows) (.slice a rows.length cap)
 | fn (f:Fn) (caps:List AV) (vs:Array Value) (hs:vs.size=caps.length) (hn:∀ sz l rows,AV.list sz (.own l) rows ∉ caps)
   (hc:∀ i c,caps[i]?=some c→R I w β lam c (vs.getD i undef)):R I w β lam (.fn f caps) (fF f vs)
 | us (l sz off len cap cp:Nat) (a av:Option Addr) (h:lam l=some (a,0,cap,sz)) (hc:len≤cp) (ho:off+cp≤cap)
   (ha:cp≠0→∃ b o,a=some ⟨b,o,none⟩∧av=some ⟨b,o+off*sz,none⟩):R I w β lam (.us l sz off len) (.slice av len cp)
 | up (l sz i off cap b o:Nat) (h:lam l=some (some ⟨b,o,none⟩,0,cap,sz)):R I w β lam (.up l sz i off) (.pointer (some ⟨b,o+i*sz+off,none⟩))
 | tuple (cells:List AV) (vs:Array Value) (hs:vs.size=cells.length) (hn:∀ sz l rows,AV.list sz (.own l) rows ∉ cells)
   (hc:∀ i c,cells[i]?=some c→R I w β lam c (vs.getD i undef)):R I w β lam (.tuple cells) (.tuple vs)
 | mp (k b:Nat) (h:β k=some b):R I w β lam (.mp k) (.map (some b))
 | litNil (sz:Nat) (a:Option Addr):R I w β lam (.lit sz []) (.slice a 0 0)
 | lit (sz:Nat) (rows:List (List AV)) (b o:Nat) (g:Nat→Nat→Value)
   (hrow:∀ (i:Nat) (r:List AV),rows[i]?=some r→r.length=sz)
   (hcell:∀ (i:Nat) (r:List AV) j c,rows[i]?=some r→r[j]?=some c→I b (o+i*sz+j)∧w.cell? ⟨b,o+i*sz+j,none⟩=some (g i j)∧single (g i j)=true)
   (hc:∀ (i:Nat) (r:List AV) j c,rows[i]?=some r→r[j]?=some c→R I w β lam c (g i j)) :
   R I w β lam (.lit sz rows) (.slice (some ⟨b,o,none⟩) rows.length rows.length)
 | raw (cells:List AV) (vs:Array Value) (hs:vs.size=cells.length) (h1:vs.all (·.oneCell')=true)
   (hc:∀ i c,cells[i]?=some c→R I w β lam c (vs.getD i undef)):R I w β lam (.raw cells) (.agg vs)
theorem R.mono {I I':Nat→Nat→Prop} {w w':World} {β β':zR} {lam lam':ya} (hI:∀ b o,I b o→I' b o)
  (hw:∀ b o v,I b o→w.cell? ⟨b,o,none⟩=some v→w'.cell? ⟨b,o,none⟩=some v)
  (hβ:∀ k b,β k=some b→β' k=some b) (hl:∀ l q,lam l=some q→lam' l=some q) {x:AV} {v:Value}
  (h:R I w β lam x v):R I' w' β' lam' x v:=by
 induction h with
 | base h=>exact .base (h.mono hI hw)
 | ptr k off b h=>exact .ptr k off b (hβ _ _ h)
 | eptr k sz i off b h=>exact .eptr k sz i off b (hβ _ _ h)
 | sl k sz off len cap b av h hc ha=>exact .sl k sz off len cap b av (hβ _ _ h) hc ha
 | own sz l rows a cap h hl'=>exact .own sz l rows a cap (h.mono hI hw) (hl _ _ hl')
 | fn f caps vs hs hn _ ih=>exact .fn f caps vs hs hn ih
 | us l sz off len cap cp a av h hc ho ha=>exact .us l sz off len cap cp a av (hl _ _ h) hc ho ha
 | up l sz i off cap b o h=>exact .up l sz i off cap b o (hl _ _ h)
 | tuple cells vs hs hn _ ih=>exact .tuple cells vs hs hn ih
 | mp k b h=>exact .mp k b (hβ _ _ h)
 | litNil sz a=>exact .litNil sz a
 | lit sz rows b o g hrow hcell _ ih =>
  exact .lit sz rows b o g hrow (fun i r j c h1 h2 =>
   ⟨hI _ _ (hcell i r j c h1 h2).1,hw _ _ _ (hcell i r j c h1 h2).1 (hcell i r j c h1 h2).2.1,(hcell i r j c h1 h2).2.2⟩) ih
 | raw cells vs hs h1 _ ih=>exact .raw cells vs hs h1 ih
inductive zb where
 | var (cells:List AV)
 | arr (sz:Nat) (rows:List (List AV))
 | uarr (sz:Nat) (rows:List (List AV))
 | map (es:Array MapEntry) (clock:Nat)
def zb.isU:zb→Bool
 | .uarr _ _=>true
 | _=>false
def RE (I:Nat→Nat→Prop) (w:World) (β:zR) (lam:ya) (b:Nat):zb→Prop
 | .var cells=>∀ j c,cells[j]?=some c→∃ v,w.cell? ⟨b,j,none⟩=some v∧w.frozen? ⟨b,j,none⟩=false∧single v=true∧R I w β lam c v
 | .arr sz rows=>(∀ (i:Nat) (r:List AV),rows[i]?=some r→r.length=sz)∧∀ (i:Nat) (r:List AV) j c,rows[i]?=some r→r[j]?=some c →
   ∃ v,w.cell? ⟨b,i*sz+j,none⟩=some v∧w.frozen? ⟨b,i*sz+j,none⟩=false∧single v=true∧R0 I w c v
 | .uarr _ _=>False
 | .map es clock=>w.heap[b]?=some (.map es clock)
def RU (I:Nat→Nat→Prop) (w:World) (β:zR) (lam:ya) (l sz:Nat) (rows:List (List AV)):Prop :=
 ∃ a cap,lam l=some (a,0,cap,sz)∧rows.length≤cap∧(∀ (i:Nat) (r:List AV),rows[i]?=some r→r.length=sz) ∧
  (rows≠[]→∃ b o,a=some ⟨b,o,none⟩∧∀ (i:Nat) (r:List AV) j c,rows[i]?=some r→r[j]?=some c →
   ∃ v,w.cell? ⟨b,o+i*sz+j,none⟩=some v∧single v=true∧R I w β lam c v)
theorem RE.mono {I I':Nat→Nat→Prop} {w w':World} {β β':zR} {lam lam':ya} (hI:∀ b o,I b o→I' b o)
  (hw:∀ b o v,I b o→w.cell? ⟨b,o,none⟩=some v→w'.cell? ⟨b,o,none⟩=some v)
  (hβ:∀ k b,β k=some b→β' k=some b) (hl:∀ l q,lam l=some q→lam' l=some q) {b:Nat}
  (hb:w'.heap[b]?=w.heap[b]?) {e:zb} (h:RE I w β lam b e):RE I' w' β' lam' b e:=by
 have hc:∀ o,w'.cell? ⟨b,o,none⟩=w.cell? ⟨b,o,none⟩:=fun o=>by simp only[World.cell?,hb]
 have hf:∀ o,w'.frozen? ⟨b,o,none⟩=w.frozen? ⟨b,o,none⟩:=fun o=>by simp only[World.frozen?,hb]
 cases e with
 | var cells =>
  intro j c hj
  obtain ⟨v,h1,h2,h3,h4⟩:=h j c hj
  exact ⟨v,by rw[hc]; exact h1,by rw[hf]; exact h2,h3,h4.mono hI hw hβ hl⟩
 | arr sz rows =>
  refine ⟨h.1,fun i r j c hi hj=>?_⟩
  obtain ⟨v,h1,h2,h3,h4⟩:=h.2 i r j c hi hj
  exact ⟨v,by rw[hc]; exact h1,by rw[hf]; exact h2,h3,h4.mono hI hw⟩
 | uarr sz rows=>exact h
 | map es clock=>exact hb.trans h
theorem RU.mono {I I':Nat→Nat→Prop} {w w':World} {β β':zR} {lam lam':ya} (hI:∀ b o,I b o→I' b o)
  (hw:∀ b o v,I b o→w.cell? ⟨b,o,none⟩=some v→w'.cell? ⟨b,o,none⟩=some v)
  (hβ:∀ k b,β k=some b→β' k=some b) (hl:∀ l q,lam l=some q→lam' l=some q) {l sz:Nat} {rows:List (List AV)}
  (hb:∀ b o cap q v,lam l=some (some ⟨b,o,none⟩,0,cap,sz)→q<cap*sz→w.cell? ⟨b,o+q,none⟩=some v→w'.cell? ⟨b,o+q,none⟩=some v) (h:RU I w β lam l sz rows):RU I' w' β' lam' l sz rows:=by
 obtain ⟨a,cap,h1,h2,h3,h4⟩:=h
 refine ⟨a,cap,hl _ _ h1,h2,h3,fun hne=>?_⟩
 obtain ⟨b,o,rfl,h5⟩:=h4 hne
 refine ⟨b,o,rfl,fun i r j c hi hj=>?_⟩
 obtain ⟨v,g1,g2,g3⟩:=h5 i r j c hi hj
 have hil:i<rows.length:=(List.getElem?_eq_some_iff.1 hi).1
 have hjl:j<sz:=by have:=(List.getElem?_eq_some_iff.1 hj).1; have:=h3 i r hi; omega
 have hm:(i+1)*sz≤cap*sz:=Nat.mul_le_mul_right _ (by omega)
 rw[Nat.add_mul] at hm
 refine ⟨v,?_,g2,g3.mono hI hw hβ hl⟩
 rw[Nat.add_assoc] at g1 ⊢
 exact hb b o cap _ v h1 (by omega) g1
structure z9 where
 w0:World
 I0:Nat→Nat→Prop
 N:Nat
 outs:List (Array Value):=[]
def z9.val (F:z9) (a:Act):Nat × Nat→Option Value
 | (0,t)=>a.tmps[t]?
 | (d+1,t)=>(F.outs[d]?).bind fun f=>f[t]?
structure Inv (F:z9) (e:Nat × Nat→Option AV) (σ:Nat→Option zb) (I:Nat→Nat→Prop) (β:zR) (lam:ya) (a:Act) (w:World):Prop where
 defers:a.defers=[]
 size:a.tmps.size=F.N
 below:Below F.w0.heap.size F.w0 w
 env:∀ t x,e t=some x→∃ v,F.val a t=some v∧R I w β lam x v
 sto:∀ k en,σ k=some en→en.isU=false→∃ b,β k=some b∧RE I w β lam b en
 usto:∀ l sz rows,σ l=some (.uarr sz rows)→RU I w β lam l sz rows
 bdom:∀ k b,β k=some b→∃ en,σ k=some en∧en.isU=false
 binj:∀ k k' b,β k=some b→β k'=some b→k=k'
 bnew:∀ k b,β k=some b→F.w0.heap.size≤b∧b<w.heap.size∧∀ o,¬ I b o
 Isub:∀ b o,I b o→b<w.heap.size
 I0sub:∀ b o,F.I0 b o→I b o
 Inew:∀ b o,I b o→F.I0 b o∨F.w0.heap.size≤b
 spare:∀ l a len cap sz,lam l=some (a,len,cap,sz)→∀ c,len*sz≤c→c<cap*sz →
  ∃ b o,a=some ⟨b,o,none⟩∧F.w0.heap.size≤b∧(∃ v,w.cell? ⟨b,o+c,none⟩=some v)∧w.frozen? ⟨b,o+c,none⟩=false∧¬ I b (o+c)∧∀ k,β k≠some b
 ldis:∀ l l' b o o' len len' cap cap' sz sz',l≠l'→lam l=some (some ⟨b,o,none⟩,len,cap,sz)→lam l'=some (some ⟨b,o',none⟩,len',cap',sz') →
  len*sz<cap*sz→len'*sz'<cap'*sz'→False
def lk {α:Type}:List (Nat × α)→Nat→Option α
 | [],_=>none
 | (m,x)::l,n=>if m=n then some x else lk l n
def pt {α:Type}:List (Nat × α)→Nat→α→List (Nat × α)
 | [],n,x=>[(n,x)]
 | (m,y)::l,n,x=>if m=n then (n,x)::l else (m,y)::pt l n x
def del {α:Type} (D:List Nat):List (Nat × α)→List (Nat × α)
 | []=>[]
 | (m,y)::l=>if D.elem m=true then del D l else (m,y)::del D l
theorem xS {α:Type} (l:List (Nat × α)) (n m:Nat) (x:α):lk (pt l n x) m=if n=m then some x else lk l m:=by
 induction l with
 | nil=>simp[pt,lk]
 | cons p l ih =>
  obtain ⟨q,y⟩:=p
  simp only[pt]
  by_cases h:q=n
  ·subst h; by_cases h2:q=m<;>simp[lk,h2]
  ·simp only[h,if_false,lk,ih]
   by_cases h2:q=m
   ·subst h2; simp[Ne.symm h]
   ·simp[h2]
theorem tv {α:Type} (D:List Nat) (l:List (Nat × α)) (m:Nat):lk (del D l) m=if D.elem m=true then none else lk l m:=by
 induction l with
 | nil=>simp[del,lk]
 | cons p l ih =>
  obtain ⟨q,y⟩:=p
  simp only[del]
  by_cases h:D.elem q=true
  ·simp only[h,if_true,ih,lk]
   by_cases h2:q=m
   ·subst h2; rw[if_pos h,if_pos h]
   ·rw[if_neg h2]
  ·simp only[h,if_false,Bool.false_eq_true,lk,ih]
   by_cases h2:q=m
   ·subst h2; simp only[if_true]; rw[if_neg h]
   ·rw[if_neg h2,if_neg h2]
theorem YP {α:Type} {l:List (Nat × α)} {n:Nat} {x:α} (h:lk l n=some x):(n,x)∈l:=by
 induction l with
 | nil=>simp[lk] at h
 | cons p l ih =>
  obtain ⟨q,y⟩:=p
  simp only[lk] at h
  by_cases h2:q=n
  ·subst h2; simp at h; subst h; simp
  ·simp only[h2,if_false] at h; exact List.mem_cons_of_mem _ (ih h)
inductive Opd where
 | t (n:Nat)
 | c (x:AV)
def xc:Value→AV
 | .slice none 0 0=>.list 0 .full []
 | v=>.val v
def ofV:Value→AV
 | .agg cs=>if cs.all (·.oneCell')=true then .agg (cs.toList.map xc) else .undef
 | .tuple vs=>.val (.tuple vs)
 | v=>xc v
def sX:List AV→Option (List Value)
 | []=>some []
 | .val v::l=>(sX l).map (v::·)
 | _=>none
def toV:AV→Option Value
 | .val v=>some v
 | .agg cells=>(sX cells).map fun l=>.agg l.toArray
 | _=>none
def zm:Operand→Opd
 | .tmp t=>.t t
 | .const v=>.c (ofV v)
 | .global g=>.c (.val (.pointer (some ⟨g,0,none⟩)))
 | .func f=>.c (.fn (.func f) [])
def strip:AV→AV
 | .list sz (.own _) rows=>.list sz .plain rows
 | x=>x
def rf:AV→Bool
 | .ptr _ _=>false
 | .eptr _ _ _ _=>false
 | .sl _ _ _ _=>false
 | .fn _ _=>false
 | .us _ _ _ _=>false
 | .up _ _ _ _=>false
 | .tuple _=>false
 | .mp _=>false
 | .lit _ _=>false
 | .raw _=>false
 | _=>true
def nJ:AV→Bool
 | .ptr _ _=>true
 | .eptr _ _ _ _=>true
 | .sl _ _ _ _=>true
 | .us _ _ _ _=>true
 | .up _ _ _ _=>true
 | .mp _=>true
 | .lit _ _=>true
 | .raw _=>true
 | _=>false
def sH:AV→Bool
 | .fn _ caps=>caps.any nJ
 | x=>nJ x
def M4:AV→Bool
 | .val _=>true
 | _=>false
def pf1:AV→Bool
 | .val _=>true
 | .agg cells=>cells.all M4
 | _=>false
def pf:AV→Bool
 | .tuple vs=>vs.all pf1
 | x=>pf1 x
def xB (rows:List (List AV)):Bool:=rows.all fun r=>r.all rf
def zQ (rows:List (List AV)):List (List AV):=rows.map fun r=>r.map strip
def cellsOf:AV→Option (List AV)
 | .agg cs=>some cs
 | .undef=>none
 | .tuple _=>none
 | .val v=>if single v=true then some [.val v] else none
 | .lit sz rows=>if xB rows=true then some [.list sz .full (zQ rows)] else none
 | .raw cs=>some cs
 | x=>some [x]
def xK (σ:Nat→Option zb):AV→Option AV
 | .ptr k off =>
  match σ k with
  | some (.var cells)=>if (cells.drop off).all rf=true then some (.ro ((cells.drop off).map strip)) else none
  | _=>none
 | .eptr k sz i off =>
  match σ k with
  | some (.arr sz' rows)=>if sz'=sz then (rows[i]?).map fun r=>.ro (r.drop off) else none
  | _=>none
 | .sl k sz off len =>
  match σ k with
  | some (.arr sz' rows)=>if sz'=sz∧off+len≤rows.length then some (.list sz .plain ((rows.drop off).take len)) else none
  | _=>none
 | .us l sz off len =>
  match σ l with
  | some (.uarr sz' rows)=>if sz'=sz∧off+len≤rows.length∧xB ((rows.drop off).take len)=true then some (.list sz .plain (zQ ((rows.drop off).take len))) else none
  | _=>none
 | .up l sz i off =>
  match σ l with
  | some (.uarr sz' rows)=>match rows[i]? with
   | some r=>if sz'=sz∧(r.drop off).all rf=true then some (.ro ((r.drop off).map strip)) else none
   | none=>none
  | _=>none
 | .fn _ _=>none
 | .tuple _=>none
 | .mp _=>none
 | .lit sz rows=>if xB rows=true then some (.list sz .full (zQ rows)) else none
 | .raw _=>none
 | x=>some (strip x)
def yD {α β:Type} (f:α→Option β):List α→Option (List β)
 | []=>some []
 | x::l=>match f x with
  | some y=>(yD f l).map (y::·)
  | none=>none
def lg (σ:Nat→Option zb):AV→Option AV
 | .ptr k off =>
  match σ k with
  | some (.var cells)=>if (cells.drop off).all rf=true then some (.ro ((cells.drop off).map strip)) else (yD (xK σ) (cells.drop off)).map .ro
  | _=>none
 | x=>xK σ x
def wu (σ:Nat→Option zb):AV→Option AV
 | .fn f caps=>(yD (lg σ) caps).map (.fn f)
 | .tuple cells=>if cells.all rf=true then some (.tuple (cells.map strip)) else none
 | x=>lg σ x
def zc (P:Program) (f:FuncId) (args:List AV) (r:AV):Prop :=
 ∀ (I:Nat→Nat→Prop) (vs:Array Value) (w:World),(∀ b o,I b o→b<w.heap.size)→vs.size=args.length →
  (∀ i x,args[i]?=some x→R0 I w x (vs.getD i undef)) →
  Calls P f vs w fun e w'=>∃ v,e=.returned v∧Below w.heap.size w w'∧R0 (fun b o=>(I b o∨w.heap.size≤b)∧b<w'.heap.size) w' r v
structure St where
 env:List (Nat × AV)
 sto:List (Nat × zb)
 out:List (List (Nat × AV)):=[]
 base:Nat:=0
def St.look (s:St):Nat × Nat→Option AV
 | (0,t)=>lk s.env t
 | (d+1,t)=>(s.out[d]?).bind fun f=>lk f t
def afN (P:Program) (f:FuncId) (args:List AV) (s:St) (K:AV→St→Prop):Prop :=
 ∀ (F:z9) (a:Act) (w:World) (I:Nat→Nat→Prop) (β:zR) (lam:ya),Inv F s.look (lk s.sto) I β lam a w→∀ vs:Array Value,vs.size=args.length →
  (∀ i x,args[i]?=some x→R I w β lam x (vs.getD i undef)) →
  Calls P f vs w fun e w'=>∃ v,e=.returned v∧∃ r s' I' β' lam',K r s'∧Inv F s'.look (lk s'.sto) I' β' lam' a w'∧R I' w' β' lam' r v
inductive AOp where
 | mov
 | pick
 | alloc (cells:List AV)
 | box
 | build (zero:List AV) (places:List (Nat × Nat))
 | mkslice (sz n:Nat) (zero:List AV) (places:List Nat)
 | load (n:Option Nat)
 | nilChk
 | bin (op:BinOp) (t:TypeId) (x y:Operand)
 | un (op:UnOp)
 | conv (s d:TypeId)
 | idxV (t:TypeId)
 | sliceV (t:TypeId) (lo hi mx:Bool)
 | mm (b:Builtin) (ts:Array TypeId) (t:TypeId)
 | field (off:Nat) (n:Option Nat)
 | faddr (off:Nat)
 | iaddrA (len esz:Nat)
 | iaddrS (sz:Nat)
 | idxA (len esz:Nat) (n:Option Nat)
 | slice (sz:Nat) (lo hi mx:Bool)
 | mk (sz bytes:Nat) (zero:List AV)
 | len (str:Bool)
 | extract (i:Nat)
 | mkfn (f:FuncId)
 | mkb (f:FuncId)
 | mkif (t:TypeId)
 | callm (name:String)
 | call (f:FuncId)
 | callv
 | store (n:Nat)
 | append (sz bytes:Nat)
 | copy (sz:Nat)
 | appendU (sz bytes:Nat)
 | mksliceU (sz n:Nat) (zero:List AV) (places:List Nat)
 | callI (f:FuncId)
 | callvI
 | callM (f:FuncId) (ds:List Nat)
 | chkG (op:AOp) (g:Nat) (b:Bool)
 | nilS (neg:Bool)
 | mksliceL (sz n:Nat) (zero:List AV) (places:List Nat)
 | mkmap
 | lookup (t:TypeId) (ok:Bool)
 | mapset (t:TypeId)
 | chk (op:AOp)
 | start (ds:List Nat)
structure zi where
 dst:Option Nat
 op:AOp
 xs:List Opd
 guard:Option (Nat × Bool)
def yM (P:Program) (f:FuncId):Bool :=
 match P.funcs[f]? with
 | none=>false
 | some fn => fn.body.isSome && !(fn.name == "runtime.NumGoroutine")
def vS (cells:List AV) (off:Nat):Option Nat→Option AV
 | none=>cells[off]?
 | some n=>if off+n≤cells.length then some (.agg ((cells.drop off).take n)) else none
def splice (cells:List AV) (off:Nat) (cs:List AV):List AV:=cells.take off++cs++cells.drop (off+cs.length)
def uj (zero:List AV):List (Nat × Nat)→List AV→Option (List AV)
 | [],[]=>some zero
 | (off,n)::ps,x::xs =>
  match cellsOf x with
  | some cs=>if cs.length=n∧off+n≤zero.length∧cs.all rf=true then uj (splice zero off (cs.map strip)) ps xs else none
  | none=>none
 | _,_=>none
def vT (n:Nat) (rows:List (List AV)):List Nat→List AV→Option (List (List AV))
 | [],[]=>some rows
 | i::ps,x::xs =>
  match cellsOf x with
  | some cs=>if cs.length=n∧i<rows.length∧cs.all rf=true then vT n (rows.set i (cs.map strip)) ps xs else none
  | none=>none
 | _,_=>none
def v3 (zero:List AV):List (Nat × Nat)→List AV→Option (List AV)
 | [],[]=>some zero
 | (off,n)::ps,x::xs =>
  match cellsOf x with
  | some cs=>if cs.length=n∧off+n≤zero.length then v3 (splice zero off cs) ps xs else none
  | none=>none
 | _,_=>none
def orR:Option (List AV)→Option (List AV)→Option AV
 | some cs,_=>some (.agg cs)
 | none,some cs=>some (.raw cs)
 | none,none=>none
def xM (n:Nat) (rows:List (List AV)):List Nat→List AV→Option (List (List AV))
 | [],[]=>some rows
 | i::ps,x::xs =>
  match cellsOf x with
  | some cs=>if cs.length=n∧i<rows.length then xM n (rows.set i cs) ps xs else none
  | none=>none
 | _,_=>none
def zP (cells:List AV) (off:Nat):Option Nat→Option AV
 | none=>cells[off]?
 | some n=>if off+n≤cells.length∧((cells.drop off).take n).all rf=true then some (.agg (((cells.drop off).take n).map strip))
  else if off+n≤cells.length then some (.raw ((cells.drop off).take n)) else none
def wF (n:Nat) (lo hi mx:Bool) (xs:List AV) (k:Nat→Nat→Bool→Prop):Prop :=
 match lo,hi,mx,xs with
 | false,false,false,[]=>k 0 n false
 | true,false,false,[.val (.int _ l)]=>0≤l∧l≤n∧k l.toNat n false
 | false,true,false,[.val (.int _ h)]=>0≤h∧h≤n∧k 0 h.toNat false
 | true,true,false,[.val (.int _ l),.val (.int _ h)]=>0≤l∧l≤h∧h≤n∧k l.toNat h.toNat false
 | false,true,true,[.val (.int _ h),.val (.int _ m)]=>0≤h∧h=m∧m≤n∧k 0 h.toNat true
 | true,true,true,[.val (.int _ l),.val (.int _ h),.val (.int _ m)]=>0≤l∧l≤h∧h=m∧m≤n∧k l.toNat h.toNat true
 | _,_,_,_=>False
def yX:Option Value→(AV→Option zb→Prop)→Prop
 | some v,k=>k (ofV v) none
 | none,_=>False
def xI:Option AV→(AV→Option zb→Prop)→Prop
 | some v,k=>k v none
 | none,_=>False
def M3:AV→Bool
 | .ptr _ _=>true
 | .eptr _ _ _ _=>true
 | .up _ _ _ _=>true
 | .ro _=>true
 | _=>false
def YJ (P:Program) (t:TypeId):Bool :=
 match P.underlying t with
 | some (.pointer _)=>true
 | _=>false
def Gf (P:Program) (op:BinOp) (t:TypeId) (x y:AV):Option AV :=
 match op,y with
 | .eql,.val (.pointer none)=>if M3 x=true∧YJ P t=true then some (.val (.bool false)) else none
 | .neq,.val (.pointer none)=>if M3 x=true∧YJ P t=true then some (.val (.bool true)) else none
 | _,_=>none
def yi (P:Program) (op:BinOp) (t:TypeId) (ox oy:Operand):List AV→(AV→Option zb→Prop)→Prop
 | [x,y],k =>
  match toV x,toV y with
  | some a,some b=>yX (zr P (do eqGuard op t ox oy a b; binOp op t a b)) k
  | _,_=>xI (Gf P op t x y) k
 | _,_=>False
def n6 (σ:Nat→Option zb) (n:Option Nat):List AV→(AV→Option zb→Prop)→Prop
 | [.ptr j off],k =>
  match σ j with
  | some (.var cells)=>xI (zP cells off n) k
  | _=>False
 | [.eptr j sz i off],k =>
  match σ j with
  | some (.arr sz' rows)=>sz'=sz∧(match rows[i]? with
   | some r=>xI (zP r off n) k
   | none=>False)
  | _=>False
 | [.ro cells],k=>xI (zP cells 0 n) k
 | [.up l sz i off],k =>
  match σ l with
  | some (.uarr sz' rows)=>sz'=sz∧(match rows[i]? with
   | some r=>xI (zP r off n) k
   | none=>False)
  | _=>False
 | _,_=>False
def qK (len esz:Nat):List AV→(AV→Option zb→Prop)→Prop
 | [.ptr j off,.val (.int _ i)],k=>0≤i∧i<len∧k (.ptr j (off+i.toNat * esz)) none
 | [.eptr j sz r off,.val (.int _ i)],k=>0≤i∧i<len∧k (.eptr j sz r (off+i.toNat * esz)) none
 | [.ro cells,.val (.int _ i)],k=>0≤i∧i<len∧k (.ro (cells.drop (i.toNat * esz))) none
 | [.up l sz r off,.val (.int _ i)],k=>0≤i∧i<len∧k (.up l sz r (off+i.toNat * esz)) none
 | _,_=>False
def qL (sz:Nat):List AV→(AV→Option zb→Prop)→Prop
 | [.list sz' _ rows,.val (.int _ i)],k=>0≤i∧i<rows.length∧sz'=sz∧(match rows[i.toNat]? with
   | some r=>k (.ro r) none
   | none=>False)
 | [.sl j sz' off len,.val (.int _ i)],k=>0≤i∧i<len∧sz'=sz∧k (.eptr j sz (off+i.toNat) 0) none
 | [.us l sz' off len,.val (.int _ i)],k=>0≤i∧i<len∧sz'=sz∧k (.up l sz (off+i.toNat) 0) none
 | [.lit sz' rows,.val (.int _ i)],k=>xB rows=true∧0≤i∧i<(zQ rows).length∧sz'=sz∧(match (zQ rows)[i.toNat]? with
   | some r=>k (.ro r) none
   | none=>False)
 | _,_=>False
def rP (sz:Nat) (lo hi mx:Bool):List AV→(AV→Option zb→Prop)→Prop
 | .list sz' _ rows::xs,k=>(rows=[]∨sz'=sz)∧wF rows.length lo hi mx xs fun l h f=>k (.list sz' (if f=true then .full else .plain) ((rows.take h).drop l)) none
 | .sl j sz' off len::xs,k=>sz'=sz∧wF len lo hi mx xs fun l h _=>k (.sl j sz (off+l) (h-l)) none
 | .us j sz' off len::xs,k=>sz'=sz∧wF len lo hi mx xs fun l h _=>k (.us j sz (off+l) (h-l)) none
 | _,_=>False
def eMk (sz bytes:Nat) (zero:List AV) (d:Nat) (σ:Nat→Option zb):List AV→(AV→Option zb→Prop)→Prop
 | [.val (.int _ l),.val (.int _ c)],k=>l=c∧0≤l∧l*bytes≤140737488355328∧l≤9223372036854775807∧zero.length=sz∧0<sz∧σ d=none∧k (.sl d sz 0 l.toNat) (some (.arr sz (List.replicate l.toNat zero)))
 | _,_=>False
def nZ (str:Bool) (k:AV→Option zb→Prop):AV→Prop
 | .list _ _ rows=>str=false∧k (.val (.int .i64 rows.length)) none
 | .sl _ _ _ len=>str=false∧k (.val (.int .i64 len)) none
 | .us _ _ _ len=>str=false∧k (.val (.int .i64 len)) none
 | .lit _ rows=>str=false∧k (.val (.int .i64 rows.length)) none
 | .val (.string s)=>str=true∧k (.val (.int .i64 s.size)) none
 | _=>False
def nh (str:Bool) (xs:List AV) (k:AV→Option zb→Prop):Prop :=
 match xs with
 | [x]=>nZ str k x
 | _=>False
def Si (P:Program) (t:TypeId) (kv:Value) (es:Array MapEntry):Option (Value × Bool) :=
 match P.underlying t with
 | some (.map key elem) =>
  match zr P (Instr.checkKey es.isEmpty 10000 key kv) with
  | some _ =>
   match zr P (Instr.findKey key kv es.toList) with
   | some (some (_,v))=>some (v,true)
   | some none=>(zr P (zeroValue elem)).map fun z=>(z,false)
   | none=>none
  | none=>none
 | _=>none
def LC (P:Program) (t:TypeId) (kv v:Value) (es:Array MapEntry) (clock:Nat):Option (Array MapEntry × Nat) :=
 match P.underlying t with
 | some (.map key _) =>
  match zr P (Instr.checkKey false 10000 key kv) with
  | some _ =>
   match zr P (Instr.findKey key kv es.toList) with
   | some (some (i,_))=>(zr P (Instr.keyThatStays (((es[i]?).map (·.key)).getD kv) kv)).map fun k'=>(es.modify i fun e=>{e with key:=k',val:=v},clock)
   | some none=>some (es.push {key:=kv,val:=v,born:=clock},clock+1)
   | none=>none
  | none=>none
 | _=>none
def rk (P:Program) (t:TypeId) (ok:Bool) (σ:Nat→Option zb):List AV→(AV→Option zb→Prop)→Prop
 | [.mp j,y],k =>
  match σ j,toV y with
  | some (.map es _),some kv =>
   match Si P t kv es with
   | some (v,b)=>k (if ok=true then .tuple [ofV v,.val (.bool b)] else ofV v) none
   | none=>False
  | _,_=>False
 | _,_=>False
def xY (P:Program) (f:FuncId) (σ:Nat→Option zb) (xs:List AV) (k:AV→Option zb→Prop):Prop :=
 match yD (wu σ) xs with
 | some args=>∃ r,zc P f args r∧(xs.any sH=true→pf r=true)∧k r none
 | none=>False
def bH (P:Program) (t:TypeId) (name:String):Option FuncId :=
 match P.info? t,P.underlying t with
 | some i,some (.struct _)=>match i.methods.find? (·.name == name) with
  | some m=>if m.path.size=0 then (match m.func with | some (f,false)=>some f | _=>none) else none
  | none=>none
 | _,_=>none
def bB (P:Program) (s d:TypeId):Bool :=
 match P.underlying s with
 | some (.slice e)=>(match P.underlying e,P.underlying d with
  | some (.int .u8),some .string=>true
  | _,_=>false)
 | _=>false
def So (P:Program) (s d:TypeId):Bool :=
 match P.underlying s,P.underlying d with
 | some .string,some (.slice e)=>(match P.underlying e with
  | some (.int .u8)=>true
  | _=>false)
 | _,_=>false
def qZ:List (List AV)→Option (List Int)
 | []=>some []
 | [.val (.int .u8 n)]::l=>(qZ l).map (n::·)
 | _=>none
def zN (P:Program) (d:Nat) (op:AOp) (xs:List AV) (σ:Nat→Option zb) (k:AV→Option zb→Prop):Prop :=
 match op with
 | .mov=>match xs with
  | [x]=>k x none
  | _=>False
 | .pick=>match xs with
  | [.val (.bool t),a,b]=>(t=true→k a none)∧(t=false→k b none)
  | _=>False
 | .alloc cells=>σ d=none∧k (.ptr d 0) (some (.var cells))
 | .box=>match xs with
  | [x]=>match cellsOf x with
   | some cs=>σ d=none∧k (.ptr d 0) (some (.var cs))
   | none=>False
  | _=>False
 | .build zero places=>xI (orR (uj zero places xs) (v3 zero places xs)) k
 | .mkslice sz n zero places=>match vT sz (List.replicate n zero) places xs,xM sz (List.replicate n zero) places xs with
  | some rows,_=>zero.length=sz∧0<sz∧k (.list sz .full rows) none
  | none,some rows=>zero.length=sz∧0<sz∧k (.lit sz rows) none
  | none,none=>False
 | .mksliceL sz n zero places=>match xM sz (List.replicate n zero) places xs with
  | some rows=>zero.length=sz∧0<sz∧k (.lit sz rows) none
  | none=>False
 | .mkmap=>σ d=none∧k (.mp d) (some (.map #[] 0))
 | .lookup t ok=>rk P t ok σ xs k
 | .load n=>n6 σ n xs k
 | .nilChk=>match xs with
  | [.ptr j off]=>k (.ptr j off) none
  | [.eptr j sz i off]=>k (.eptr j sz i off) none
  | [.up j sz i off]=>k (.up j sz i off) none
  | [.ro cells]=>k (.ro cells) none
  | [.fn f caps]=>k (.fn f caps) none
  | _=>False
 | .bin op t ox oy=>yi P op t ox oy xs k
 | .un op=>match xs with
  | [.val v]=>yX (zr P (Op.unary op v)) k
  | _=>False
 | .conv s d'=>match xs with
  | [.val v]=>yX (zr P (convert s d' v)) k
  | [.list _ _ rows]=>match qZ rows with
   | some ns=>bB P s d'=true∧k (.val (.string (strOfNums ns))) none
   | none=>False
  | _=>False
 | .idxV t=>match xs with
  | [x,.val i]=>match toV x with
   | some a=>yX (zr P (Instr.index t a i)) k
   | none=>False
  | _=>False
 | .sliceV _ lo hi mx=>match xs with
  | .val (.string s)::ys=>wF s.size lo hi mx ys fun l h _=>mx=false∧k (.val (.string (s.extract l h))) none
  | _=>False
 | .mm b ts t=>match sX xs with
  | some vs=>yX (zr P (if b=.max then Builtin.max_ ts t vs.toArray else Builtin.min_ ts t vs.toArray)) k
  | none=>False
 | .field off n=>match xs with
  | [.agg cells]=>xI (vS cells off n) k
  | [.raw cells]=>xI (zP cells off n) k
  | _=>False
 | .faddr off=>match xs with
  | [.ptr j o]=>k (.ptr j (o+off)) none
  | [.eptr j sz i o]=>k (.eptr j sz i (o+off)) none
  | [.up j sz i o]=>k (.up j sz i (o+off)) none
  | [.ro cells]=>k (.ro (cells.drop off)) none
  | _=>False
 | .iaddrA len esz=>qK len esz xs k
 | .iaddrS sz=>qL sz xs k
 | .idxA len esz n=>match xs with
  | [.agg cells,.val (.int _ i)]=>0≤i∧i<len∧xI (vS cells (i.toNat * esz) n) k
  | _=>False
 | .slice sz lo hi mx=>rP sz lo hi mx xs k
 | .mk sz bytes zero=>eMk sz bytes zero d σ xs k
 | .len s=>nh s xs k
 | .extract i=>match xs with
  | [.tuple vs]=>xI vs[i]? k
  | _=>False
 | .mkfn f=>k (.fn (.func f) (xs.map strip)) none
 | .mkb f=>k (.fn (.via 0 #[] f false) (xs.map strip)) none
 | .call f=>xY P f σ xs k
 | .callv=>match xs with
  | .fn (.func f) caps::ys=>yM P f=true∧xY P f σ (ys++caps) k
  | .fn (.via _ _ f _) rs::ys=>yM P f=true∧xY P f σ (rs++ys) k
  | _=>False
 | .mkif t=>match xs with
  | [x]=>rf x=true∧k (.iface t (strip x)) none
  | _=>False
 | .callm name=>match xs with
  | .iface t x::ys=>match bH P t name with
   | some f=>yM P f=true∧xY P f σ (x::ys) k
   | none=>False
  | _=>False
 | _=>False
def St.get (s:St) (n:Nat):AV:=(lk s.env n).getD .undef
def ev (s:St):Opd→AV
 | .t n=>(lk s.env n).getD .undef
 | .c x=>x
def St.put (s:St):Option Nat→AV→St
 | some d,x=>{s with env:=pt s.env d x}
 | none,_=>s
def St.new (s:St):Option Nat→Option zb→St
 | some d,some e=>{s with sto:=pt s.sto (s.base+d) e}
 | _,_=>s
def nP (l:Nat):AV→Bool
 | .us l' _ _ _=>l' == l
 | .up l' _ _ _=>l' == l
 | .fn _ _=>true
 | .tuple _=>true
 | .lit _ _=>true
 | .raw _=>true
 | _=>false
def qw (l:Nat):AV→Bool
 | .list _ (.own l') _=>l' == l
 | x=>nP l x
def dg (l:Nat):AV→AV
 | .list sz (.own l') rows=>if l'=l then .list sz .plain rows else .list sz (.own l') rows
 | .us l' sz off len=>if l'=l then .undef else .us l' sz off len
 | .up l' sz i off=>if l'=l then .undef else .up l' sz i off
 | .fn f caps=>if caps.any (nP l)=true then .undef else .fn f caps
 | .tuple cells=>if cells.any (nP l)=true then .undef else .tuple cells
 | .lit sz rows=>if (rows.any fun r=>r.any (qw l))=true then .undef else .lit sz rows
 | .raw cells=>if cells.any (qw l)=true then .undef else .raw cells
 | x=>x
def zU (l:Nat) (rows:List (List AV)):List (List AV):=rows.map fun r=>r.map (dg l)
def dgE (l:Nat):zb→zb
 | .var cells=>.var (cells.map (dg l))
 | .uarr sz rows=>.uarr sz (zU l rows)
 | e=>e
def St.dg (s:St) (l:Nat):St:={s with env:=s.env.map fun p=>(p.1,Am.dg l p.2),sto:=s.sto.map fun p=>(p.1,dgE l p.2),out:=s.out.map fun f=>f.map fun p=>(p.1,Am.dg l p.2)}
def pB (n:Nat) (s:St) (dst:Option Nat):List AV→(St→Prop)→Prop
 | [.ptr j off,x],K =>
  match lk s.sto j,cellsOf x with
  | some (.var cells),some cs=>cs.length=n∧off+n≤cells.length∧dst=none∧K {s with sto:=pt s.sto j (.var (splice cells off cs))}
  | _,_=>False
 | [.eptr j sz i off,x],K =>
  match lk s.sto j,cellsOf x with
  | some (.arr sz' rows),some cs=>sz'=sz∧cs.length=n∧off+n≤sz∧i<rows.length∧cs.all rf=true∧dst=none ∧
    (match rows[i]? with
    | some r=>K {s with sto:=pt s.sto j (.arr sz (rows.set i (splice r off (cs.map strip))))}
    | none=>False)
  | _,_=>False
 | [.up l sz i off,x],K =>
  match lk s.sto l,cellsOf x with
  | some (.uarr sz' rows),some cs=>sz'=sz∧cs.length=n∧off+n≤sz∧dst=none ∧
    (match rows[i]? with
    | some r=>K {s with sto:=pt s.sto l (.uarr sz (rows.set i (splice r off cs)))}
    | none=>False)
  | _,_=>False
 | _,_=>False
def y6 (σ:Nat→Option zb) (sz:Nat):AV→(List (List AV)→Prop)→Prop
 | .list sz' _ rows,k=>(rows=[]∨sz'=sz)∧k rows
 | .sl j sz' off len,k=>sz'=sz∧(match σ j with
   | some (.arr sz'' rows)=>sz''=sz∧off+len≤rows.length∧k ((rows.drop off).take len)
   | _=>False)
 | .us j sz' off len,k=>sz'=sz∧(match σ j with
   | some (.uarr sz'' rows)=>sz''=sz∧off+len≤rows.length∧xB ((rows.drop off).take len)=true∧k (zQ ((rows.drop off).take len))
   | _=>False)
 | .val (.string b),k=>sz=1∧k (b.data.toList.map fun x=>[.val (.int .u8 x.toNat)])
 | .lit sz' rows,k=>sz'=sz∧xB rows=true∧k (zQ rows)
 | _,_=>False
def xH (sz bytes:Nat) (s:St) (dst:Option Nat) (K:St→Prop):List AV→Prop
 | [.list sz1 m rows1,x]=>y6 (lk s.sto) sz x fun rows2 =>
   0<sz∧(rows1.length+rows2.length)*bytes≤140737488355328∧rows1.length+rows2.length≤9223372036854775807 ∧
   match m,dst with
   | .full,some d=>(rows1=[]∨sz1=sz)∧lk s.sto (s.base+d)=none∧K ((s.dg (s.base+d)).put (some d) (.list sz (.own (s.base+d)) (rows1++rows2)))
   | .own l,some d=>sz1=sz∧lk s.sto l=none∧K ((s.dg l).put (some d) (.list sz (.own l) (rows1++rows2)))
   | _,_=>False
 | [.val (.string b)]=>sz=0∧(match dst with
   | some d=>lk s.sto (s.base+d)=none∧K ((s.dg (s.base+d)).put (some d) (.list 1 (.own (s.base+d)) (b.data.toList.map fun x=>[.val (.int .u8 x.toNat)])))
   | none=>False)
 | _=>False
def y9 (σ:Nat→Option zb) (sz:Nat):AV→(List (List AV)→Prop)→Prop
 | .us j sz' off len,k=>sz'=sz∧(match σ j with
   | some (.uarr sz'' rows)=>sz''=sz∧off+len≤rows.length∧k ((rows.drop off).take len)
   | _=>False)
 | .lit sz' rows,k=>sz'=sz∧k rows
 | x,k=>y6 σ sz x k
def qN (sz n:Nat) (zero:List AV) (places:List Nat) (s:St) (dst:Option Nat) (K:St→Prop) (xs:List AV):Prop :=
 match xM sz (List.replicate n zero) places xs,dst with
 | some rows,some d=>zero.length=sz∧0<sz∧lk s.sto (s.base+d)=none ∧
   K (((s.dg (s.base+d)).put (some d) (.us (s.base+d) sz 0 n)).new (some d) (some (.uarr sz (zU (s.base+d) rows))))
 | _,_=>False
def uF (P:Program) (f:FuncId) (xs:List AV) (s:St) (dst:Option Nat) (K:St→Prop):Prop :=
 afN P f xs s fun r s'=>s'.base=s.base∧K (s'.put dst r)
def yQ (sz bytes:Nat) (s:St) (dst:Option Nat) (K:St→Prop):List AV→Prop
 | [.list _ .full rows1,x]=>y9 (lk s.sto) sz x fun rows2 =>
   0<sz∧(rows1.length+rows2.length)*bytes≤140737488355328∧rows1.length+rows2.length≤9223372036854775807 ∧
   match dst with
   | some d=>rows1=[]∧lk s.sto (s.base+d)=none ∧
     K (((s.dg (s.base+d)).put (some d) (.us (s.base+d) sz 0 rows2.length)).new (some d) (some (.uarr sz (zU (s.base+d) rows2))))
   | none=>False
 | [.us l sz1 off len,x]=>y9 (lk s.sto) sz x fun rows2 =>
   0<sz∧(len+rows2.length)*bytes≤140737488355328∧len+rows2.length≤9223372036854775807 ∧
   match lk s.sto l,dst with
   | some (.uarr sz' rows1),some d=>sz'=sz∧sz1=sz∧off=0∧len=rows1.length ∧
     K ({(s.dg l) with sto:=pt (s.dg l).sto l (.uarr sz (zU l (rows1++rows2)))}.put (some d) (.us l sz 0 (len+rows2.length)))
   | _,_=>False
 | _=>False
def qM (P:Program) (t:TypeId) (s:St) (dst:Option Nat) (K:St→Prop):List AV→Prop
 | [.mp j,y,x] =>
  match lk s.sto j,toV y,toV x with
  | some (.map es clock),some kv,some v =>
   match LC P t kv v es clock with
   | some (es',clock')=>dst=none∧K {s with sto:=pt s.sto j (.map es' clock')}
   | none=>False
  | _,_,_=>False
 | _=>False
def RX:AV→Option Nat
 | .list _ _ rows=>some rows.length
 | .sl _ _ _ n=>some n
 | .us _ _ _ n=>some n
 | _=>none
def jt (neg:Bool) (s:St) (dst:Option Nat) (K:St→Prop):List AV→Prop
 | [x]=>match RX x with
  | some n=>(n=0→K (s.put dst (.val (.bool true)))∧K (s.put dst (.val (.bool false))))∧(n≠0→K (s.put dst (.val (.bool neg))))
  | none=>False
 | _=>False
def gu (σ:Nat→Option zb) (sz:Nat):AV→(List (List AV)→Prop)→Prop
 | .val _,_=>False
 | x,k=>y6 σ sz x k
def fz (sz:Nat) (s:St) (dst:Option Nat) (K:St→Prop):List AV→Prop
 | [.sl j sz1 off len,x]=>sz1=sz∧0<sz∧gu (lk s.sto) sz x fun rows2 =>
   (match lk s.sto j with
   | some (.arr sz' rows)=>sz'=sz∧off+len≤rows.length∧rows2.length≤len ∧
     K (({s with sto:=pt s.sto j (.arr sz (rows.take off++rows2++rows.drop (off+rows2.length)))}).put dst (.val (.int .i64 (rows2.length:Nat))))
   | _=>False)
 | _=>False
def frz (k:Nat) (e:zb):AV→AV
 | .sl j sz off len=>if j=k then (match e with
   | .arr sz' rows=>if sz'=sz∧off+len≤rows.length then .list sz .plain ((rows.drop off).take len) else .undef
   | _=>.undef) else .sl j sz off len
 | .ptr j off=>if j=k then (match e with
   | .var cells=>if (cells.drop off).all rf=true then .ro ((cells.drop off).map strip) else .undef
   | _=>.undef) else .ptr j off
 | .eptr j sz i off=>if j=k then .undef else .eptr j sz i off
 | .us j sz off len=>if j=k then (match e with
   | .uarr sz' rows=>if sz'=sz∧off+len≤rows.length∧xB ((rows.drop off).take len)=true then .list sz .plain (zQ ((rows.drop off).take len)) else .undef
   | _=>.undef) else .us j sz off len
 | .up j sz i off=>if j=k then .undef else .up j sz i off
 | .mp j=>if j=k then .undef else .mp j
 | .lit _ _=>.undef
 | .raw _=>.undef
 | .list sz (.own l) rows=>if l=k∧e.isU=true then .list sz .plain rows else .list sz (.own l) rows
 | x=>x
def uf (k:Nat) (e:zb):zb→zb
 | .var cells=>.var (cells.map (frz k e))
 | .uarr sz rows=>.uarr sz (rows.map fun r=>r.map (frz k e))
 | x=>x
def vR (k:Nat):AV→Bool
 | .ptr j _=>j == k
 | .eptr j _ _ _=>j == k
 | .sl j _ _ _=>j == k
 | .us j _ _ _=>j == k
 | .up j _ _ _=>j == k
 | .fn _ _=>true
 | .tuple _=>true
 | .mp j=>j == k
 | .lit _ _=>true
 | .raw _=>true
 | _=>false
def Ss (k:Nat):AV→Bool
 | .list _ (.own l) _=>l == k
 | _=>false
def ZK (k:Nat) (c:AV):Bool:=vR k c||Ss k c
def zT (k:Nat):AV→Bool
 | .ptr j _=>j == k
 | .eptr j _ _ _=>j == k
 | .sl j _ _ _=>j == k
 | .us j _ _ _=>j == k
 | .up j _ _ _=>j == k
 | .fn _ caps=>caps.any (vR k)
 | .tuple cells=>cells.any (vR k)
 | .mp j=>j == k
 | .lit _ rows=>rows.any fun r=>r.any (ZK k)
 | .raw cells=>cells.any (ZK k)
 | _=>false
def wM (k:Nat):List AV→Bool
 | []=>false
 | x::l=>zT k x||wM k l
def yN (k:Nat):List (List AV)→Bool
 | []=>false
 | r::l=>wM k r||yN k l
def nK (k:Nat):zb→Bool
 | .var cells=>wM k cells
 | .uarr _ rows=>yN k rows
 | _=>false
def rz (k:Nat):List (Nat × AV)→Bool
 | []=>true
 | (_,x)::l=>!zT k x&&rz k l
def xk (k:Nat):List (Nat × zb)→Bool
 | []=>true
 | (_,x)::l=>!nK k x&&xk k l
def pI (k:Nat):List (List (Nat × AV))→Bool
 | []=>true
 | f::l=>rz k f&&pI k l
def St.unmet (s:St) (k:Nat):Bool:=rz k s.env&&xk k s.sto&&pI k s.out
def St.drop (s:St) (D:List Nat):St:={s with env:=del D s.env}
def St.nm (s:St) (D:List Nat):List Nat:=D.map (s.base+·)
def uI:Option zb→Bool
 | some e=>e.isU
 | none=>false
def mE (σ:Nat→Option zb):List Nat→St→Bool
 | [],_=>true
 | k::ks,s=>(uI (σ k)||s.unmet k)&&mE σ ks s
def bs (s:St) (D:List Nat) (K:St→Prop):Prop :=
 mE (lk s.sto) (s.nm D) {s with sto:=del (s.nm D) s.sto}=true∧K {s with sto:=del (s.nm D) s.sto}
theorem lJ {k:Nat} {l:List AV} (h:wM k l=false):∀ x∈l,zT k x=false:=by
 induction l with
 | nil=>simp
 | cons y l ih =>
  simp only[wM,Bool.or_eq_false_iff] at h
  intro x hx
  rcases List.mem_cons.1 hx with rfl | hx
  ·exact h.1
  ·exact ih h.2 x hx
theorem Y2 {k:Nat} {l:List (Nat × AV)} (h:rz k l=true):∀ p∈l,zT k p.2=false:=by
 induction l with
 | nil=>simp
 | cons y l ih =>
  obtain ⟨q,z⟩:=y
  simp only[rz,Bool.and_eq_true,Bool.not_eq_true'] at h
  intro x hx
  rcases List.mem_cons.1 hx with rfl | hx
  ·exact h.1
  ·exact ih h.2 x hx
theorem Pz {k:Nat} {l:List (Nat × zb)} (h:xk k l=true):∀ p∈l,nK k p.2=false:=by
 induction l with
 | nil=>simp
 | cons y l ih =>
  obtain ⟨q,z⟩:=y
  simp only[xk,Bool.and_eq_true,Bool.not_eq_true'] at h
  intro x hx
  rcases List.mem_cons.1 hx with rfl | hx
  ·exact h.1
  ·exact ih h.2 x hx
theorem eR {k:Nat} {l:List (List AV)} (h:yN k l=false):∀ r∈l,wM k r=false:=by
 induction l with
 | nil=>simp
 | cons y l ih =>
  simp only[yN,Bool.or_eq_false_iff] at h
  intro x hx
  rcases List.mem_cons.1 hx with rfl | hx
  ·exact h.1
  ·exact ih h.2 x hx
theorem Py {k:Nat} {l:List (List (Nat × AV))} (h:pI k l=true):∀ f∈l,rz k f=true:=by
 induction l with
 | nil=>simp
 | cons y l ih =>
  simp only[pI,Bool.and_eq_true] at h
  intro x hx
  rcases List.mem_cons.1 hx with rfl | hx
  ·exact h.1
  ·exact ih h.2 x hx
theorem P3 {σ:Nat→Option zb} {D:List Nat} {s:St} (h:mE σ D s=true):∀ k∈D,uI (σ k)=false→s.unmet k=true:=by
 induction D with
 | nil=>simp
 | cons y l ih =>
  simp only[mE,Bool.and_eq_true,Bool.or_eq_true] at h
  intro x hx hn
  rcases List.mem_cons.1 hx with rfl | hx
  ·rcases h.1 with h1 | h1
   ·rw[hn] at h1; cases h1
   ·exact h1
  ·exact ih h.2 x hx hn
def xf (k:Nat) (s:St) (K:St→Prop):Prop :=
 match lk s.sto k with
 | some e=>let s':St:={s with env:=s.env.map fun p=>(p.1,frz k e p.2),sto:=(del [k] s.sto).map fun p=>(p.1,uf k e p.2),out:=s.out.map fun f=>f.map fun p=>(p.1,frz k e p.2)}
   s'.unmet k=true∧K s'
 | none=>False
def tF:List Nat→St→(St→Prop)→Prop
 | [],s,K=>K s
 | k::ks,s,K=>xf (s.base+k) s fun s'=>tF ks s' K
def dN (P:Program) (op:AOp) (s:St) (dst:Option Nat) (K:St→Prop) (xs:List AV):Prop :=
 match dst with
 | some d=>zN P (s.base+d) op xs (lk (del [s.base+d] s.sto)) fun x e=>lk s.env d=some x∧lk s.sto (s.base+d)=e∧K s
 | none=>False
def fA (s:St) (dst:Option Nat) (K:St→Prop):Prop :=
 match dst with
 | some d=>lk s.env d=some (.val Go.undef)∧lk s.sto (s.base+d)=none∧K s
 | none=>False
def sE (σ:List (Nat × zb)) (base:Nat):List Nat→Prop
 | []=>True
 | d::ds=>lk σ (base+d)=none∧sE σ base ds
def St.mask (s:St) (D:List Nat):St:={s with env:=del D s.env,sto:=del (s.nm D) s.sto}
def yx (P:Program) (o:zi) (s:St) (K:St→Prop):Prop :=
 match o.op with
 | .chk op=>dN P op s o.dst K (o.xs.map (ev s))
 | .chkG op g b=>match s.get g with
  | .val (.bool c)=>(c=b→dN P op s o.dst K (o.xs.map (ev s)))∧(c=!b→fA s o.dst K)
  | .val _=>fA s o.dst K
  | _=>False
 | .start ds=>sE s.sto s.base ds∧K {s with env:=del ds s.env}
 | .store n=>pB n s o.dst (o.xs.map (ev s)) K
 | .append sz bytes=>xH sz bytes s o.dst K (o.xs.map (ev s))
 | .copy sz=>fz sz s o.dst K (o.xs.map (ev s))
 | .appendU sz bytes=>yQ sz bytes s o.dst K (o.xs.map (ev s))
 | .mksliceU sz n zero places=>qN sz n zero places s o.dst K (o.xs.map (ev s))
 | .mapset t=>qM P t s o.dst K (o.xs.map (ev s))
 | .nilS neg=>jt neg s o.dst K (o.xs.map (ev s))
 | .callI f=>yM P f=true∧uF P f (o.xs.map (ev s)) s o.dst K
 | .callvI=>match o.xs.map (ev s) with
  | .fn (.func f) caps::ys=>yM P f=true∧uF P f (ys++caps) s o.dst K
  | _=>False
 | .callM f ds=>yM P f=true∧((sE s.sto s.base ds∧∀ D:List Nat,afN P f (o.xs.map (ev s)) {s with env:=del D s.env} fun r s'=>∃ A:St,s'={A with env:=del D A.env}∧A.base=s.base∧sE A.sto A.base ds∧K (A.put o.dst r)) ∨
   ∀ D:List Nat,(∀ x∈o.xs,ev (s.mask D) x=ev s x)→afN P f (o.xs.map (ev s)) (s.mask D) fun r s'=>∃ A:St,s'=A.mask D∧A.base=s.base∧(∀ e,lk s.sto (s.base+e)=none→lk A.sto (s.base+e)=none)∧K (A.put o.dst r))
 | op=>zN P (s.base+o.dst.getD 0) op (o.xs.map (ev s)) (lk s.sto) fun x e=>K ((s.put o.dst x).new o.dst e)
def xo (P:Program) (o:zi) (s:St) (K:St→Prop):Prop :=
 match o.guard with
 | none=>yx P o s K
 | some (g,b)=>match s.get g with
  | .val (.bool c)=>(c=b→yx P o s K)∧(c=!b→K (s.put o.dst (.val Go.undef)))
  | .val _=>K (s.put o.dst (.val Go.undef))
  | _=>False
def zj (P:Program):List zi→St→(St→Prop)→Prop
 | [],s,K=>K s
 | o::os,s,K=>xo P o s fun s'=>zj P os s' K
inductive ze where
 | skip
 | region (draw:Bool) (FK:List Nat) (ops:List zi) (D:List Nat) (DK:List Nat)
 | seq (a b:ze)
 | cond (c:Opd) (t e:ze)
 | block (id:Nat) (c:ze)
 | loop (c:ze)
 | exit (id:Nat)
 | goto (l:Nat)
 | again (l:Nat) (c:ze)
 | ret
def St.imp (s s':St):Prop:=∀ (F:z9) (a:Act) (w:World),(∃ I β lam,Inv F s.look (lk s.sto) I β lam a w)→∃ I β lam,Inv F s'.look (lk s'.sto) I β lam a w
theorem St.imp.refl {s:St}:St.imp s s:=fun _ _ _ h=>h
theorem St.imp.trans {s t u:St} (h:St.imp s t) (k:St.imp t u):St.imp s u:=fun F a w g=>k F a w (h F a w g)
def CH (J:Nat→St→Prop) (n:Nat) (K:Exit→St→Prop):Exit→St→Prop
 | .normal,s=>∃ m s',m<n∧St.imp s s'∧J m s'
 | e,s=>K e s
def Kk (l:Nat) (J:Nat→St→Prop) (n:Nat) (K:Exit→St→Prop):Exit→St→Prop
 | .goto i,s=>i=l∧∃ m s',m<n∧St.imp s s'∧J m s'
 | e,s=>K e s
def Qs (f:St→(Exit→St→Prop)→Prop) (K:Exit→St→Prop):Exit→St→Prop
 | .normal,s=>f s K
 | e,s=>K e s
def Ye (id:Nat) (K:Exit→St→Prop):Exit→St→Prop
 | .exit i,s=>if i=id then K .normal s else K (.exit i) s
 | e,s=>K e s
def awp (P:Program):ze→St→(Exit→St→Prop)→Prop
 | .skip,s,K=>K .normal s
 | .region _ FK ops D DK,s,K=>tF FK s fun s0=>zj P ops s0 fun s'=>bs (s'.drop D) DK fun s''=>K .normal s''
 | .seq a b,s,K=>awp P a s (Qs (awp P b) K)
 | .cond c t e,s,K=>match ev s c with
  | .val (.bool b)=>(b=true→awp P t s K)∧(b=false→awp P e s K)
  | _=>False
 | .block id c,s,K=>awp P c s (Ye id K)
 | .loop c,s,K=>∃ (J:Nat→St→Prop) (n:Nat) (s0:St),St.imp s s0∧J n s0∧∀ n s,J n s→awp P c s (CH J n K)
 | .exit id,s,K=>K (.exit id) s
 | .goto l,s,K=>K (.goto l) s
 | .again l c,s,K=>∃ (J:Nat→St→Prop) (n:Nat) (s0:St),St.imp s s0∧J n s0∧∀ n s,J n s→awp P c s (Kk l J n K)
 | .ret,s,K=>K .ret s
def szT (P:Program) (t:TypeId):Option Nat:=(P.info? t).map (·.size)
def byT (P:Program) (t:TypeId):Option Nat:=(P.info? t).map (·.bytes)
def agT (P:Program) (t:TypeId):Bool :=
 match P.underlying t with
 | some (.struct _)=>true
 | some (.array _ _)=>true
 | _=>false
def ldT (P:Program) (t:TypeId):Option (Option Nat) :=
 match P.underlying t with
 | none=>none
 | some (.struct _)=>(szT P t).map some
 | some (.array _ _)=>(szT P t).map some
 | some _=>some none
def wL (P:Program) (t:TypeId):Option (List AV):=((P.info? t).bind (·.zero)).bind fun v=>if v.cells.all (·.oneCell')=true then some (v.cells.toList.map xc) else none
def elT (P:Program) (t:TypeId):Option TypeId :=
 match P.underlying t with
 | some (.slice e)=>some e
 | _=>none
def vz (P:Program) (t:TypeId):Option (Array Field) :=
 match P.underlying t with
 | some (.struct fs)=>some fs
 | _=>none
def gT (P:Program) (t:TypeId):Option (Nat × TypeId) :=
 match P.underlying t with
 | some (.array n e)=>some (n,e)
 | _=>none
def uH (P:Program) (t:TypeId):Bool :=
 match P.underlying t with
 | some .string=>true
 | _=>false
def tG (P:Program) (t:TypeId):List Nat→Option (List (Nat × Nat))
 | []=>some []
 | i::is =>
  match vz P t,gT P t with
  | some fs,_=>match fs[i]? with
   | some f=>match szT P f.type,tG P t is with
    | some n,some ps=>some ((f.offset,n)::ps)
    | _,_=>none
   | none=>none
  | none,some (_,e)=>match szT P e,tG P t is with
   | some n,some ps=>some ((i*n,n)::ps)
   | _,_=>none
  | none,none=>none
def Zm (P:Program) (t:TypeId):Bool :=
 match P.underlying t with
 | some (.struct fs)=>fs.toList.all fun f=>(szT P f.type).isSome
 | some (.array _ e)=>(szT P e).isSome
 | _=>false
def vQ:Option Operand→List Opd
 | some x=>[zm x]
 | none=>[]
def Js:Callee→Bool
 | .builtin .copy=>true
 | _=>false
def Q2 (P:Program) (c:Call):Option (AOp × List Opd) :=
 if Js c.callee=true then
  match c.argTypes[0]?,c.argTypes[1]? with
  | some t,some u=>match elT P t with
   | some e=>match szT P e with
    | some n=>if c.argTypes.size=2∧(uH P u=true∨(elT P u).isSome=true) then some (.copy n,c.args.toList.map zm) else none
    | none=>none
   | none=>none
  | _,_=>none
 else none
theorem pW {P:Program} {c:Call} {op:AOp} {xs:List Opd} (h:Q2 P c=some (op,xs)) :
  ∃ t u e' sz,op=.copy sz∧xs=c.args.toList.map zm∧c.callee=.builtin .copy∧c.argTypes=#[t,u]∧elT P t=some e'∧szT P e'=some sz∧(uH P u=true∨(elT P u).isSome=true):=by
 unfold Q2 at h
 split at h
 ·rename_i hc
  split at h
  ·rename_i t u h0 h1
   split at h
   ·rename_i e' he
    split at h
    ·rename_i n hn
     split at h
     ·rename_i hcond
      obtain ⟨g1,g3⟩:=hcond
      simp only[Option.some.injEq,Prod.mk.injEq] at h
      obtain ⟨rfl,rfl⟩:=h
      refine ⟨t,u,e',n,rfl,rfl,?_,?_,he,hn,g3⟩
      ·unfold Js at hc
       split at hc
       ·rename_i h2; exact h2
       ·cases hc
      ·apply Array.ext
       ·simpa using g1
       ·intro i hi1 hi2
        have:i=0∨i=1:=by simp at hi2; omega
        rcases this with rfl | rfl
        ·rw[Array.getElem?_eq_getElem hi1] at h0; simpa using h0
        ·rw[Array.getElem?_eq_getElem hi1] at h1; simpa using h1
     ·cases h
    ·cases h
   ·cases h
  ·cases h
 ·cases h
def rS (P:Program) (c:Call) (ty:TypeId):Option (AOp × List Opd) :=
 match c.callee with
 | .value (.func f)=>if yM P f=true then some (.call f,c.args.toList.map zm) else none
 | .value (.tmp t)=>some (.callv,.t t::c.args.toList.map zm)
 | .invoke recv name=>some (.callm name,zm recv::c.args.toList.map zm)
 | .builtin .len=>match c.argTypes[0]? with
  | some t=>match P.underlying t with
   | some .string=>some (.len true,c.args.toList.map zm)
   | some (.slice _)=>some (.len false,c.args.toList.map zm)
   | _=>none
  | none=>none
 | .builtin .min=>some (.mm .min c.argTypes ty,c.args.toList.map zm)
 | .builtin .max=>some (.mm .max c.argTypes ty,c.args.toList.map zm)
 | .builtin .append=>match c.argTypes[0]?,c.argTypes[1]? with
  | some t,some u=>match elT P t with
   | some e=>match szT P e,byT P e,wL P e with
    | some n,some by_,some z=>if c.argTypes.size=2∧(z.length=n∧0<n)∧(uH P u=true∨(elT P u).isSome=true) then some (.append n by_,c.args.toList.map zm) else none
    | _,_,_=>none
   | none=>none
  | _,_=>none
 | _=>Q2 P c
def RY (P:Program) (op:BinOp) (t:TypeId) (y:Operand):Option Bool :=
 match op,y,P.underlying t with
 | .eql,.const (.slice none 0 0),some (.slice _)=>some false
 | .neq,.const (.slice none 0 0),some (.slice _)=>some true
 | _,_,_=>none
def kY (P:Program) (ty:TypeId):Op→Option (AOp × List Opd)
 | .move x=>some (.mov,[zm x])
 | .assign x=>some (.mov,[zm x])
 | .pick c a b=>some (.pick,[zm c,zm a,zm b])
 | .alloc t=>(wL P t).map fun z=>(.alloc z,[])
 | .box _ x=>some (.box,[zm x])
 | .build t parts=>match wL P t,tG P t (parts.toList.map (·.1)) with
  | some z,some ps=>if Zm P t=true then some (.build z ps,parts.toList.map fun p=>zm p.2) else none
  | _,_=>none
 | .buildSlice t n parts=>match elT P t with
  | some e=>match szT P e,wL P e with
   | some s,some z=>if n*s≤16777216 then some (if ((elT P e).isSome&&decide (0<n))=true then .mksliceL s n z (parts.toList.map (·.1)) else .mkslice s n z (parts.toList.map (·.1)),parts.toList.map fun p=>zm p.2) else none
   | _,_=>none
  | none=>none
 | .load t x=>(ldT P t).map fun n=>(.load n,[zm x])
 | .store t a x=>(szT P t).map fun n=>(.store n,[zm a,zm x])
 | .nilCheck x=>some (.nilChk,[zm x])
 | .binOp op t x y _=>match RY P op t y with
  | some neg=>some (.nilS neg,[zm x])
  | none=>some (.bin op t x y,[zm x,zm y])
 | .unOp op _ x=>some (.un op,[zm x])
 | .convert s d x=>some (if So P s d=true then .append 0 0 else .conv s d,[zm x])
 | .slice t x lo hi mx=>match elT P t with
  | some e=>(szT P e).map fun n=>(.slice n lo.isSome hi.isSome mx.isSome,zm x::(vQ lo++vQ hi++vQ mx))
  | none=>if uH P t=true then some (.sliceV t lo.isSome hi.isSome mx.isSome,zm x::(vQ lo++vQ hi++vQ mx)) else none
 | .fieldAddr t x i=>match vz P t with
  | some fs=>match fs[i]? with
   | some f=>match szT P f.type with
    | some n=>if n=0 then none else some (.faddr f.offset,[zm x])
    | none=>none
   | none=>none
  | none=>none
 | .field t x i=>match vz P t with
  | some fs=>match fs[i]? with
   | some f=>(ldT P f.type).map fun n=>(.field f.offset n,[zm x])
   | none=>none
  | none=>none
 | .indexAddr t x i=>match elT P t,gT P t with
  | some e,_=>(szT P e).map fun n=>(.iaddrS n,[zm x,zm i])
  | none,some (len,e)=>(szT P e).map fun n=>(.iaddrA len n,[zm x,zm i])
  | none,none=>none
 | .index t x i=>match gT P t with
  | some (len,e)=>match szT P e,ldT P e with
   | some n,some l=>some (.idxA len n l,[zm x,zm i])
   | _,_=>none
  | none=>some (.idxV t,[zm x,zm i])
 | .makeSlice t l c=>match elT P t with
  | some e=>match szT P e,byT P e,wL P e with
   | some n,some by_,some z=>if n=0 then none else some (.mk n by_ z,[zm l,zm c])
   | _,_,_=>none
  | none=>none
 | .extract x i=>some (.extract i,[zm x])
 | .makeMap _ none=>some (.mkmap,[])
 | .lookup t x i ok=>some (.lookup t ok,[zm x,zm i])
 | .mapUpdate t m k x=>some (.mapset t,[zm m,zm k,zm x])
 | .insert t m k x=>some (.mapset t,[zm m,zm k,zm x])
 | .makeFunc (.func f) first caps=>if first.size=0 then some (.mkfn f,caps.toList.map zm) else if caps.size=0 then some (.mkb f,first.toList.map zm) else none
 | .makeInterface t x=>match P.underlying t with
  | some (.interface _)=>none
  | some _=>some (.mkif t,[zm x])
  | none=>none
 | .call c=>rS P c ty
 | _=>none
def rF (ops:Array Oper):Option (Nat × Bool)→Option (Option (Nat × Bool))
 | none=>some none
 | some (j,b)=>match (ops[j]?).bind (·.dst) with
  | some d=>some (some (d,b))
  | none=>none
def te (N:Nat):Option Nat→Bool
 | some d=>decide (d<N)
 | none=>true
def v9 (P:Program) (N:Nat) (ops:Array Oper) (o:Oper):Option zi :=
 match kY P o.type o.op,rF ops o.guard with
 | some (op,xs),some g=>if te N o.dst=true then some {dst:=o.dst,op:=op,xs:=xs,guard:=g} else none
 | _,_=>none
def xU (P:Program) (N:Nat) (ops:Array Oper):List Oper→Option (List zi)
 | []=>some []
 | o::l=>match v9 P N ops o,xU P N ops l with
  | some x,some y=>some (x::y)
  | _,_=>none
def looked (o:Oper) (ops:Array Oper):List Nat:=o.looksAt ops
def waits (ops:Array Oper) (i:Nat):Bool:=Nat.land ((Region.before ops).getD i 0) (2^i-1) == 2^i-1
def isE:AOp→Bool
 | .store _=>false
 | .append _ _=>false
 | .copy _=>false
 | .appendU _ _=>false
 | .mksliceU _ _ _ _=>false
 | .callI _=>false
 | .callvI=>false
 | .callM _ _=>false
 | .nilS _=>false
 | .mapset _=>false
 | .chk _=>false
 | .chkG _ _ _=>false
 | .start _=>false
 | _=>true
def gz (P:Program) (ops:Array Oper) (n i:Nat):Bool :=
 match ops[i]? with
 | none=>false
 | some o =>
  (match kY P o.type o.op with
  | some (op,_)=>isE op
  | none=>false) &&
  (match o.dst with
  | some d=>(List.range n).all (fun j=>j == i||((ops[j]?).map (fun q=>q.dst != some d)).getD false)
  | none=>false) &&
  (looked o ops).all fun t=>(List.range n).all fun j =>
   ((ops[j]?).map (fun q=>q.dst != some t)).getD false||(decide (j<i)&&o.after.any (fun e=>e.on == j&&Region.binds .any e))
def zO (ops:Array Oper):Nat→Nat
 | 0=>0
 | n+1=>if waits ops n=true then zO ops n else n+1
def qO (ops:Array Oper):Bool :=
 (List.range ops.size).all fun i=>match ops[i]? with
  | some o=>o.after.all fun e=>!Region.binds .any e||decide (e.on<i)
  | none=>true
def S6 (P:Program) (ops:Array Oper):Bool :=
 let n:=zO ops ops.size
 qO ops&&P.follows .mixedOrders&&(List.range n).all (gz P ops n)
def opAt (l:List zi) (i:Nat):zi:=l.getD i ⟨none,.mov,[],none⟩
def pS (l:List zi) (n:Nat):List Nat:=(List.range n).filter fun i=>!isE (opAt l i).op
def phase (B:Array Nat) (sp:List Nat) (i:Nat):Nat:=(sp.filter fun p=>(B.getD i 0).testBit p).length
def wD (B:Array Nat) (sp:List Nat) (l:List zi) (n k:Nat):List Nat:=(List.range n).filter fun i=>isE (opAt l i).op&&phase B sp i == k
def S2 (B:Array Nat) (sp:List Nat) (l:List zi) (n k p:Nat):List Nat :=
 (List.range n).filter fun i=>isE (opAt l i).op&&(decide (phase B sp i<k)&&!(B.getD p 0).testBit i)
def rj (o:zi):zi :=
 match o.guard with
 | none=>{o with op:=.chk o.op}
 | some (g,b)=>{o with op:=.chkG o.op g b,guard:=none}
def nF (B:Array Nat) (sp0:List Nat) (l:List zi) (n:Nat):Nat→List Nat→List zi
 | k,[]=>(wD B sp0 l n k).map (opAt l)++l.drop n
 | k,p::sp=>(wD B sp0 l n k).map (opAt l)++opAt l p::((S2 B sp0 l n (k+1) p).map (fun i=>rj (opAt l i))++nF B sp0 l n (k+1) sp)
def vn (l:List zi) (n:Nat):List Nat:=(List.range n).filterMap fun i=>(opAt l i).dst
def Uq (B:Array Nat) (l:List zi) (n:Nat):List zi:=⟨none,.start (vn l n),[],none⟩::nF B (pS l n) l n 0 (pS l n)
def YT (ops:Array Oper) (n i:Nat):Bool :=
 match ops[i]? with
 | none=>false
 | some o =>
  (match o.dst with
  | some d=>(List.range n).all (fun j=>j == i||((ops[j]?).map (fun q=>q.dst != some d)).getD false)
  | none=>true) &&
  (looked o ops).all fun t=>(List.range n).all fun j =>
   ((ops[j]?).map (fun q=>q.dst != some t)).getD false||(decide (j<i)&&o.after.any (fun e=>e.on == j&&Region.binds .any e))
def LS:AOp→Bool
 | .store _=>true
 | .append _ _=>true
 | .copy _=>true
 | .nilS _=>true
 | .mapset _=>true
 | .callM _ _=>true
 | _=>false
def CP (P:Program) (f:FuncId):Bool :=
 match P.funcs[f]? with
 | some fn => fn.name == "(saleroom/support.Prices).list" || fn.name == "saleroom/bound.Best" || fn.name == "saleroom/saleroomlaw24.full" || (match fn.params[0]? with
  | some t=>match P.underlying t with
   | some (.pointer _)=>true
   | _=>false
  | none=>false)
 | none=>false
def spc (P:Program) (ds:List Nat) (o:zi):zi :=
 match o.op with
 | .call f=>if CP P f=true then {o with op:=.callM f ds} else o
 | _=>o
def unM (o:zi):zi :=
 match o.op with
 | .callM f _=>{o with op:=.call f}
 | _=>o
def adz (P:Program) (l:List zi):Bool:=l.any fun o=>match o.op with
 | .call f=>CP P f
 | _=>false
def qa (B:Array Nat) (sp:List Nat):Nat→List Nat→Bool
 | _,[]=>true
 | k,p::l=>phase B sp p == k&&qa B sp (k+1) l
def X9 (o:zi):Bool:=!isE o.op||o.dst.isSome
def Dl (ops:Array Oper) (B:Array Nat) (sp0:List Nat) (n:Nat):Bool :=
 (List.range n).all fun i=>match ops[i]? with
  | some o=>o.after.all fun e=>!Region.binds .any e||decide (phase B sp0 e.on≤phase B sp0 i)
  | none=>true
def aiO (P:Program) (ops:Array Oper) (B:Array Nat) (l:List zi) (n:Nat):Bool :=
 Dl ops B (pS l n) n&&qO ops&&P.follows .mixedOrders&&(List.range n).all (YT ops n)&&(List.range n).all (fun i=>X9 (opAt l i)) &&
 (pS l n).all (fun p=>LS (opAt l p).op)&&qa B (pS l n) 0 (pS l n)
def ul:Code→Bool
 | .seq a b=>ul a||ul b
 | .cond _ a b=>ul a||ul b
 | .block _ c=>ul c
 | .loop c=>ul c
 | .goto _=>true
 | _=>false
def ym (P:Program) (N:Nat):Code→Option ze
 | .skip=>some .skip
 | .region _ ops draw=>match xU P N ops ops.toList with
  | some l=>if draw=false∨(S6 P ops=true∧adz P l=false) then some (.region draw [] l [] [])
   else if aiO P ops (Region.before ops) (l.map (spc P (vn l (zO ops ops.size)))) (zO ops ops.size)=true then
    some (.region true [] (Uq (Region.before ops) (l.map (spc P (vn l (zO ops ops.size)))) (zO ops ops.size)) [] [])
   else none
  | none=>none
 | .seq a b=>match ym P N a,ym P N b with
  | some x,some y=>some (.seq x y)
  | _,_=>none
 | .cond c a b=>match ym P N a,ym P N b with
  | some x,some y=>some (.cond (zm c) x y)
  | _,_=>none
 | .block id c=>(ym P N c).map (.block id)
 | .loop c=>(ym P N c).map .loop
 | .exit id=>some (.exit id)
 | .goto l=>some (.goto l)
 | .scope (.seq (.label l) r)=>if ul r=true then (ym P N r).map (.again l) else (ym P N r).map (.seq .skip)
 | .scope c=>if ul c=true then none else ym P N c
 | .label _=>some .skip
 | .ret=>some .ret
 | _=>none
def lL (draw:Bool):AOp→AOp
 | .appendU sz b=>.append sz b
 | .mksliceU sz n z ps=>if draw=true then .mksliceU sz n z ps else .mkslice sz n z ps
 | .callI f=>if draw=true then .callI f else .call f
 | .callvI=>if draw=true then .callvI else .callv
 | op=>op
def yl (draw:Bool) (o:zi):zi:={o with op:=lL draw o.op}
def bare:ze→ze
 | .region draw _ ops _ _=>.region draw [] (ops.map (yl draw)) [] []
 | .seq a b=>.seq (bare a) (bare b)
 | .cond c a b=>.cond c (bare a) (bare b)
 | .block id c=>.block id (bare c)
 | .loop c=>.loop (bare c)
 | .again l c=>.again l (bare c)
 | c=>c
section
variable {P:Program} {I:Nat→Nat→Prop} {w:World} {β:zR} {lam:ya}
theorem addr_add (b o j:Nat):(⟨b,o,none⟩:Addr).add j=⟨b,o+j,none⟩:=by
 unfold Addr.add
 split<;>simp_all
theorem XN (v:Value):R0 I w (xc v) v:=by
 unfold xc
 split
 ·exact .listNil 0 .full none 0 (fun _=>rfl) (by simp)
 ·exact .val _
theorem Kh (v:Value):R0 I w (ofV v) v:=by
 cases v with
 | agg cs =>
  simp only[ofV]
  split
  ·rename_i h1
   refine .agg _ cs (by simp) h1 fun i c hc=>?_
   simp only[List.getElem?_map,Option.map_eq_some_iff] at hc
   obtain ⟨u,hu,rfl⟩:=hc
   have:cs.getD i undef=u:=by simp at hu; simp[hu]
   rw[this]
   exact XN u
  ·exact .undef _
 | tuple vs=>exact .val _
 | _=>simp only[ofV]; exact XN _
theorem Z7 (v:Value):R I w β lam (ofV v) v:=.base (Kh v)
theorem yv (v:Value):R I w β lam .undef v:=.base (.undef v)
theorem uh (v:Value):R I w β lam (.val v) v:=.base (.val v)
theorem R0.val_eq {u v:Value} (h:R0 I w (.val u) v):v=u:=by
 cases h; rfl
theorem R.val_eq {u v:Value} (h:R I w β lam (.val u) v):v=u:=by
 cases h with
 | base h=>exact h.val_eq
theorem R0.agg_inv {cells:List AV} {v:Value} (h:R0 I w (.agg cells) v) :
  ∃ vs:Array Value,v=.agg vs∧vs.size=cells.length∧vs.all (·.oneCell')=true∧∀ i c,cells[i]?=some c→R0 I w c (vs.getD i Go.undef):=by
 cases h with
 | agg _ vs hs h1 hc=>exact ⟨vs,rfl,hs,h1,hc⟩
theorem R.agg_inv {cells:List AV} {v:Value} (h:R I w β lam (.agg cells) v) :
  ∃ vs:Array Value,v=.agg vs∧vs.size=cells.length∧vs.all (·.oneCell')=true∧∀ i c,cells[i]?=some c→R0 I w c (vs.getD i undef):=by
 cases h with
 | base h=>exact h.agg_inv
theorem R.tuple_inv {cells:List AV} {v:Value} (h:R I w β lam (.tuple cells) v) :
  ∃ vs:Array Value,v=.tuple vs∧vs.size=cells.length∧∀ i c,cells[i]?=some c→R I w β lam c (vs.getD i undef):=by
 cases h with
 | base h=>cases h with
  | tuple _ vs hs hc=>exact ⟨vs,rfl,hs,fun i c hi=>.base (hc i c hi)⟩
 | tuple _ vs hs _ hc=>exact ⟨vs,rfl,hs,hc⟩
theorem R0.strip_eq {x:AV} {v:Value} (h:R0 I w x v):strip x=x:=by
 cases h with
 | listNil sz m a cap hm ho=>cases m<;>first | rfl | exact absurd rfl (ho _)
 | list sz m rows b o cap g hcap hm ho=>cases m<;>first | rfl | exact absurd rfl (ho _)
 | _=>rfl
theorem R.to0 {x:AV} {v:Value} (h:R I w β lam x v) (hr:rf x=true):R0 I w (strip x) v:=by
 cases h with
 | base h=>rw[h.strip_eq]; exact h
 | own sz l rows a cap h hl=>exact h
 | ptr=>simp[rf] at hr
 | eptr=>simp[rf] at hr
 | sl=>simp[rf] at hr
 | fn=>simp[rf] at hr
 | us=>simp[rf] at hr
 | up=>simp[rf] at hr
 | tuple=>simp[rf] at hr
 | mp=>simp[rf] at hr
 | litNil=>simp[rf] at hr
 | lit=>simp[rf] at hr
 | raw=>simp[rf] at hr
theorem a0 (x:AV):strip (strip x)=strip x:=by
 cases x<;>try rfl
 rename_i sz m rows
 cases m<;>rfl
theorem R.strip {x:AV} {v:Value} (h:R I w β lam x v):R I w β lam (strip x) v:=by
 cases h with
 | base h=>rw[h.strip_eq]; exact .base h
 | own sz l rows a cap h hl=>exact .base h
 | ptr k off b h=>exact .ptr k off b h
 | eptr k sz i off b h=>exact .eptr k sz i off b h
 | sl k sz off len cap b av h hc ha=>exact .sl k sz off len cap b av h hc ha
 | fn f caps vs hs hn hc=>exact .fn f caps vs hs hn hc
 | us l sz off len cap cp a av h hc ho ha=>exact .us l sz off len cap cp a av h hc ho ha
 | up l sz i off cap b o h=>exact .up l sz i off cap b o h
 | tuple cells vs hs hn hc=>exact .tuple cells vs hs hn hc
 | mp k b h=>exact .mp k b h
 | litNil sz a=>exact .litNil sz a
 | lit sz rows b o g hrow hcell hc=>exact .lit sz rows b o g hrow hcell hc
 | raw cells vs hs h1 hc=>exact .raw cells vs hs h1 hc
theorem Zt {vs:Array Value} (h:vs.all (·.oneCell')=true) {i:Nat} (hi:i<vs.size):single (vs.getD i undef)=true:=by
 have:=Array.all_eq_true.1 h i hi
 simpa [hi] using this
theorem R.raw_inv {cells:List AV} {v:Value} (h:R I w β lam (.raw cells) v) :
  ∃ vs:Array Value,v=.agg vs∧vs.size=cells.length∧vs.all (·.oneCell')=true∧∀ i c,cells[i]?=some c→R I w β lam c (vs.getD i undef):=by
 cases h with
 | base h=>cases h
 | raw _ vs hs h1 hc=>exact ⟨vs,rfl,hs,h1,hc⟩
theorem R.mp_inv {k:Nat} {v:Value} (h:R I w β lam (.mp k) v):∃ b,β k=some b∧v=.map (some b):=by
 cases h with
 | base h=>cases h
 | mp _ b h=>exact ⟨b,h,rfl⟩
theorem R.lit_len {sz:Nat} {rows:List (List AV)} {v:Value} (h:R I w β lam (.lit sz rows) v):∃ a,v=.slice a rows.length rows.length:=by
 cases h with
 | base h=>cases h
 | litNil _ a=>exact ⟨a,rfl⟩
 | lit _ _ b o=>exact ⟨_,rfl⟩
theorem R.lit_low {sz:Nat} {rows:List (List AV)} {v:Value} (h:R I w β lam (.lit sz rows) v) (hr:xB rows=true):R0 I w (.list sz .full (zQ rows)) v:=by
 have hlen:(zQ rows).length=rows.length:=by simp[zQ]
 cases h with
 | base h=>cases h
 | litNil _ a=>exact .listNil sz .full a 0 (fun _=>rfl) (by simp)
 | lit _ _ b o g hrow hcell hc =>
  have get:∀ (i:Nat) (r:List AV),(zQ rows)[i]?=some r→∃ r0,rows[i]?=some r0∧r=r0.map Am.strip:=fun i r hi=>by
   simp only[zQ,List.getElem?_map,Option.map_eq_some_iff] at hi
   obtain ⟨r0,h,rfl⟩:=hi
   exact ⟨r0,h,rfl⟩
  rw[← hlen]
  refine .list sz .full (zQ rows) b o _ g (Nat.le_refl _) (fun _=>rfl) (by simp) (fun i r hi=>?_) (fun i r j c hi hj=>?_) fun i r j c hi hj=>?_
  ·obtain ⟨r0,g1,rfl⟩:=get i r hi
   rw[List.length_map]; exact hrow i r0 g1
  ·obtain ⟨r0,g1,rfl⟩:=get i r hi
   simp only[List.getElem?_map,Option.map_eq_some_iff] at hj
   obtain ⟨c0,hj,rfl⟩:=hj
   exact hcell i r0 j c0 g1 hj
  ·obtain ⟨r0,g1,rfl⟩:=get i r hi
   simp only[List.getElem?_map,Option.map_eq_some_iff] at hj
   obtain ⟨c0,hj,rfl⟩:=hj
   refine (hc i r0 j c0 g1 hj).to0 ?_
   have h1:=List.all_eq_true.1 hr r0 (List.mem_iff_getElem?.2 ⟨i,g1⟩)
   exact List.all_eq_true.1 h1 c0 (List.mem_iff_getElem?.2 ⟨j,hj⟩)
theorem lw {x:AV} {cs:List AV} {v:Value} (hx:cellsOf x=some cs) (h:R I w β lam x v) :
  v.cells.size=cs.length∧∀ j c,cs[j]?=some c→R I w β lam c (v.cells.getD j undef)∧single (v.cells.getD j undef)=true:=by
 have one:∀ {y:AV},cs=[y]→R I w β lam y v→single v=true →
   v.cells.size=cs.length∧∀ j c,cs[j]?=some c→R I w β lam c (v.cells.getD j undef)∧single (v.cells.getD j undef)=true:=by
  intro y e hy h1
  subst e
  have hv:v.cells=#[v]:=by cases v<;>first | rfl | simp[single,Value.oneCell'] at h1
  rw[hv]
  refine ⟨rfl,fun j c hj=>?_⟩
  cases j with
  | zero=>simp at hj; subst hj; exact ⟨hy,h1⟩
  | succ j=>simp at hj
 cases x<;>simp only[cellsOf,reduceCtorEq,Option.some.injEq] at hx
 ·rename_i u
  split at hx
  ·rename_i h1
   simp only[Option.some.injEq] at hx
   exact one hx.symm h (by rw[h.val_eq]; exact h1)
  ·simp at hx
 ·subst hx
  obtain ⟨vs,rfl,hs,h1,hc⟩:=h.agg_inv
  refine ⟨hs,fun j c hj=>⟨.base (hc j c hj),Zt h1 ?_⟩⟩
  have:=(List.getElem?_eq_some_iff.1 hj).1
  omega
 case lit sz rows =>
  split at hx
  ·rename_i hr
   simp only[Option.some.injEq] at hx
   have h0:=h.lit_low hr
   exact one hx.symm (.base h0) (by generalize zQ rows=rr at h0; cases h0<;>rfl)
  ·cases hx
 case raw cells =>
  subst hx
  obtain ⟨vs,rfl,hs,h1,hc⟩:=h.raw_inv
  refine ⟨hs,fun j c hj=>⟨hc j c hj,Zt h1 ?_⟩⟩
  have:=(List.getElem?_eq_some_iff.1 hj).1
  omega
 all_goals
  refine one hx.symm h ?_
  cases h with
  | base h=>cases h<;>first | rfl | exact Rs _ _
  | _=>first | rfl | exact Rs _ _
theorem aar:∀ {cells:List AV} {l:List Value} {vs:Array Value} (_:sX cells=some l) (_:vs.size=cells.length)
  (_:∀ i c,cells[i]?=some c→R0 I w c (vs.getD i undef)),vs.toList=l:=by
 intro cells
 induction cells with
 | nil =>
  intro l vs h hs _
  simp[sX] at h
  subst h
  simpa using hs
 | cons x cells ih =>
  intro l vs h hs hc
  cases x<;>simp only[sX,reduceCtorEq,Option.map_eq_some_iff] at h
  rename_i v
  obtain ⟨l',hl',rfl⟩:=h
  obtain ⟨vl⟩:=vs
  cases vl with
  | nil=>simp at hs
  | cons y vl =>
   have h0:=(hc 0 _ rfl).val_eq
   simp at h0
   subst h0
   have:=ih (vs:=⟨vl⟩) hl' (by simpa using hs) (fun i c hi=>by simpa using hc (i+1) c (by simpa using hi))
   simp at this
   simp[this]
theorem gL {x:AV} {u v:Value} (h:toV x=some u) (hR:R I w β lam x v):v=u:=by
 cases x<;>simp only[toV,reduceCtorEq,Option.some.injEq,Option.map_eq_some_iff] at h
 ·subst h; exact hR.val_eq
 ·obtain ⟨l,hl,rfl⟩:=h
  obtain ⟨vs,rfl,hs,_,hc⟩:=hR.agg_inv
  rw[← aar hl hs hc]
structure Eff (w:World) (I:Nat→Nat→Prop) (β:zR) (lam:ya) (d:Nat) (x:AV) (en:Option zb) (v:Value) (w':World)
  (I':Nat→Nat→Prop) (β':zR):Prop where
 below:Below w.heap.size w w'
 sub:∀ b o,I b o→I' b o
 new:∀ b o,I' b o→I b o∨(w.heap.size≤b∧b<w'.heap.size)
 old:en=none→β'=β
 fresh:∀ ed,en=some ed→∃ nb,w.heap.size≤nb∧nb<w'.heap.size∧(∀ o,¬ I' nb o)∧β d=none ∧
  β'=(fun k=>if k=d then some nb else β k)∧RE I' w' β' lam nb ed
 val:R I' w' β' lam x v
theorem Eff.same {d:Nat} {x:AV} {v:Value} (h:R I w β lam x v):Eff w I β lam d x none v w I β :=
 ⟨Below.refl _ _,fun _ _ h=>h,fun _ _ h=>.inl h,fun _=>rfl,fun _ h=>by simp at h,h⟩
variable {o:Oper} {a:Act} {K:Act→World→Prop} {Q:Exit→Act→World→Prop}
theorem ub {v:Value} {w':World} (h:(execOp a.eval o).run P w=.ok (.value v) w') (hk:K (a.put o.dst v) w'):o.wp P a w K Q:=by
 unfold Oper.wp
 rw[h]
 exact hk
theorem wz {s:Sem Value} {v:Value} {w':World} (h:s.run P w=.ok v w') :
  (do pure (Next.value (← s)):Sem Next).run P w=.ok (.value v) w':=by
 rw[Sem.run_bind,h]; rfl
theorem mC {s:Sem Unit} {w':World} (h:s.run P w=.ok () w') :
  (do s; pure Next.skip:Sem Next).run P w=.ok .skip w':=by
 rw[Sem.run_bind,h]; rfl
theorem aJ {t:TypeId} {s:Nat} {d:TypeDesc} {cells:List AV} {off b o:Nat} {x:AV} (hu:P.underlying t=some d) (hd:d.isRow=true)
  (hs:szT P t=some s) (hl:zP cells off (some s)=some x)
  (hc:∀ j c,cells[j]?=some c→∃ v,w.cell? ⟨b,o+j,none⟩=some v∧single v=true∧R I w β lam c v) :
  ∃ v,(Instr.loadAt t (.pointer (some ⟨b,o+off,none⟩))).run P w=.ok v w∧R I w β lam x v:=by
 simp only[zP] at hl
 split at hl
 ·rename_i hcond
  simp only[Option.some.injEq] at hl
  subst hl
  have key:∀ j,j<s→∃ v,w.cell? ⟨b,o+off+j,none⟩=some v∧single v=true∧∃ c,((cells.drop off).take s)[j]?=some c∧R0 I w (strip c) v:=by
   intro j hj
   have hlt:off+j<cells.length:=by omega
   obtain ⟨v,h1,h1',h2⟩:=hc (off+j) cells[off+j] (by simp[hlt])
   refine ⟨v,by rw[← h1]; congr 2; omega,h1',cells[off+j],by simp[hj,hlt],h2.to0 ?_⟩
   exact List.all_eq_true.1 hcond.2 _ (List.mem_iff_getElem?.2 ⟨j,by simp[hj,hlt]⟩)
  have hex:∃ cs:List Value,cs.length=s∧∀ j,j<s→w.cell? ⟨b,o+off+j,none⟩=some (cs.getD j undef):=by
   refine ⟨(List.range s).map fun j=>(w.cell? ⟨b,o+off+j,none⟩).getD undef,by simp,fun j hj=>?_⟩
   obtain ⟨v,h1,_⟩:=key j hj
   simp[hj,h1]
  obtain ⟨cs,hlen,hcs⟩:=hex
  refine ⟨.agg cs.toArray,run_loadAt_mid w b (o+off) t cs d (fun j v hj=>?_) hu hd (by rw[hlen]; exact hs),?_⟩
  ·have hj':j<cs.length:=(List.getElem?_eq_some_iff.1 hj).1
   rw[hcs j (by omega)]
   simp[hj]
  ·refine .base (.agg _ _ (by simp[hlen]; omega) ?_ fun i c hi=>?_)
   ·refine Array.all_eq_true.2 fun i hi=>?_
    have hi':i<s:=by simpa [hlen] using hi
    obtain ⟨v,h1,h1',_⟩:=key i hi'
    rw[hcs i hi'] at h1
    have hi2:i<cs.length:=by omega
    simp[hi2] at h1
    simpa [h1] using h1'
   ·simp only[List.getElem?_map,Option.map_eq_some_iff] at hi
    obtain ⟨c',hi,rfl⟩:=hi
    have his:i<s:=by
     have:=(List.getElem?_eq_some_iff.1 hi).1
     simp at this; omega
    obtain ⟨v,h1,h1',c2,h2,h3⟩:=key i his
    rw[hcs i his] at h1
    rw[hi] at h2
    simp at h1 h2
    subst h2
    simpa [h1] using h3
 ·split at hl
  rotate_left
  ·cases hl
  rename_i hle
  simp only[Option.some.injEq] at hl
  subst hl
  have key:∀ j,j<s→∃ v,w.cell? ⟨b,o+off+j,none⟩=some v∧single v=true∧∃ c,((cells.drop off).take s)[j]?=some c∧R I w β lam c v:=by
   intro j hj
   have hlt:off+j<cells.length:=by omega
   obtain ⟨v,h1,h1',h2⟩:=hc (off+j) cells[off+j] (by simp[hlt])
   exact ⟨v,by rw[← h1]; congr 2; omega,h1',cells[off+j],by simp[hj,hlt],h2⟩
  have hex:∃ cs:List Value,cs.length=s∧∀ j,j<s→w.cell? ⟨b,o+off+j,none⟩=some (cs.getD j undef):=by
   refine ⟨(List.range s).map fun j=>(w.cell? ⟨b,o+off+j,none⟩).getD undef,by simp,fun j hj=>?_⟩
   obtain ⟨v,h1,_⟩:=key j hj
   simp[hj,h1]
  obtain ⟨cs,hlen,hcs⟩:=hex
  refine ⟨.agg cs.toArray,run_loadAt_mid w b (o+off) t cs d (fun j v hj=>?_) hu hd (by rw[hlen]; exact hs),?_⟩
  ·have hj':j<cs.length:=(List.getElem?_eq_some_iff.1 hj).1
   rw[hcs j (by omega)]
   simp[hj]
  ·refine .raw _ _ (by simp[hlen]; omega) ?_ fun i c hi=>?_
   ·refine Array.all_eq_true.2 fun i hi=>?_
    have hi':i<s:=by simpa [hlen] using hi
    obtain ⟨v,h1,h1',_⟩:=key i hi'
    rw[hcs i hi'] at h1
    have hi2:i<cs.length:=by omega
    simp[hi2] at h1
    simpa [h1] using h1'
   ·have his:i<s:=by
     have:=(List.getElem?_eq_some_iff.1 hi).1
     simp at this; omega
    obtain ⟨v,h1,h1',c2,h2,h3⟩:=key i his
    rw[hcs i his] at h1
    rw[hi] at h2
    simp at h1 h2
    subst h2
    simpa [h1] using h3
theorem Zy {t:TypeId} {n:Option Nat} {cells:List AV} {off b o:Nat} {x:AV} (ht:ldT P t=some n) (hl:zP cells off n=some x)
  (hc:∀ j c,cells[j]?=some c→∃ v,w.cell? ⟨b,o+j,none⟩=some v∧single v=true∧R I w β lam c v) :
  ∃ v,(Instr.loadAt t (.pointer (some ⟨b,o+off,none⟩))).run P w=.ok v w∧R I w β lam x v:=by
 unfold ldT at ht
 split at ht
 ·simp at ht
 ·rename_i fs hu
  simp only[Option.map_eq_some_iff] at ht
  obtain ⟨s,hs,rfl⟩:=ht
  exact aJ hu rfl hs hl hc
 ·rename_i n' e hu
  simp only[Option.map_eq_some_iff] at ht
  obtain ⟨s,hs,rfl⟩:=ht
  exact aJ hu rfl hs hl hc
 ·rename_i d hns hna hu
  simp only[Option.some.injEq] at ht
  subst ht
  simp only[zP] at hl
  obtain ⟨v,h1,_,h2⟩:=hc off x hl
  refine ⟨v,?_,h2⟩
  have hagg:(isAgg t).run P w=.ok false w:=by
   unfold isAgg
   rw[Sem.run_bind,run_underlying hu w]
   cases d with
   | struct fs=>exact absurd rfl (hns fs)
   | array n e=>exact absurd rfl (hna n e)
   | _=>rfl
  simp[Instr.loadAt,Instr.sureAddr,loadVar,Sem.run_bind,hagg,h1]
end
section
variable {P:Program} {I:Nat→Nat→Prop} {w:World} {β:zR} {lam:ya} {o:Oper} {a:Act} {K:Act→World→Prop}
  {Q:Exit→Act→World→Prop} {d:Nat} {k:AV→Option zb→Prop}
abbrev yp (w:World) (I:Nat→Nat→Prop) (β:zR) (lam:ya) (d:Nat) (k:AV→Option zb→Prop) (a:Act) (dst:Option Nat) (K:Act→World→Prop):Prop :=
 ∀ x en v w' I' β',k x en→Eff w I β lam d x en v w' I' β'→K (a.put dst v) w'
theorem R.later {I':Nat→Nat→Prop} {w':World} {β':zR} (hI:∀ b o,I b o→b<w.heap.size) (hb:Below w.heap.size w w')
  (hs:∀ b o,I b o→I' b o) (hβ:∀ k b,β k=some b→β' k=some b) {x:AV} {v:Value} (h:R I w β lam x v):R I' w' β' lam x v :=
 h.mono hs (fun b o v hi hv=>by rw[hb.cell (p:=⟨b,o,none⟩) (hI _ _ hi)]; exact hv) hβ (fun _ _ h=>h)
theorem R0.later {I':Nat→Nat→Prop} {w':World} (hI:∀ b o,I b o→b<w.heap.size) (hb:Below w.heap.size w w')
  (hs:∀ b o,I b o→I' b o) {x:AV} {v:Value} (h:R0 I w x v):R0 I' w' x v :=
 h.mono hs (fun b o v hi hv=>by rw[hb.cell (p:=⟨b,o,none⟩) (hI _ _ hi)]; exact hv)
theorem zW {x:AV} {v:Value} (hr:(execOp a.eval o).run P w=.ok (.value v) w) (hR:R I w β lam x v) (h:k x none)
  (hk:yp w I β lam d k a o.dst K):o.wp P a w K Q:=ub hr (hk _ _ _ _ _ _ h (.same hR))
theorem Nz {cs:List AV} {vs:Array Value} {t:TypeId} (hI:∀ b o,I b o→b<w.heap.size) (hd:β d=none)
  (hs:vs.size=cs.length) (hc:∀ j c,cs[j]?=some c→R I w β lam c (vs.getD j undef)∧single (vs.getD j undef)=true) :
  Eff w I β lam d (.ptr d 0) (some (.var cs)) (.pointer (some ⟨w.heap.size,0,none⟩)) (w.alloc (.cells vs t)) I
   (fun k=>if k=d then some w.heap.size else β k):=by
 have hb:Below w.heap.size w (w.alloc (.cells vs t)):=(Below.refl _ _).alloc (Nat.le_refl _) _
 have hβ:∀ k b,β k=some b→(if k=d then some w.heap.size else β k)=some b:=fun k b h=>by
  by_cases e:k=d
  ·subst e; rw[hd] at h; cases h
  ·rw[if_neg e]; exact h
 refine ⟨hb,fun _ _ h=>h,fun _ _ h=>.inl h,(fun h=>by cases h),fun ed he=>?_,.ptr d 0 _ (by simp)⟩
 simp only[Option.some.injEq] at he
 subst he
 refine ⟨w.heap.size,Nat.le_refl _,by simp,fun o h=>Nat.lt_irrefl _ (hI _ _ h),hd,rfl,fun j c hj=>?_⟩
 obtain ⟨h1,h2⟩:=hc j c hj
 have hlt:j<vs.size:=by
  have:=(List.getElem?_eq_some_iff.1 hj).1
  omega
 refine ⟨vs.getD j undef,?_,?_,h2,h1.later hI hb (fun _ _ h=>h) hβ⟩
 ·rw[World.cell?_alloc_new]
  simp[hlt]
 ·rw[World.frozen?_alloc_new]
theorem DG {t:TypeId} {v:Value} (h:(P.info? t).bind (·.zero)=some v):(zeroValue t).run P w=.ok v w:=by
 cases hi:P.info? t with
 | none=>simp[hi] at h
 | some i =>
  simp[hi] at h
  simp[zeroValue,typeInfo,hi,h]
theorem cX {t:TypeId} {z:List AV} (h:wL P t=some z):∃ v:Value,(zeroValue t).run P w=.ok v w∧v.cells.all (·.oneCell')=true∧z=v.cells.toList.map xc:=by
 unfold wL at h
 cases hz:(P.info? t).bind (·.zero) with
 | none=>simp[hz] at h
 | some v =>
  simp only[hz,Option.bind_some] at h
  split at h
  ·rename_i h1
   simp only[Option.some.injEq] at h
   exact ⟨v,DG hz,h1,h.symm⟩
  ·cases h
theorem eO (v:Value) (h1:v.cells.all (·.oneCell')=true) :
  (v.cells.size=(v.cells.toList.map xc).length)∧∀ j c,(v.cells.toList.map xc)[j]?=some c→R0 I w c (v.cells.getD j undef)∧single (v.cells.getD j undef)=true:=by
 refine ⟨by simp,fun j c hj=>?_⟩
 simp only[List.getElem?_map,Option.map_eq_some_iff] at hj
 obtain ⟨u,hu,rfl⟩:=hj
 have hj':j<v.cells.size:=by simpa using (List.getElem?_eq_some_iff.1 hu).1
 have:v.cells.getD j undef=u:=by simp at hu; simp[hu]
 refine ⟨by rw[this]; exact XN u,Zt h1 hj'⟩
theorem GE {t:TypeId} {z:List AV} (ho:o.op=.alloc t) (hz:wL P t=some z) (hI:∀ b o,I b o→b<w.heap.size) (hd:β d=none)
  (h:k (.ptr d 0) (some (.var z))) (hk:yp w I β lam d k a o.dst K):o.wp P a w K Q:=by
 obtain ⟨v,hv,h1,rfl⟩:=cX (w:=w) hz
 obtain ⟨hs,hc⟩:=eO (I:=I) (w:=w) v h1
 have hr:(execOp a.eval o).run P w=.ok (.value (.pointer (some ⟨w.heap.size,0,none⟩))) (w.alloc (.cells v.cells t)):=by
  simp[execOp,ho,Instr.alloc,hv,newVar,newRow]
 exact ub hr (hk _ _ _ _ _ _ h (Nz hI hd hs fun j c hj=>⟨.base (hc j c hj).1,(hc j c hj).2⟩))
theorem AJ {t:TypeId} {x:Operand} {X:AV} {cs:List AV} (ho:o.op=.box t x) (hx:R I w β lam X (a.eval x)) (hX:cellsOf X=some cs)
  (hI:∀ b o,I b o→b<w.heap.size) (hd:β d=none) (h:k (.ptr d 0) (some (.var cs))) (hk:yp w I β lam d k a o.dst K):o.wp P a w K Q:=by
 obtain ⟨hs,hc⟩:=lw hX hx
 have hr:(execOp a.eval o).run P w=.ok (.value (.pointer (some ⟨w.heap.size,0,none⟩))) (w.alloc (.cells (a.eval x).cells t)):=by
  simp[execOp,ho,Instr.box,newVar,newRow]
 exact ub hr (hk _ _ _ _ _ _ h (Nz hI hd hs hc))
theorem Mm {x:Operand} {X:AV} (ho:o.op=.move x∨o.op=.assign x) (hx:R I w β lam X (a.eval x)) (h:k X none)
  (hk:yp w I β lam d k a o.dst K):o.wp P a w K Q :=
 zW (v:=a.eval x) (by rcases ho with ho | ho<;>simp[execOp,ho]) hx h hk
theorem DY {c x y:Operand} {t:Bool} {X Y:AV} (ho:o.op=.pick c x y) (hc:R I w β lam (.val (.bool t)) (a.eval c)) (hx:R I w β lam X (a.eval x))
  (hy:R I w β lam Y (a.eval y)) (h1:t=true→k X none) (h2:t=false→k Y none) (hk:yp w I β lam d k a o.dst K):o.wp P a w K Q:=by
 have hc':=hc.val_eq
 cases t with
 | true=>exact zW (v:=a.eval x) (by simp[execOp,ho,hc',asBool]) hx (h1 rfl) hk
 | false=>exact zW (v:=a.eval y) (by simp[execOp,ho,hc',asBool]) hy (h2 rfl) hk
theorem kV {s:Sem Value} (hr:(execOp a.eval o).run P w=(do pure (Next.value (← s)):Sem Next).run P w) (h:yX (zr P s) k)
  (hk:yp w I β lam d k a o.dst K):o.wp P a w K Q:=by
 cases hs:zr P s with
 | none=>simp[hs,yX] at h
 | some v =>
  simp only[hs,yX] at h
  exact zW (v:=v) (by rw[hr,wz (wJ hs w)]) (Z7 v) h hk
theorem Xf {t e:TypeId} {p:Addr} (hu:P.underlying t=some (.pointer e)):(Op.equal t (.pointer (some p)) (.pointer none)).run P w=.ok false w:=by
 have:∀ d:Nat,(Op.equalIn (d+1) t (.pointer (some p)) (.pointer none)).run P w=.ok false w:=fun d=>by
  simp[Op.equalIn,run_underlying hu]
 exact this 9999
theorem NJ {x:AV} {v:Value} (hx:R I w β lam x v) (h:M3 x=true):∃ p,v=.pointer (some p):=by
 cases hx with
 | base h0=>cases h0<;>first | exact ⟨_,rfl⟩ | cases h
 | _=>first | exact ⟨_,rfl⟩ | cases h
theorem RB {t:TypeId} (h:YJ P t=true):∃ e,P.underlying t=some (.pointer e):=by
 unfold YJ at h
 split at h
 ·exact ⟨_,by assumption⟩
 ·cases h
theorem AI {op:BinOp} {t t':TypeId} {x y:Operand} {X Y:AV} (ho:o.op=.binOp op t x y t') (hx:R I w β lam X (a.eval x)) (hy:R I w β lam Y (a.eval y))
  (h:yi P op t x y [X,Y] k) (hk:yp w I β lam d k a o.dst K):o.wp P a w K Q:=by
 simp only[yi] at h
 split at h
 ·rename_i u v hu hv
  refine kV (s:=do eqGuard op t x y u v; binOp op t u v) ?_ h hk
  simp only[execOp,ho,gL hu hx,gL hv hy]
 ·unfold Gf at h
  split at h
  ·split at h
   ·rename_i hc
    obtain ⟨p,hp⟩:=NJ hx hc.1
    obtain ⟨e,hu⟩:=RB hc.2
    refine zW (v:=.bool false) ?_ (uh _) h hk
    have e1:binOp .eql t (.pointer (some p)) (.pointer none)=(do pure (.bool (← Op.equal t (.pointer (some p)) (.pointer none)))):=rfl
    have e2:(eqGuard .eql t x y (.pointer (some p)) (.pointer none)).run P w=.ok () w:=rfl
    simp only[execOp,ho,hp,hy.val_eq,e1,Sem.run_bind,e2,Result.andThen_ok,Xf hu,Sem.run_pure]
   ·exact h.elim
  ·split at h
   ·rename_i hc
    obtain ⟨p,hp⟩:=NJ hx hc.1
    obtain ⟨e,hu⟩:=RB hc.2
    refine zW (v:=.bool true) ?_ (uh _) h hk
    have e1:binOp .neq t (.pointer (some p)) (.pointer none)=(do pure (.bool (!(← Op.equal t (.pointer (some p)) (.pointer none))))):=rfl
    have e2:(eqGuard .neq t x y (.pointer (some p)) (.pointer none)).run P w=.ok () w:=rfl
    simp only[execOp,ho,hp,hy.val_eq,e1,Sem.run_bind,e2,Result.andThen_ok,Xf hu,Sem.run_pure,Bool.not_false]
   ·exact h.elim
  ·exact h.elim
theorem abD {op:UnOp} {t:TypeId} {x:Operand} {u:Value} (ho:o.op=.unOp op t x) (hx:R I w β lam (.val u) (a.eval x))
  (h:yX (zr P (Op.unary op u)) k) (hk:yp w I β lam d k a o.dst K):o.wp P a w K Q :=
 kV (s:=Op.unary op u) (by simp only[execOp,ho,hx.val_eq]) h hk
theorem DQ {s t:TypeId} {x:Operand} {u:Value} (ho:o.op=.convert s t x) (hx:R I w β lam (.val u) (a.eval x))
  (h:yX (zr P (convert s t u)) k) (hk:yp w I β lam d k a o.dst K):o.wp P a w K Q :=
 kV (s:=convert s t u) (by simp only[execOp,ho,hx.val_eq]) h hk
theorem DT {t:TypeId} {x i:Operand} {X:AV} {u v:Value} (ho:o.op=.index t x i) (hx:R I w β lam X (a.eval x)) (hX:toV X=some u) (hi:R I w β lam (.val v) (a.eval i))
  (h:yX (zr P (Instr.index t u v)) k) (hk:yp w I β lam d k a o.dst K):o.wp P a w K Q :=
 kV (s:=Instr.index t u v) (by simp only[execOp,ho,gL hX hx,hi.val_eq]) h hk
theorem wt {t:TypeId} {n:Nat} (h:szT P t=some n):(sizeOf t).run P w=.ok n w:=by
 unfold szT at h
 cases hi:P.info? t with
 | none=>simp[hi] at h
 | some i=>simp[hi] at h; simp[sizeOf,typeInfo,hi,h]
theorem jE {t:TypeId} {d:TypeDesc} (hu:P.underlying t=some d):(isAgg t).run P w=.ok d.isRow w:=by
 unfold isAgg
 rw[Sem.run_bind,run_underlying hu w]
 cases d<;>rfl
theorem Qa {t:TypeId} {n:Option Nat} {cells:List AV} {vs:Array Value} {off:Nat} {x:AV} (ht:ldT P t=some n) (hp:vS cells off n=some x)
  (hs:vs.size=cells.length) (h1:vs.all (·.oneCell')=true) (hc:∀ i c,cells[i]?=some c→R0 I w c (vs.getD i undef)) :
  ∃ v,(part t vs off).run P w=.ok v w∧R0 I w x v:=by
 have agg:∀ {d:TypeDesc} {s:Nat},P.underlying t=some d→d.isRow=true→szT P t=some s→vS cells off (some s)=some x →
   ∃ v,(part t vs off).run P w=.ok v w∧R0 I w x v:=by
  intro d s hu hd hsz hp
  simp only[vS] at hp
  split at hp
  ·rename_i hle
   simp only[Option.some.injEq] at hp
   subst hp
   refine ⟨.agg (vs.extract off (off+s)),by simp[part,jE hu,hd,wt hsz],.agg _ _ (by simp; omega) ?_ fun i c hi=>?_⟩
   ·refine Array.all_eq_true.2 fun i hi=>?_
    have hi':off+i<vs.size:=by simp at hi; omega
    have:=Array.all_eq_true.1 h1 (off+i) hi'
    simpa using this
   ·rw[List.getElem?_take] at hi
    split at hi
    ·rename_i hlt
     rw[List.getElem?_drop] at hi
     have:=hc (off+i) c hi
     have hi':off+i<vs.size:=by
      have:=(List.getElem?_eq_some_iff.1 hi).1
      omega
     have e:(vs.extract off (off+s)).getD i undef=vs.getD (off+i) undef:=by
      have h3:i<min (off+s) vs.size-off:=by omega
      simp[hi',h3]
     rw[e]; exact this
    ·cases hi
  ·cases hp
 unfold ldT at ht
 split at ht
 ·cases ht
 ·rename_i fs hu
  simp only[Option.map_eq_some_iff] at ht
  obtain ⟨s,hs',rfl⟩:=ht
  exact agg hu rfl hs' hp
 ·rename_i n' e hu
  simp only[Option.map_eq_some_iff] at ht
  obtain ⟨s,hs',rfl⟩:=ht
  exact agg hu rfl hs' hp
 ·rename_i d hns hna hu
  simp only[Option.some.injEq] at ht
  subst ht
  simp only[vS] at hp
  have hlt:off<vs.size:=by
   have:=(List.getElem?_eq_some_iff.1 hp).1
   omega
  have hrow:d.isRow=false:=by
   cases d with
   | struct fs=>exact absurd rfl (hns fs)
   | array n e=>exact absurd rfl (hna n e)
   | _=>rfl
  refine ⟨vs.getD off undef,?_,hc off x hp⟩
  simp[part,jE hu,hrow,hlt]
theorem J9 {t:TypeId} {n:Option Nat} {cells:List AV} {vs:Array Value} {off:Nat} {x:AV} (ht:ldT P t=some n) (hp:zP cells off n=some x)
  (hs:vs.size=cells.length) (h1:vs.all (·.oneCell')=true) (hc:∀ i c,cells[i]?=some c→R I w β lam c (vs.getD i undef)) :
  ∃ v,(part t vs off).run P w=.ok v w∧R I w β lam x v:=by
 have agg:∀ {d:TypeDesc} {s:Nat},P.underlying t=some d→d.isRow=true→szT P t=some s→zP cells off (some s)=some x →
   ∃ v,(part t vs off).run P w=.ok v w∧R I w β lam x v:=by
  intro d s hu hd hsz hp
  have get:off+s≤cells.length→∀ i c,((cells.drop off).take s)[i]?=some c→R I w β lam c ((vs.extract off (off+s)).getD i undef):=fun hle i c hi=>by
   rw[List.getElem?_take] at hi
   split at hi
   ·rename_i hlt
    rw[List.getElem?_drop] at hi
    have:=hc (off+i) c hi
    have hi':off+i<vs.size:=by
     have:=(List.getElem?_eq_some_iff.1 hi).1
     omega
    have e:(vs.extract off (off+s)).getD i undef=vs.getD (off+i) undef:=by
     have h3:i<min (off+s) vs.size-off:=by omega
     simp[hi',h3]
    rw[e]; exact this
   ·cases hi
  have one:(vs.extract off (off+s)).all (·.oneCell')=true:=by
   refine Array.all_eq_true.2 fun i hi=>?_
   have hi':off+i<vs.size:=by simp at hi; omega
   have:=Array.all_eq_true.1 h1 (off+i) hi'
   simpa using this
  have run:(part t vs off).run P w=.ok (.agg (vs.extract off (off+s))) w:=by simp[part,jE hu,hd,wt hsz]
  simp only[zP] at hp
  split at hp
  ·rename_i hcond
   simp only[Option.some.injEq] at hp
   subst hp
   refine ⟨_,run,.base (.agg _ _ (by simp; omega) one fun i c hi=>?_)⟩
   simp only[List.getElem?_map,Option.map_eq_some_iff] at hi
   obtain ⟨c',hi,rfl⟩:=hi
   exact (get hcond.1 i c' hi).to0 (List.all_eq_true.1 hcond.2 _ (List.mem_iff_getElem?.2 ⟨i,hi⟩))
  ·split at hp
   ·rename_i hle
    simp only[Option.some.injEq] at hp
    subst hp
    exact ⟨_,run,.raw _ _ (by simp; omega) one fun i c hi=>get hle i c hi⟩
   ·cases hp
 unfold ldT at ht
 split at ht
 ·cases ht
 ·rename_i fs hu
  simp only[Option.map_eq_some_iff] at ht
  obtain ⟨s,hs',rfl⟩:=ht
  exact agg hu rfl hs' hp
 ·rename_i n' e hu
  simp only[Option.map_eq_some_iff] at ht
  obtain ⟨s,hs',rfl⟩:=ht
  exact agg hu rfl hs' hp
 ·rename_i d hns hna hu
  simp only[Option.some.injEq] at ht
  subst ht
  simp only[zP] at hp
  have hlt:off<vs.size:=by
   have:=(List.getElem?_eq_some_iff.1 hp).1
   omega
  have hrow:d.isRow=false:=by
   cases d with
   | struct fs=>exact absurd rfl (hns fs)
   | array n e=>exact absurd rfl (hna n e)
   | _=>rfl
  refine ⟨vs.getD off undef,?_,hc off x hp⟩
  simp[part,jE hu,hrow,hlt]
theorem LG {t:TypeId} {x:Operand} {i:Nat} {fs:Array Field} {f:Field} {n:Option Nat} {cells:List AV} (ho:o.op=.field t x i) (hf:vz P t=some fs) (hi:fs[i]?=some f)
  (hn:ldT P f.type=some n) (hx:R I w β lam (.raw cells) (a.eval x)) (h:xI (zP cells f.offset n) k) (hk:yp w I β lam d k a o.dst K):o.wp P a w K Q:=by
 obtain ⟨vs,hv,hs,h1,hc⟩:=hx.raw_inv
 cases hp:zP cells f.offset n with
 | none=>simp[hp,xI] at h
 | some y =>
  simp only[hp,xI] at h
  obtain ⟨v,hr,hR⟩:=J9 (I:=I) (w:=w) hn hp hs h1 hc
  have hu:P.underlying t=some (.struct fs):=by
   unfold vz at hf
   split at hf<;>simp_all
  refine zW (v:=v) ?_ hR h hk
  simp[execOp,ho,hv,Instr.field,run_underlying hu,hi,asAgg,hr]
theorem GN {t:TypeId} (ho:o.op=.makeMap t none) (hI:∀ b o,I b o→b<w.heap.size) (hd:β d=none) (h:k (.mp d) (some (.map #[] 0))) (hk:yp w I β lam d k a o.dst K):o.wp P a w K Q:=by
 have hr:(execOp a.eval o).run P w=.ok (.value (.map (some w.heap.size))) (w.alloc (.map #[] 0)):=by
  simp only[execOp,ho,Option.map_none]
  exact wz (by simp[Instr.makeMap,newObj]; rfl)
 have hb:Below w.heap.size w (w.alloc (.map #[] 0)):=(Below.refl _ _).alloc (Nat.le_refl _) _
 refine ub hr (hk _ _ _ _ I (fun k=>if k=d then some w.heap.size else β k) h ⟨hb,fun _ _ h=>h,fun _ _ h=>.inl h,(fun h=>by cases h),fun ed he=>?_,.mp d _ (by simp)⟩)
 simp only[Option.some.injEq] at he
 subst he
 have e:(w.alloc (.map #[] 0)).heap=w.heap.push (.map #[] 0):=rfl
 refine ⟨w.heap.size,Nat.le_refl _,?_,fun o h=>Nat.lt_irrefl _ (hI _ _ h),hd,rfl,?_⟩
 ·rw[e]; simp
 ·show (w.alloc (.map #[] 0)).heap[w.heap.size]?=_
  rw[e]; simp
theorem Jc {t:TypeId} {kv v:Value} {es:Array MapEntry} {clock b:Nat} {p ok:Bool} (hf:Si P t kv es=some (v,p)) (hb:w.heap[b]?=some (.map es clock)) :
  (Instr.lookup t (.map (some b)) kv ok).run P w=.ok (if ok then .tuple #[v,.bool p] else v) w:=by
 unfold Si at hf
 split at hf
 ·rename_i key elem hu
  split at hf
  ·rename_i hk
   have h1:=wJ hk w
   split at hf
   ·rename_i i v' hfk
    have h2:=wJ hfk w
    simp only[Option.some.injEq,Prod.mk.injEq] at hf
    obtain ⟨rfl,rfl⟩:=hf
    simp[Instr.lookup,run_underlying hu,getObj,Sem.run,hb,Sem.run_bind,h1,h2]
   ·rename_i hfk
    have h2:=wJ hfk w
    simp only[Option.map_eq_some_iff,Prod.mk.injEq] at hf
    obtain ⟨z,hz,rfl,rfl⟩:=hf
    have h3:=wJ hz w
    simp[Instr.lookup,run_underlying hu,getObj,Sem.run,hb,Sem.run_bind,h1,h2,h3]
   ·cases hf
  ·cases hf
 ·cases hf
theorem LJ {t:TypeId} {x i:Operand} {ok:Bool} {X Y:AV} {σ:Nat→Option zb} (ho:o.op=.lookup t x i ok) (hx:R I w β lam X (a.eval x)) (hi:R I w β lam Y (a.eval i))
  (hσ:∀ k en b,σ k=some en→β k=some b→RE I w β lam b en) (h:rk P t ok σ [X,Y] k) (hk:yp w I β lam d k a o.dst K):o.wp P a w K Q:=by
 unfold rk at h
 split at h
 ·rename_i j Y' heq
  simp only[List.cons.injEq,and_true] at heq
  obtain ⟨rfl,rfl⟩:=heq
  split at h
  ·rename_i es clock kv hs hy
   obtain ⟨b,hb,hv⟩:=hx.mp_inv
   have hE:w.heap[b]?=some (.map es clock):=hσ _ _ _ hs hb
   have hkv:=gL hy hi
   split at h
   ·rename_i v p hf
    have hr:=Jc (ok:=ok) hf hE
    refine zW (v:=if ok then .tuple #[v,.bool p] else v) ?_ ?_ h hk
    ·simp only[execOp,ho,hv,hkv]
     exact wz hr
    ·cases ok
     ·exact Z7 v
     ·refine .base (.tuple _ _ (by simp) fun i c hc=>?_)
      match i,hc with
      | 0,hc=>simp at hc; subst hc; exact Kh v
      | 1,hc=>simp at hc; subst hc; exact .val _
   ·exact h.elim
  ·exact h.elim
 ·exact h.elim
theorem GM {t:TypeId} {x:Operand} {i:Nat} {fs:Array Field} {f:Field} {n:Option Nat} {cells:List AV} (ho:o.op=.field t x i) (hf:vz P t=some fs) (hi:fs[i]?=some f)
  (hn:ldT P f.type=some n) (hx:R I w β lam (.agg cells) (a.eval x)) (h:xI (vS cells f.offset n) k) (hk:yp w I β lam d k a o.dst K):o.wp P a w K Q:=by
 obtain ⟨vs,hv,hs,h1,hc⟩:=hx.agg_inv
 cases hp:vS cells f.offset n with
 | none=>simp[hp,xI] at h
 | some y =>
  simp only[hp,xI] at h
  obtain ⟨v,hr,hR⟩:=Qa (I:=I) (w:=w) hn hp hs h1 hc
  have hu:P.underlying t=some (.struct fs):=by
   unfold vz at hf
   split at hf<;>simp_all
  refine zW (v:=v) ?_ (.base hR) h hk
  simp[execOp,ho,hv,Instr.field,run_underlying hu,hi,asAgg,hr]
theorem DS {t e:TypeId} {len esz:Nat} {x i:Operand} {n:Option Nat} {cells:List AV} {ik:IntKind} {j:Int} (ho:o.op=.index t x i) (ha:gT P t=some (len,e)) (he:szT P e=some esz)
  (hn:ldT P e=some n) (hx:R I w β lam (.agg cells) (a.eval x)) (hi:R I w β lam (.val (.int ik j)) (a.eval i)) (h0:0≤j) (h1:j<len)
  (h:xI (vS cells (j.toNat * esz) n) k) (hk:yp w I β lam d k a o.dst K):o.wp P a w K Q:=by
 obtain ⟨vs,hv,hs,h1',hc⟩:=hx.agg_inv
 cases hp:vS cells (j.toNat * esz) n with
 | none=>simp[hp,xI] at h
 | some y =>
  simp only[hp,xI] at h
  obtain ⟨v,hr,hR⟩:=Qa (I:=I) (w:=w) hn hp hs h1' hc
  have hu:P.underlying t=some (.array len e):=by
   unfold gT at ha
   split at ha<;>simp_all
  refine zW (v:=v) ?_ (.base hR) h hk
  simp[execOp,ho,hv,hi.val_eq,Instr.index,asIntOf,run_underlying hu,h0,h1,wt he,hr]
theorem PQ {x:Operand} {i:Nat} {cells:List AV} (ho:o.op=.extract x i) (hx:R I w β lam (.tuple cells) (a.eval x)) (h:xI cells[i]? k)
  (hk:yp w I β lam d k a o.dst K):o.wp P a w K Q:=by
 obtain ⟨vs,hv,hs,hc⟩:=hx.tuple_inv
 cases hp:cells[i]? with
 | none=>simp[hp,xI] at h
 | some y =>
  simp only[hp,xI] at h
  have hlt:i<vs.size:=by
   have:=(List.getElem?_eq_some_iff.1 hp).1
   omega
  refine zW (v:=vs.getD i undef) ?_ (hc i y hp) h hk
  simp[execOp,ho,hv,Instr.extract,hlt]
theorem R.fn_inv {f:Fn} {caps:List AV} {v:Value} (h:R I w β lam (.fn f caps) v) :
  ∃ vs:Array Value,v=fF f vs∧vs.size=caps.length∧∀ i c,caps[i]?=some c→R I w β lam c (vs.getD i Go.undef):=by
 cases h with
 | base h=>cases h with
  | fn _ _ vs hs hc=>exact ⟨vs,rfl,hs,fun i c hi=>.base (hc i c hi)⟩
 | fn _ _ vs hs _ hc=>exact ⟨vs,rfl,hs,hc⟩
theorem R.ptr_inv {j off:Nat} {v:Value} (h:R I w β lam (.ptr j off) v):∃ b,β j=some b∧v=.pointer (some ⟨b,off,none⟩):=by
 cases h with
 | base h=>cases h
 | ptr _ _ b h=>exact ⟨b,h,rfl⟩
theorem R.eptr_inv {j sz i off:Nat} {v:Value} (h:R I w β lam (.eptr j sz i off) v):∃ b,β j=some b∧v=.pointer (some ⟨b,i*sz+off,none⟩):=by
 cases h with
 | base h=>cases h
 | eptr _ _ _ _ b h=>exact ⟨b,h,rfl⟩
theorem R.sl_inv {j sz off len:Nat} {v:Value} (h:R I w β lam (.sl j sz off len) v) :
  ∃ b cap av,β j=some b∧v=.slice av len cap∧len≤cap∧(len≠0→av=some ⟨b,off*sz,none⟩):=by
 cases h with
 | base h=>cases h
 | sl _ _ _ _ cap b av h hc ha=>exact ⟨b,cap,av,h,rfl,hc,ha⟩
theorem R.us_inv {l sz off len:Nat} {v:Value} (h:R I w β lam (.us l sz off len) v) :
  ∃ cap cp a av,lam l=some (a,0,cap,sz)∧v=.slice av len cp∧len≤cp∧off+cp≤cap∧(cp≠0→∃ b o,a=some ⟨b,o,none⟩∧av=some ⟨b,o+off*sz,none⟩):=by
 cases h with
 | base h=>cases h
 | us _ _ _ _ cap cp a av h hc ho ha=>exact ⟨cap,cp,a,av,h,rfl,hc,ho,ha⟩
theorem R.up_inv {l sz i off:Nat} {v:Value} (h:R I w β lam (.up l sz i off) v) :
  ∃ cap b o,lam l=some (some ⟨b,o,none⟩,0,cap,sz)∧v=.pointer (some ⟨b,o+i*sz+off,none⟩):=by
 cases h with
 | base h=>cases h
 | up _ _ _ _ cap b o h=>exact ⟨cap,b,o,h,rfl⟩
theorem RU.row {l sz:Nat} {rows:List (List AV)} (h:RU I w β lam l sz rows) {cap b o:Nat} (hl:lam l=some (some ⟨b,o,none⟩,0,cap,sz)) {i:Nat} {r:List AV} (hi:rows[i]?=some r) :
  r.length=sz∧∀ j c,r[j]?=some c→∃ v,w.cell? ⟨b,o+i*sz+j,none⟩=some v∧single v=true∧R I w β lam c v:=by
 obtain ⟨a,cap',h1,h2,h3,h4⟩:=h
 rw[hl] at h1
 cases h1
 refine ⟨h3 i r hi,fun j c hj=>?_⟩
 obtain ⟨b',o',e,h5⟩:=h4 (by intro e; subst e; simp at hi)
 cases e
 exact h5 i r j c hi hj
theorem R.ro_inv {cells:List AV} {v:Value} (h:R I w β lam (.ro cells) v) :
  ∃ b o,v=.pointer (some ⟨b,o,none⟩)∧∀ j c,cells[j]?=some c→∃ u,I b (o+j)∧w.cell? ⟨b,o+j,none⟩=some u∧single u=true∧R0 I w c u:=by
 cases h with
 | base h=>cases h with
  | ro _ b o g hcell hc=>exact ⟨b,o,rfl,fun j c hj=>⟨g j,(hcell j c hj).1,(hcell j c hj).2.1,(hcell j c hj).2.2,hc j c hj⟩⟩
theorem R.ro_drop {cells:List AV} {b q:Nat} (h:∀ j c,cells[j]?=some c→∃ u,I b (q+j)∧w.cell? ⟨b,q+j,none⟩=some u∧single u=true∧R0 I w c u) (n:Nat) :
  R I w β lam (.ro (cells.drop n)) (.pointer (some ⟨b,q+n,none⟩)):=by
 refine .base (.ro _ b (q+n) (fun j=>(w.cell? ⟨b,q+n+j,none⟩).getD undef) (fun j c hj=>?_) (fun j c hj=>?_))
 ·rw[List.getElem?_drop] at hj
  obtain ⟨u,h1,h2,h3,_⟩:=h _ _ hj
  rw[← Nat.add_assoc] at h1 h2
  exact ⟨h1,by simp[h2],by simp[h2,h3]⟩
 ·rw[List.getElem?_drop] at hj
  obtain ⟨u,_,h2,_,h4⟩:=h _ _ hj
  rw[← Nat.add_assoc] at h2
  simpa [h2] using h4
theorem pQ {x:Operand} {X:AV} (ho:o.op=.nilCheck x) (hx:R I w β lam X (a.eval x))
  (hX:(∃ j off,X=.ptr j off)∨(∃ j sz i off,X=.eptr j sz i off)∨(∃ cells,X=.ro cells)∨(∃ f caps,X=.fn f caps)∨(∃ j sz i off,X=.up j sz i off)) (h:k X none)
  (hk:yp w I β lam d k a o.dst K):o.wp P a w K Q:=by
 refine zW (v:=a.eval x) ?_ hx h hk
 rcases hX with ⟨j,off,rfl⟩ | ⟨j,sz,i,off,rfl⟩ | ⟨cells,rfl⟩ | ⟨f,caps,rfl⟩ | ⟨j,sz,i,off,rfl⟩
 ·obtain ⟨b,_,hv⟩:=hx.ptr_inv
  simp[execOp,ho,hv]
 ·obtain ⟨b,_,hv⟩:=hx.eptr_inv
  simp[execOp,ho,hv]
 ·obtain ⟨b,q,hv,_⟩:=hx.ro_inv
  simp[execOp,ho,hv]
 ·obtain ⟨vs,hv,_⟩:=hx.fn_inv
  cases f<;>simp[execOp,ho,hv,fF]
 ·obtain ⟨_,b,_,_,hv⟩:=hx.up_inv
  simp[execOp,ho,hv]
theorem DU {t:TypeId} {x:Operand} {n:Option Nat} {X:AV} {σ:Nat→Option zb} (ho:o.op=.load t x) (hn:ldT P t=some n) (hx:R I w β lam X (a.eval x))
  (hσ:∀ k en b,σ k=some en→β k=some b→RE I w β lam b en) (hυ:∀ l sz rows,σ l=some (.uarr sz rows)→RU I w β lam l sz rows) (h:n6 σ n [X] k) (hk:yp w I β lam d k a o.dst K):o.wp P a w K Q:=by
 have fin:∀ {cells:List AV} {off b q:Nat},a.eval x=.pointer (some ⟨b,q+off,none⟩)→xI (zP cells off n) k →
   (∀ j c,cells[j]?=some c→∃ v,w.cell? ⟨b,q+j,none⟩=some v∧single v=true∧R I w β lam c v)→o.wp P a w K Q:=by
  intro cells off b q hv h hc
  cases hl:zP cells off n with
  | none=>simp[hl,xI] at h
  | some y =>
   simp only[hl,xI] at h
   obtain ⟨v,hr,hR⟩:=Zy hn hl hc
   refine zW (v:=v) ?_ hR h hk
   simp only[execOp,ho,hv]
   exact wz hr
 unfold n6 at h
 split at h
 ·rename_i j off heq
  simp only[List.cons.injEq,and_true] at heq
  subst heq
  obtain ⟨b,hb,hv⟩:=hx.ptr_inv
  split at h
  ·rename_i cells hs
   refine fin (q:=0) (by rw[hv,Nat.zero_add]) h fun j c hj=>?_
   obtain ⟨v,h1,_,h3,h4⟩:=hσ _ _ _ hs hb j c hj
   exact ⟨v,by rw[Nat.zero_add]; exact h1,h3,h4⟩
  ·exact h.elim
 ·rename_i j sz i off heq
  simp only[List.cons.injEq,and_true] at heq
  subst heq
  obtain ⟨b,hb,hv⟩:=hx.eptr_inv
  split at h
  ·rename_i sz' rows hs
   obtain ⟨rfl,h⟩:=h
   split at h
   ·rename_i r hr
    refine fin hv h fun j c hj=>?_
    obtain ⟨v,h1,_,h3,h4⟩:=(hσ _ _ _ hs hb).2 i r j c hr hj
    exact ⟨v,h1,h3,.base h4⟩
   ·exact h.elim
  ·exact h.elim
 ·rename_i cells heq
  simp only[List.cons.injEq,and_true] at heq
  subst heq
  obtain ⟨b,q,hv,hc⟩:=hx.ro_inv
  refine fin (q:=q) (by rw[hv,Nat.add_zero]) h fun j c hj=>?_
  obtain ⟨u,_,h2,h3,h4⟩:=hc j c hj
  exact ⟨u,h2,h3,.base h4⟩
 ·rename_i l sz i off heq
  simp only[List.cons.injEq,and_true] at heq
  subst heq
  obtain ⟨cap,b,q,hl,hv⟩:=hx.up_inv
  split at h
  ·rename_i sz' rows hs
   obtain ⟨rfl,h⟩:=h
   split at h
   ·rename_i r hr
    exact fin hv h ((hυ _ _ _ hs).row hl hr).2
   ·exact h.elim
  ·exact h.elim
 ·exact h.elim
theorem GL {t:TypeId} {x:Operand} {i n:Nat} {fs:Array Field} {f:Field} {X:AV} (ho:o.op=.fieldAddr t x i) (hf:vz P t=some fs) (hi:fs[i]?=some f)
  (hn:szT P f.type=some n) (h0:n≠0) (hx:R I w β lam X (a.eval x))
  (h:match [X] with | [.ptr j q]=>k (.ptr j (q+f.offset)) none | [.eptr j sz i q]=>k (.eptr j sz i (q+f.offset)) none | [.up j sz i q]=>k (.up j sz i (q+f.offset)) none | [.ro cells]=>k (.ro (cells.drop f.offset)) none | _=>False)
  (hk:yp w I β lam d k a o.dst K):o.wp P a w K Q:=by
 have hu:P.underlying t=some (.struct fs):=by
  unfold vz at hf
  split at hf<;>simp_all
 have run:∀ b q,a.eval x=.pointer (some ⟨b,q,none⟩)→(execOp a.eval o).run P w=.ok (.value (.pointer (some ⟨b,q+f.offset,none⟩))) w:=by
  intro b q hv
  simp[execOp,ho,hv,Instr.fieldAt,run_underlying hu,hi,Instr.sureAddr,fieldPlace,wt hn,h0,addr_add]
 split at h
 ·rename_i j q heq
  simp only[List.cons.injEq,and_true] at heq
  subst heq
  obtain ⟨b,hb,hv⟩:=hx.ptr_inv
  exact zW (run _ _ hv) (.ptr _ _ _ hb) h hk
 ·rename_i j sz i' q heq
  simp only[List.cons.injEq,and_true] at heq
  subst heq
  obtain ⟨b,hb,hv⟩:=hx.eptr_inv
  exact zW (run _ _ hv) (by rw[Nat.add_assoc]; exact .eptr _ _ _ _ _ hb) h hk
 ·rename_i j sz i' q heq
  simp only[List.cons.injEq,and_true] at heq
  subst heq
  obtain ⟨cap,b,q',hl,hv⟩:=hx.up_inv
  exact zW (run _ _ hv) (by rw[Nat.add_assoc]; exact .up _ _ _ _ _ _ _ hl) h hk
 ·rename_i cells heq
  simp only[List.cons.injEq,and_true] at heq
  subst heq
  obtain ⟨b,q,hv,hc⟩:=hx.ro_inv
  exact zW (run _ _ hv) (R.ro_drop hc _) h hk
 ·exact h.elim
theorem LH {t e:TypeId} {len esz:Nat} {x i:Operand} {X Y:AV} (ho:o.op=.indexAddr t x i) (ha:gT P t=some (len,e)) (he:szT P e=some esz)
  (hx:R I w β lam X (a.eval x)) (hi:R I w β lam Y (a.eval i)) (h:qK len esz [X,Y] k) (hk:yp w I β lam d k a o.dst K):o.wp P a w K Q:=by
 have hu:P.underlying t=some (.array len e):=by
  unfold gT at ha
  split at ha<;>simp_all
 have run:∀ b q (ik:IntKind) (j:Int),a.eval x=.pointer (some ⟨b,q,none⟩)→a.eval i=.int ik j→0≤j→j<len →
   (execOp a.eval o).run P w=.ok (.value (.pointer (some ⟨b,q+j.toNat * esz,none⟩))) w:=by
  intro b q ik j hv hj h0 h1
  simp[execOp,ho,hv,hj,Instr.indexAt,asIntOf,run_underlying hu,Instr.sureAddr,h0,h1,wt he,addr_add]
 unfold qK at h
 split at h
 ·rename_i j q ik n heq
  simp only[List.cons.injEq,and_true] at heq
  obtain ⟨rfl,rfl⟩:=heq
  obtain ⟨b,hb,hv⟩:=hx.ptr_inv
  obtain ⟨h0,h1,h⟩:=h
  exact zW (run _ _ _ _ hv hi.val_eq h0 h1) (.ptr _ _ _ hb) h hk
 ·rename_i j sz i' q ik n heq
  simp only[List.cons.injEq,and_true] at heq
  obtain ⟨rfl,rfl⟩:=heq
  obtain ⟨b,hb,hv⟩:=hx.eptr_inv
  obtain ⟨h0,h1,h⟩:=h
  exact zW (run _ _ _ _ hv hi.val_eq h0 h1) (by rw[Nat.add_assoc]; exact .eptr _ _ _ _ _ hb) h hk
 ·rename_i cells ik n heq
  simp only[List.cons.injEq,and_true] at heq
  obtain ⟨rfl,rfl⟩:=heq
  obtain ⟨b,q,hv,hc⟩:=hx.ro_inv
  obtain ⟨h0,h1,h⟩:=h
  exact zW (run _ _ _ _ hv hi.val_eq h0 h1) (R.ro_drop hc _) h hk
 ·rename_i j sz i' q ik n heq
  simp only[List.cons.injEq,and_true] at heq
  obtain ⟨rfl,rfl⟩:=heq
  obtain ⟨cap,b,q',hl,hv⟩:=hx.up_inv
  obtain ⟨h0,h1,h⟩:=h
  exact zW (run _ _ _ _ hv hi.val_eq h0 h1) (by rw[Nat.add_assoc]; exact .up _ _ _ _ _ _ _ hl) h hk
 ·exact h.elim
end
section
variable {P:Program} {I:Nat→Nat→Prop} {w:World} {β:zR} {lam:ya} {o:Oper} {a:Act} {K:Act→World→Prop}
  {Q:Exit→Act→World→Prop} {d:Nat} {k:AV→Option zb→Prop}
theorem foldl_set (off:Nat):∀ (l:List Value) (s:Nat) (cells:Array Value),
  ((l.zipIdx s).foldl (fun cs p=>cs.setIfInBounds (off+p.2) p.1) cells).size=cells.size ∧
  ∀ m,((l.zipIdx s).foldl (fun cs p=>cs.setIfInBounds (off+p.2) p.1) cells)[m]? =
   if off+s≤m∧m<off+s+l.length∧m<cells.size then l[m-(off+s)]? else cells[m]?:=by
 intro l
 induction l with
 | nil=>intro s cells; simp; intro m h1 h2; omega
 | cons x l ih =>
  intro s cells
  simp only[List.zipIdx_cons,List.foldl_cons]
  obtain ⟨h1,h2⟩:=ih (s+1) (cells.setIfInBounds (off+s) x)
  refine ⟨by rw[h1]; simp,fun m=>?_⟩
  rw[h2 m]
  simp only[Array.size_setIfInBounds,List.length_cons]
  by_cases e:m=off+s
  ·subst e
   by_cases hlt:off+s<cells.size
   ·rw[if_neg (by omega),if_pos (by omega)]
    simp[hlt]
   ·rw[if_neg (by omega),if_neg (by omega)]
    simp[hlt]
  ·by_cases hc:off+s≤m∧m<off+s+(l.length+1)∧m<cells.size
   ·rw[if_pos (by omega),if_pos hc]
    have:m-(off+s)=(m-(off+(s+1)))+1:=by omega
    rw[this]
    simp
   ·rw[if_neg (by omega),if_neg hc]
    rw[Array.getElem?_setIfInBounds,if_neg (fun h=>e h.symm)]
theorem dR (vs:Array Value) (off:Nat) (cells:Array Value) :
  (vs.zipIdx.foldl (fun cs (c,j)=>cs.setIfInBounds (off+j) c) cells).size=cells.size ∧
  ∀ m,(vs.zipIdx.foldl (fun cs (c,j)=>cs.setIfInBounds (off+j) c) cells)[m]? =
   if off≤m∧m<off+vs.size∧m<cells.size then vs[m-off]? else cells[m]?:=by
 have:=foldl_set off vs.toList 0 cells
 rw[← Array.foldl_toList]
 simpa using this
theorem Rk {T:AV→Value→Prop} {zero cs:List AV} {cells:Array Value} {v:Value} {off:Nat}
  (hz:cells.size=zero.length) (hc:∀ j c,zero[j]?=some c→T c (cells.getD j undef)∧single (cells.getD j undef)=true)
  (hs:v.cells.size=cs.length) (hv:∀ j c,cs[j]?=some c→T c (v.cells.getD j undef)∧single (v.cells.getD j undef)=true)
  (hle:off+cs.length≤zero.length) :
  (v.cells.zipIdx.foldl (fun cs (c,j)=>cs.setIfInBounds (off+j) c) cells).size=(splice zero off cs).length ∧
  ∀ j c,(splice zero off cs)[j]?=some c→T c ((v.cells.zipIdx.foldl (fun cs (c,j)=>cs.setIfInBounds (off+j) c) cells).getD j undef) ∧
   single ((v.cells.zipIdx.foldl (fun cs (c,j)=>cs.setIfInBounds (off+j) c) cells).getD j undef)=true:=by
 obtain ⟨h1,h2⟩:=dR v.cells off cells
 generalize v.cells.zipIdx.foldl (fun cs (c,j)=>cs.setIfInBounds (off+j) c) cells=A at *
 have hget:∀ m,A.getD m undef=(A[m]?).getD undef:=fun m=>by simp
 refine ⟨by rw[h1,hz]; simp[splice]; omega,fun j c hj=>?_⟩
 rw[hget,h2 j]
 have hjl:j<zero.length:=by
  have:=(List.getElem?_eq_some_iff.1 hj).1
  simp[splice] at this; omega
 simp only[splice] at hj
 by_cases c1:j<off
 ·rw[List.append_assoc,List.getElem?_append_left (by simp; omega)] at hj
  rw[List.getElem?_take,if_pos c1] at hj
  rw[if_neg (by omega)]
  have:=hc j c hj
  simpa using this
 ·by_cases c2:j<off+cs.length
  ·rw[List.append_assoc,List.getElem?_append_right (by simp; omega)] at hj
   have ht:(zero.take off).length=off:=by simp; omega
   rw[ht,List.getElem?_append_left (by omega)] at hj
   rw[if_pos (by omega)]
   have:=hv (j-off) c hj
   simpa using this
  ·rw[List.getElem?_append_right (by simp; omega)] at hj
   have ht:(zero.take off++cs).length=off+cs.length:=by simp; omega
   rw[ht,List.getElem?_drop] at hj
   rw[if_neg (by omega)]
   have e:off+cs.length+(j-(off+cs.length))=j:=by omega
   rw[e] at hj
   have:=hc j c hj
   simpa using this
theorem f6 {X:AV} {v:Value} {cs:List AV} (hX:cellsOf X=some cs) (h:R I w β lam X v) (hr:cs.all rf=true) :
  v.cells.size=(cs.map strip).length∧∀ j c,(cs.map strip)[j]?=some c→R0 I w c (v.cells.getD j undef)∧single (v.cells.getD j undef)=true:=by
 obtain ⟨h1,h2⟩:=lw hX h
 refine ⟨by simpa using h1,fun j c hj=>?_⟩
 simp only[List.getElem?_map,Option.map_eq_some_iff] at hj
 obtain ⟨c',hj,rfl⟩:=hj
 refine ⟨(h2 j c' hj).1.to0 (List.all_eq_true.1 hr _ (List.mem_iff_getElem?.2 ⟨j,hj⟩)),(h2 j c' hj).2⟩
theorem EB {pl:Nat→Option (Nat × Nat)}:∀ (parts:List (Nat × Value)) (ps:List (Nat × Nat)) (xs zero cs:List AV) (cells:Array Value),
  (∀ (j i:Nat) (v:Value),parts[j]?=some (i,v)→∃ (p:Nat × Nat) (X:AV),ps[j]?=some p∧pl i=some p∧xs[j]?=some X∧R I w β lam X v)→parts.length=xs.length →
  uj zero ps xs=some cs→cells.size=zero.length →
  (∀ j c,zero[j]?=some c→R0 I w c (cells.getD j undef)∧single (cells.getD j undef)=true) →
  ∃ cells',Instr.fill pl cells parts=some cells'∧cells'.size=cs.length ∧
   ∀ j c,cs[j]?=some c→R0 I w c (cells'.getD j undef)∧single (cells'.getD j undef)=true:=by
 intro parts
 induction parts with
 | nil =>
  intro ps xs zero cs cells _ hl hf hz hc
  have:xs=[]:=List.eq_nil_of_length_eq_zero (by simpa using hl.symm)
  subst this
  cases ps with
  | nil=>simp only[uj,Option.some.injEq] at hf; subst hf; exact ⟨cells,rfl,hz,hc⟩
  | cons p ps=>simp[uj] at hf
 | cons q parts ih =>
  intro ps xs zero cs cells hp hl hf hz hc
  obtain ⟨i,v⟩:=q
  obtain ⟨p,X,h1,h2,h3,h4⟩:=hp 0 i v rfl
  cases ps with
  | nil=>simp at h1
  | cons p' ps =>
   cases xs with
   | nil=>simp at h3
   | cons X' xs =>
    simp only[List.getElem?_cons_zero,Option.some.injEq] at h1 h3
    subst h1 h3
    obtain ⟨off,n⟩:=p'
    simp only[uj] at hf
    split at hf
    ·rename_i cs' hX
     split at hf
     ·rename_i hcond
      obtain ⟨hn,hle,hr⟩:=hcond
      obtain ⟨g1,g2⟩:=f6 hX h4 hr
      have hlen:(cs'.map strip).length=n:=by simpa using hn
      obtain ⟨f1,f2⟩:=Rk (off:=off) hz hc g1 g2 (by omega)
      obtain ⟨cells',e1,e2,e3⟩:=ih ps xs _ cs _ (fun j i v hj=>by
       obtain ⟨p,X,a1,a2,a3,a4⟩:=hp (j+1) i v (by simpa using hj)
       exact ⟨p,X,by simpa using a1,a2,by simpa using a3,a4⟩) (by simpa using hl) hf f1 f2
      refine ⟨cells',?_,e2,e3⟩
      simp only[Instr.fill,h2]
      rw[if_neg]
      ·exact e1
      ·have:cells.size=zero.length:=hz
       simp; omega
     ·cases hf
    ·cases hf
theorem Ja {pl:Nat→Option (Nat × Nat)}:∀ (parts:List (Nat × Value)) (ps:List (Nat × Nat)) (xs zero cs:List AV) (cells:Array Value),
  (∀ (j i:Nat) (v:Value),parts[j]?=some (i,v)→∃ (p:Nat × Nat) (X:AV),ps[j]?=some p∧pl i=some p∧xs[j]?=some X∧R I w β lam X v)→parts.length=xs.length →
  v3 zero ps xs=some cs→cells.size=zero.length →
  (∀ j c,zero[j]?=some c→R I w β lam c (cells.getD j undef)∧single (cells.getD j undef)=true) →
  ∃ cells',Instr.fill pl cells parts=some cells'∧cells'.size=cs.length ∧
   ∀ j c,cs[j]?=some c→R I w β lam c (cells'.getD j undef)∧single (cells'.getD j undef)=true:=by
 intro parts
 induction parts with
 | nil =>
  intro ps xs zero cs cells _ hl hf hz hc
  have:xs=[]:=List.eq_nil_of_length_eq_zero (by simpa using hl.symm)
  subst this
  cases ps with
  | nil=>simp only[v3,Option.some.injEq] at hf; subst hf; exact ⟨cells,rfl,hz,hc⟩
  | cons p ps=>simp[v3] at hf
 | cons q parts ih =>
  intro ps xs zero cs cells hp hl hf hz hc
  obtain ⟨i,v⟩:=q
  obtain ⟨p,X,h1,h2,h3,h4⟩:=hp 0 i v rfl
  cases ps with
  | nil=>simp at h1
  | cons p' ps =>
   cases xs with
   | nil=>simp at h3
   | cons X' xs =>
    simp only[List.getElem?_cons_zero,Option.some.injEq] at h1 h3
    subst h1 h3
    obtain ⟨off,n⟩:=p'
    simp only[v3] at hf
    split at hf
    ·rename_i cs' hX
     split at hf
     ·rename_i hcond
      obtain ⟨hn,hle⟩:=hcond
      obtain ⟨g1,g2⟩:=lw hX h4
      have hlen:cs'.length=n:=hn
      obtain ⟨f1,f2⟩:=Rk (off:=off) hz hc g1 g2 (by omega)
      obtain ⟨cells',e1,e2,e3⟩:=ih ps xs _ cs _ (fun j i v hj=>by
       obtain ⟨p,X,a1,a2,a3,a4⟩:=hp (j+1) i v (by simpa using hj)
       exact ⟨p,X,by simpa using a1,a2,by simpa using a3,a4⟩) (by simpa using hl) hf f1 f2
      refine ⟨cells',?_,e2,e3⟩
      simp only[Instr.fill,h2]
      rw[if_neg]
      ·exact e1
      ·have:cells.size=zero.length:=hz
       simp; omega
     ·cases hf
    ·cases hf
theorem run_places:∀ (fs:List Field),(fs.all fun f=>(szT P f.type).isSome)=true →
  (fs.mapM fun f=>do pure (f.offset,← sizeOf f.type):Sem (List (Nat × Nat))).run P w=.ok (fs.map fun f=>(f.offset,(szT P f.type).getD 0)) w:=by
 intro fs
 induction fs with
 | nil=>intro _; rfl
 | cons f fs ih =>
  intro h
  simp only[List.all_cons,Bool.and_eq_true] at h
  obtain ⟨n,hn⟩:=Option.isSome_iff_exists.1 h.1
  rw[List.mapM_cons,Sem.run_bind,Sem.run_bind,wt hn]
  simp only[Result.andThen_ok,Sem.run_pure,Sem.run_bind,ih h.2,List.map_cons,hn,Option.getD_some]
theorem Up {t:TypeId} {fs:Array Field} (hu:P.underlying t=some (.struct fs)):∀ (is:List Nat) (ps:List (Nat × Nat)),tG P t is=some ps →
  ps.length=is.length∧∀ (j i:Nat),is[j]?=some i→∃ (f:Field) (n:Nat),fs[i]?=some f∧szT P f.type=some n∧ps[j]?=some (f.offset,n):=by
 intro is
 have hf:vz P t=some fs:=by simp[vz,hu]
 induction is with
 | nil=>intro ps h; simp[tG] at h; subst h; simp
 | cons i is ih =>
  intro ps h
  simp only[tG,hf] at h
  split at h
  ·rename_i f hfi
   split at h
   ·rename_i n ps' hn hps
    simp only[Option.some.injEq] at h
    subst h
    obtain ⟨g1,g2⟩:=ih ps' hps
    refine ⟨by simp[g1],fun j i' hj=>?_⟩
    cases j with
    | zero=>simp at hj; subst hj; exact ⟨f,n,hfi,hn,rfl⟩
    | succ j=>simp at hj; obtain ⟨f',n',a1,a2,a3⟩:=g2 j i' hj; exact ⟨f',n',a1,a2,by simpa using a3⟩
   ·cases h
  ·cases h
theorem TW {t e:TypeId} {len s:Nat} (hu:P.underlying t=some (.array len e)) (hs:szT P e=some s):∀ (is:List Nat) (ps:List (Nat × Nat)),tG P t is=some ps →
  ps.length=is.length∧∀ (j i:Nat),is[j]?=some i→ps[j]?=some (i*s,s):=by
 intro is
 have hf:vz P t=none:=by simp[vz,hu]
 have ha:gT P t=some (len,e):=by simp[gT,hu]
 induction is with
 | nil=>intro ps h; simp[tG] at h; subst h; simp
 | cons i is ih =>
  intro ps h
  simp only[tG,hf,ha,hs] at h
  split at h
  ·rename_i n ps' hn hps
   simp only[Option.some.injEq] at hn h
   subst hn h
   obtain ⟨g1,g2⟩:=ih ps' hps
   refine ⟨by simp[g1],fun j i' hj=>?_⟩
   cases j with
   | zero=>simp at hj; subst hj; rfl
   | succ j=>simp at hj; simpa using g2 j i' hj
  ·cases h
theorem aaC {cells:Array Value} (h:∀ j,j<cells.size→single (cells.getD j undef)=true):cells.all (·.oneCell')=true:=by
 refine Array.all_eq_true.2 fun i hi=>?_
 have:=h i hi
 simpa [hi] using this
theorem GF {t:TypeId} {parts:Array (Nat × Operand)} {z:List AV} {ps:List (Nat × Nat)} {e:Opd→AV} (ho:o.op=.build t parts)
  (hz:wL P t=some z) (hp:tG P t (parts.toList.map (·.1))=some ps) (hok:Zm P t=true)
  (hx:∀ p∈parts.toList,R I w β lam (e (zm p.2)) (a.eval p.2)) (h:xI (orR (uj z ps ((parts.toList.map fun p=>zm p.2).map e)) (v3 z ps ((parts.toList.map fun p=>zm p.2).map e))) k)
  (hk:yp w I β lam d k a o.dst K):o.wp P a w K Q:=by
 obtain ⟨v,hv,h1,rfl⟩:=cX (w:=w) hz
 obtain ⟨hs,hc⟩:=eO (I:=I) (w:=w) v h1
 have hpts:∀ (j i:Nat) (u:Value),(parts.toList.map fun p=>(p.1,a.eval p.2))[j]?=some (i,u)→∃ X,((parts.toList.map fun p=>zm p.2).map e)[j]?=some X∧R I w β lam X u∧(parts.toList.map (·.1))[j]?=some i:=by
  intro j i u hj
  simp only[List.getElem?_map,Option.map_eq_some_iff] at hj
  obtain ⟨p,hp',he⟩:=hj
  simp only[Prod.mk.injEq] at he
  obtain ⟨rfl,rfl⟩:=he
  exact ⟨e (zm p.2),by simp[hp'],hx p (List.mem_iff_getElem?.2 ⟨j,hp'⟩),by simp[hp']⟩
 have hpl:(parts.map fun (i,x)=>(i,a.eval x)).toList=parts.toList.map fun p=>(p.1,a.eval p.2):=by simp
 obtain ⟨X,hX,hkX⟩:∃ X,orR (uj (v.cells.toList.map xc) ps ((parts.toList.map fun p=>zm p.2).map e)) (v3 (v.cells.toList.map xc) ps ((parts.toList.map fun p=>zm p.2).map e))=some X∧k X none:=by
  cases hc:orR (uj (v.cells.toList.map xc) ps ((parts.toList.map fun p=>zm p.2).map e)) (v3 (v.cells.toList.map xc) ps ((parts.toList.map fun p=>zm p.2).map e)) with
  | none=>rw[hc] at h; exact h.elim
  | some X=>rw[hc] at h; exact ⟨X,rfl,h⟩
 have fin:∀ pl:Nat→Option (Nat × Nat),(∀ (j i:Nat) (u:Value),(parts.toList.map fun p=>(p.1,a.eval p.2))[j]?=some (i,u)→∃ p,ps[j]?=some p∧pl i=some p) →
   ∃ cells',Instr.fill pl v.cells (parts.toList.map fun p=>(p.1,a.eval p.2))=some cells'∧R I w β lam X (.agg cells'):=by
  intro pl hpl'
  have hq:∀ (j i:Nat) (u:Value),(parts.toList.map fun p=>(p.1,a.eval p.2))[j]?=some (i,u)→∃ (p:Nat × Nat) (X:AV),ps[j]?=some p∧pl i=some p∧((parts.toList.map fun p=>zm p.2).map e)[j]?=some X∧R I w β lam X u:=fun j i u hj=>by
   obtain ⟨X,a1,a2,_⟩:=hpts j i u hj
   obtain ⟨p,b1,b2⟩:=hpl' j i u hj
   exact ⟨p,X,b1,b2,a1,a2⟩
  have one:∀ {cs:List AV} {cells':Array Value} {T:AV→Value→Prop},cells'.size=cs.length→(∀ j c,cs[j]?=some c→T c (cells'.getD j undef)∧single (cells'.getD j undef)=true)→cells'.all (·.oneCell')=true:=fun {cs cells' T} e2 e3=>aaC fun j hj=>by
   obtain ⟨c,hc'⟩:∃ c,cs[j]?=some c:=⟨cs[j]'(by omega),by simp[show j<cs.length by omega]⟩
   exact (e3 j c hc').2
  cases hA:uj (v.cells.toList.map xc) ps ((parts.toList.map fun p=>zm p.2).map e) with
  | some cs =>
   rw[hA] at hX
   simp only[orR,Option.some.injEq] at hX
   subst hX
   obtain ⟨cells',e1,e2,e3⟩:=EB (β:=β) (lam:=lam) (pl:=pl) _ ps _ _ cs v.cells hq (by simp) hA hs hc
   exact ⟨cells',e1,.base (.agg _ _ e2 (one e2 e3) fun i c hi=>(e3 i c hi).1)⟩
  | none =>
   rw[hA] at hX
   cases hR:v3 (v.cells.toList.map xc) ps ((parts.toList.map fun p=>zm p.2).map e) with
   | none=>rw[hR] at hX; cases hX
   | some cs =>
    rw[hR] at hX
    simp only[orR,Option.some.injEq] at hX
    subst hX
    obtain ⟨cells',e1,e2,e3⟩:=Ja (β:=β) (lam:=lam) (pl:=pl) _ ps _ _ cs v.cells hq (by simp) hR hs (fun j c hj=>⟨.base (hc j c hj).1,(hc j c hj).2⟩)
    exact ⟨cells',e1,.raw _ _ e2 (one e2 e3) fun i c hi=>(e3 i c hi).1⟩
 unfold Zm at hok
 split at hok
 ·rename_i fs hu
  obtain ⟨g1,g2⟩:=Up hu _ _ hp
  obtain ⟨cells',e1,e2⟩:=fin ((fs.map fun f=>(f.offset,(szT P f.type).getD 0))[·]?) (fun j i u hj=>by
   obtain ⟨_,_,_,a3⟩:=hpts j i u hj
   obtain ⟨f,n,b1,b2,b3⟩:=g2 j i a3
   exact ⟨_,b3,by simp[b1,b2]⟩)
  have hm:(fs.mapM fun f=>do pure (f.offset,← sizeOf f.type):Sem (Array (Nat × Nat))).run P w=.ok (fs.map fun f=>(f.offset,(szT P f.type).getD 0)) w:=by
   rw[Array.mapM_eq_mapM_toList,Sem.run_map,run_places fs.toList hok]
   simp only[Result.andThen_ok,Result.ok.injEq,and_true]
   apply Array.ext'
   simp
  refine zW (v:=.agg cells') ?_ e2 hkX hk
  simp only[execOp,ho]
  refine wz ?_
  simp only[Instr.build,Sem.run_bind,hv,Result.andThen_ok,run_underlying hu,hm,hpl]
  rw[e1]
  rfl
 ·rename_i n el hu
  obtain ⟨s,hs'⟩:=Option.isSome_iff_exists.1 hok
  obtain ⟨g1,g2⟩:=TW hu hs' _ _ hp
  obtain ⟨cells',e1,e2⟩:=fin (fun i=>some (i*s,s)) (fun j i u hj=>by
   obtain ⟨_,_,_,a3⟩:=hpts j i u hj
   exact ⟨_,g2 j i a3,rfl⟩)
  refine zW (v:=.agg cells') ?_ e2 hkX hk
  simp only[execOp,ho]
  refine wz ?_
  simp only[Instr.build,Sem.run_bind,hv,Result.andThen_ok,run_underlying hu,wt hs',hpl]
  rw[e1]
  rfl
 ·cases hok
end
section
variable {P:Program} {I:Nat→Nat→Prop} {w:World} {β:zR} {lam:ya} {o:Oper} {a:Act} {K:Act→World→Prop}
  {Q:Exit→Act→World→Prop} {d:Nat} {k:AV→Option zb→Prop}
def RowsIn (I:Nat→Nat→Prop) (w:World) (sz:Nat) (rows:List (List AV)) (A:Array Value):Prop :=
 A.size=rows.length*sz∧(∀ (i:Nat) (r:List AV),rows[i]?=some r→r.length=sz) ∧
  ∀ (i:Nat) (r:List AV) (j:Nat) (c:AV),rows[i]?=some r→r[j]?=some c→R0 I w c (A.getD (i*sz+j) undef)∧single (A.getD (i*sz+j) undef)=true
theorem RowsIn.get {sz:Nat} {rows:List (List AV)} {A:Array Value} (h:RowsIn I w sz rows A) {i j:Nat} {r:List AV} {c:AV} (hi:rows[i]?=some r) (hj:r[j]?=some c) :
  i*sz+j<A.size:=by
 have h1:=h.2.1 i r hi
 have h2:i<rows.length:=(List.getElem?_eq_some_iff.1 hi).1
 have h3:j<r.length:=(List.getElem?_eq_some_iff.1 hj).1
 have h4:(i+1)*sz≤rows.length*sz:=Nat.mul_le_mul_right _ h2
 rw[Nat.add_mul] at h4
 rw[h.1]
 omega
theorem Ex {sz:Nat} {rows:List (List AV)} {A:Array Value} {e:TypeId} (hI:∀ b o,I b o→b<w.heap.size) (h:RowsIn I w sz rows A) :
  Eff w I β lam d (.list sz .full rows) none (.slice (some ⟨w.heap.size,0,none⟩) rows.length rows.length) (w.alloc (.cells A e))
   (fun b o=>I b o∨b=w.heap.size) β:=by
 have hb:Below w.heap.size w (w.alloc (.cells A e)):=(Below.refl _ _).alloc (Nat.le_refl _) _
 refine ⟨hb,fun _ _ h=>.inl h,fun b o h=>?_,fun _=>rfl,(fun _ h=>by cases h),?_⟩
 ·rcases h with h | h
  ·exact .inl h
  ·exact .inr ⟨by omega,by simp[h]⟩
 ·refine .base (.list sz .full rows w.heap.size 0 rows.length (fun i j=>A.getD (i*sz+j) undef) (Nat.le_refl _) (fun _=>rfl) (by simp) h.2.1 (fun i r j c hi hj=>?_) fun i r j c hi hj=>?_)
  ·have hlt:=h.get hi hj
   refine ⟨.inr rfl,?_,(h.2.2 i r j c hi hj).2⟩
   rw[World.cell?_alloc_new,Nat.zero_add]
   simp[hlt]
  ·exact (h.2.2 i r j c hi hj).1.later hI hb (fun _ _ h=>.inl h)
theorem RowsIn.set {sz:Nat} {rows:List (List AV)} {A:Array Value} (h:RowsIn I w sz rows A) {i:Nat} {cs:List AV} {v:Value} (hi:i<rows.length)
  (hs:v.cells.size=cs.length) (hl:cs.length=sz) (hv:∀ j c,cs[j]?=some c→R0 I w c (v.cells.getD j undef)∧single (v.cells.getD j undef)=true) :
  RowsIn I w sz (rows.set i cs) (v.cells.zipIdx.foldl (fun cs (c,j)=>cs.setIfInBounds (i*sz+j) c) A):=by
 obtain ⟨h1,h2⟩:=dR v.cells (i*sz) A
 generalize v.cells.zipIdx.foldl (fun cs (c,j)=>cs.setIfInBounds (i*sz+j) c) A=B at *
 have hget:∀ m,B.getD m undef=(B[m]?).getD undef:=fun m=>by simp
 refine ⟨by rw[h1,h.1]; simp,fun m r hm=>?_,fun m r j c hm hj=>?_⟩
 ·rw[List.getElem?_set] at hm
  split at hm
  ·simp only[Option.some.injEq] at hm
   rw[← hm]; exact hl
  ·exact h.2.1 m r hm
 ·rw[List.getElem?_set] at hm
  rw[hget,h2]
  split at hm
  ·rename_i e
   subst e
   simp only[Option.some.injEq] at hm
   subst hm
   have hjl:j<cs.length:=(List.getElem?_eq_some_iff.1 hj).1
   have h4:(i+1)*sz≤rows.length*sz:=Nat.mul_le_mul_right _ hi
   rw[Nat.add_mul] at h4
   rw[if_pos (by rw[h.1]; omega)]
   have:=hv j c hj
   simpa using this
  ·rename_i e
   have hjl:j<r.length:=(List.getElem?_eq_some_iff.1 hj).1
   rw[h.2.1 m r hm] at hjl
   rw[if_neg]
   ·have:=h.2.2 m r j c hm hj
    simpa using this
   ·rintro ⟨a1,a2,_⟩
    rcases Nat.lt_or_gt_of_ne e with e | e
    ·have:(i+1)*sz≤m*sz:=Nat.mul_le_mul_right _ e
     rw[Nat.add_mul] at this
     omega
    ·have:(m+1)*sz≤i*sz:=Nat.mul_le_mul_right _ e
     rw[Nat.add_mul] at this
     omega
theorem Dz {sz:Nat}:∀ (parts:List (Nat × Value)) (xs:List AV) (rows rows':List (List AV)) (A:Array Value),
  (∀ (j i:Nat) (v:Value),parts[j]?=some (i,v)→∃ X:AV,xs[j]?=some X∧R I w β lam X v)→parts.length=xs.length →
  vT sz rows (parts.map (·.1)) xs=some rows'→RowsIn I w sz rows A →
  ∃ A',Instr.fill (fun i=>some (i*sz,sz)) A parts=some A'∧RowsIn I w sz rows' A':=by
 intro parts
 induction parts with
 | nil =>
  intro xs rows rows' A _ hl hf hA
  have:xs=[]:=List.eq_nil_of_length_eq_zero (by simpa using hl.symm)
  subst this
  simp only[List.map_nil,vT,Option.some.injEq] at hf
  subst hf
  exact ⟨A,rfl,hA⟩
 | cons q parts ih =>
  intro xs rows rows' A hp hl hf hA
  obtain ⟨i,v⟩:=q
  obtain ⟨X,h3,h4⟩:=hp 0 i v rfl
  cases xs with
  | nil=>simp at h3
  | cons X' xs =>
   simp only[List.getElem?_cons_zero,Option.some.injEq] at h3
   subst h3
   simp only[List.map_cons,vT] at hf
   split at hf
   ·rename_i cs hX
    split at hf
    ·rename_i hcond
     obtain ⟨hn,hle,hr⟩:=hcond
     obtain ⟨g1,g2⟩:=f6 hX h4 hr
     have hA':=hA.set hle g1 (by simpa using hn) g2
     obtain ⟨A',e1,e2⟩:=ih xs _ rows' _ (fun j i v hj=>by
      obtain ⟨X,a3,a4⟩:=hp (j+1) i v (by simpa using hj)
      exact ⟨X,by simpa using a3,a4⟩) (by simpa using hl) hf hA'
     refine ⟨A',?_,e2⟩
     simp only[Instr.fill]
     rw[if_neg]
     ·exact e1
     ·have h4:(i+1)*sz≤rows.length*sz:=Nat.mul_le_mul_right _ hle
      rw[Nat.add_mul] at h4
      have:=hA.1
      have h5:v.cells.size=sz:=by rw[g1]; simpa using hn
      simp[h5]
      omega
    ·cases hf
   ·cases hf
def ui (I:Nat→Nat→Prop) (w:World) (β:zR) (lam:ya) (sz:Nat) (rows:List (List AV)) (A:List Value):Prop :=
 A.length=rows.length*sz∧(∀ (i:Nat) (r:List AV),rows[i]?=some r→r.length=sz) ∧
  ∀ (i:Nat) (r:List AV) (j:Nat) (c:AV),rows[i]?=some r→r[j]?=some c→∃ v,A[i*sz+j]?=some v∧R I w β lam c v∧single v=true
theorem RowsIn.toR {sz:Nat} {rows:List (List AV)} {A:List Value} (h:RowsIn I w sz rows A.toArray):ui I w β lam sz rows A:=by
 refine ⟨by simpa using h.1,h.2.1,fun i r j c hi hj=>?_⟩
 have hlt:=h.get hi hj
 obtain ⟨h1,h2⟩:=h.2.2 i r j c hi hj
 have hlt':i*sz+j<A.length:=by simpa using hlt
 refine ⟨A[i*sz+j],List.getElem?_eq_getElem hlt',?_⟩
 have:A.toArray.getD (i*sz+j) undef=A[i*sz+j]:=by simp[hlt']
 rw[this] at h1 h2
 exact ⟨.base h1,h2⟩
theorem ui.set {sz:Nat} {rows:List (List AV)} {A:Array Value} (h:ui I w β lam sz rows A.toList) {i:Nat} {cs:List AV} {v:Value} (hi:i<rows.length)
  (hs:v.cells.size=cs.length) (hl:cs.length=sz) (hv:∀ j c,cs[j]?=some c→R I w β lam c (v.cells.getD j undef)∧single (v.cells.getD j undef)=true) :
  ui I w β lam sz (rows.set i cs) (v.cells.zipIdx.foldl (fun cs (c,j)=>cs.setIfInBounds (i*sz+j) c) A).toList:=by
 obtain ⟨h1,h2⟩:=dR v.cells (i*sz) A
 generalize v.cells.zipIdx.foldl (fun cs (c,j)=>cs.setIfInBounds (i*sz+j) c) A=B at *
 have hA:A.size=rows.length*sz:=by simpa using h.1
 refine ⟨by simp[h1,hA],fun m r hm=>?_,fun m r j c hm hj=>?_⟩
 ·rw[List.getElem?_set] at hm
  split at hm
  ·simp only[Option.some.injEq] at hm
   rw[← hm]; exact hl
  ·exact h.2.1 m r hm
 ·rw[List.getElem?_set] at hm
  rw[Array.getElem?_toList,h2]
  split at hm
  ·rename_i e
   subst e
   simp only[Option.some.injEq] at hm
   subst hm
   have hjl:j<cs.length:=(List.getElem?_eq_some_iff.1 hj).1
   have h4:(i+1)*sz≤rows.length*sz:=Nat.mul_le_mul_right _ hi
   rw[Nat.add_mul] at h4
   rw[if_pos (by omega)]
   have:=hv j c hj
   have hjv:j<v.cells.size:=by omega
   refine ⟨v.cells[j],by simp[hjv],?_⟩
   simpa [hjv] using this
  ·rename_i e
   have hjl:j<r.length:=(List.getElem?_eq_some_iff.1 hj).1
   rw[h.2.1 m r hm] at hjl
   rw[if_neg]
   ·have:=h.2.2 m r j c hm hj
    simpa using this
   ·rintro ⟨a1,a2,_⟩
    rcases Nat.lt_or_gt_of_ne e with e | e
    ·have:(i+1)*sz≤m*sz:=Nat.mul_le_mul_right _ e
     rw[Nat.add_mul] at this
     omega
    ·have:(m+1)*sz≤i*sz:=Nat.mul_le_mul_right _ e
     rw[Nat.add_mul] at this
     omega
theorem TG {sz:Nat}:∀ (parts:List (Nat × Value)) (xs:List AV) (rows rows':List (List AV)) (A:Array Value),
  (∀ (j i:Nat) (v:Value),parts[j]?=some (i,v)→∃ X:AV,xs[j]?=some X∧R I w β lam X v)→parts.length=xs.length →
  xM sz rows (parts.map (·.1)) xs=some rows'→ui I w β lam sz rows A.toList →
  ∃ A':Array Value,Instr.fill (fun i=>some (i*sz,sz)) A parts=some A'∧ui I w β lam sz rows' A'.toList∧rows'.length=rows.length:=by
 intro parts
 induction parts with
 | nil =>
  intro xs rows rows' A _ hl hf hA
  have:xs=[]:=List.eq_nil_of_length_eq_zero (by simpa using hl.symm)
  subst this
  simp only[List.map_nil,xM,Option.some.injEq] at hf
  subst hf
  exact ⟨A,rfl,hA,rfl⟩
 | cons q parts ih =>
  intro xs rows rows' A hp hl hf hA
  obtain ⟨i,v⟩:=q
  obtain ⟨X,h3,h4⟩:=hp 0 i v rfl
  cases xs with
  | nil=>simp at h3
  | cons X' xs =>
   simp only[List.getElem?_cons_zero,Option.some.injEq] at h3
   subst h3
   simp only[List.map_cons,xM] at hf
   split at hf
   ·rename_i cs hX
    split at hf
    ·rename_i hcond
     obtain ⟨hn,hle⟩:=hcond
     obtain ⟨g1,g2⟩:=lw hX h4
     have hA':=hA.set hle g1 hn g2
     obtain ⟨A',e1,e2,e3⟩:=ih xs _ rows' _ (fun j i v hj=>by
      obtain ⟨X,a3,a4⟩:=hp (j+1) i v (by simpa using hj)
      exact ⟨X,by simpa using a3,a4⟩) (by simpa using hl) hf hA'
     refine ⟨A',?_,e2,by rw[e3,List.length_set]⟩
     simp only[Instr.fill]
     rw[if_neg]
     ·exact e1
     ·have h4:(i+1)*sz≤rows.length*sz:=Nat.mul_le_mul_right _ hle
      rw[Nat.add_mul] at h4
      have hA0:A.size=rows.length*sz:=by simpa using hA.1
      have h5:v.cells.size=sz:=by rw[g1]; exact hn
      simp[h5]
      omega
    ·cases hf
   ·cases hf
theorem jN {e:TypeId} {z:List AV} {n sz:Nat} (hz:wL P e=some z) (hl:z.length=sz) :
  ∃ v:Value,(zeroValue e).run P w=.ok v w∧v.cells.size=sz ∧
   RowsIn I w sz (List.replicate n z) ((Array.range (n*sz)).map fun i=>v.cells[i%v.cells.size]!):=by
 obtain ⟨v,hv,h1,rfl⟩:=cX (w:=w) hz
 obtain ⟨hs,hc⟩:=eO (I:=I) (w:=w) v h1
 have hsz:v.cells.size=sz:=by rw[hs]; exact hl
 refine ⟨v,hv,hsz,by simp,fun i r hi=>?_,fun i r j c hi hj=>?_⟩
 ·rw[List.getElem?_replicate] at hi
  split at hi
  ·simp only[Option.some.injEq] at hi; rw[← hi]; exact hl
  ·cases hi
 ·rw[List.getElem?_replicate] at hi
  split at hi
  ·rename_i hin
   simp only[Option.some.injEq] at hi
   subst hi
   have hj':j<sz:=by
    have:=(List.getElem?_eq_some_iff.1 hj).1
    omega
   have h4:(i+1)*sz≤n*sz:=Nat.mul_le_mul_right _ hin
   rw[Nat.add_mul] at h4
   have hm:(i*sz+j)%v.cells.size=j:=by rw[hsz,Nat.mul_comm,Nat.mul_add_mod,Nat.mod_eq_of_lt hj']
   have:((Array.range (n*sz)).map fun i=>v.cells[i%v.cells.size]!).getD (i*sz+j) undef=v.cells.getD j undef:=by
    have h5:i*sz+j<n*sz:=by omega
    have h6:j<v.cells.size:=by omega
    simp[h5,hm,h6]
   rw[this]
   exact hc j c hj
  ·cases hi
theorem BB {sz:Nat} {rows:List (List AV)} {A:Array Value} {e:TypeId} (hI:∀ b o,I b o→b<w.heap.size) (h:ui I w β lam sz rows A.toList) :
  Eff w I β lam d (.lit sz rows) none (.slice (some ⟨w.heap.size,0,none⟩) rows.length rows.length) (w.alloc (.cells A e))
   (fun b o=>I b o∨b=w.heap.size) β:=by
 have hb:Below w.heap.size w (w.alloc (.cells A e)):=(Below.refl _ _).alloc (Nat.le_refl _) _
 refine ⟨hb,fun _ _ h=>.inl h,fun b o h=>?_,fun _=>rfl,(fun _ h=>by cases h),?_⟩
 ·rcases h with h | h
  ·exact .inl h
  ·exact .inr ⟨by omega,by simp[h]⟩
 ·have key:∀ (i:Nat) (r:List AV) j c,rows[i]?=some r→r[j]?=some c→A[i*sz+j]?=some (A.getD (i*sz+j) undef)∧R I w β lam c (A.getD (i*sz+j) undef)∧single (A.getD (i*sz+j) undef)=true:=fun i r j c hi hj=>by
   obtain ⟨v,h1,h2,h3⟩:=h.2.2 i r j c hi hj
   rw[Array.getElem?_toList] at h1
   have:A.getD (i*sz+j) undef=v:=by simp[h1]
   rw[this]
   exact ⟨h1,h2,h3⟩
  refine .lit sz rows w.heap.size 0 (fun i j=>A.getD (i*sz+j) undef) h.2.1 (fun i r j c hi hj=>?_) fun i r j c hi hj=>?_
  ·obtain ⟨h1,_,h3⟩:=key i r j c hi hj
   refine ⟨.inr rfl,?_,h3⟩
   rw[World.cell?_alloc_new,Nat.zero_add]
   exact h1
  ·exact (key i r j c hi hj).2.1.later hI hb (fun _ _ h=>.inl h) (fun _ _ h=>h)
theorem ah6 {t e:TypeId} {n sz:Nat} {parts:Array (Nat × Operand)} {z:List AV} {f:Opd→AV} {rows:List (List AV)} (ho:o.op=.buildSlice t n parts)
  (he:elT P t=some e) (hsz:szT P e=some sz) (hz:wL P e=some z) (hlim:n*sz≤16777216) (hzl:z.length=sz) (h0:0<sz)
  (hI:∀ b o,I b o→b<w.heap.size) (hx:∀ p∈parts.toList,R I w β lam (f (zm p.2)) (a.eval p.2))
  (hf:xM sz (List.replicate n z) (parts.toList.map (·.1)) ((parts.toList.map fun p=>zm p.2).map f)=some rows) (h:k (.lit sz rows) none)
  (hk:yp w I β lam d k a o.dst K):o.wp P a w K Q:=by
 obtain ⟨v,hv,hvs,hA⟩:=jN (P:=P) (I:=I) (w:=w) (n:=n) hz hzl
 have hu:P.underlying t=some (.slice e):=by
  unfold elT at he
  split at he<;>simp_all
 have hpl:(parts.map fun (i,x)=>(i,a.eval x)).toList=parts.toList.map fun p=>(p.1,a.eval p.2):=by simp
 obtain ⟨A',e1,e2,hrl⟩:=TG (I:=I) (w:=w) (β:=β) (lam:=lam) (parts.toList.map fun p=>(p.1,a.eval p.2)) ((parts.toList.map fun p=>zm p.2).map f) (List.replicate n z) rows ((Array.range (n*sz)).map fun i=>v.cells[i%v.cells.size]!) (fun j i u hj=>by
   simp only[List.getElem?_map,Option.map_eq_some_iff] at hj
   obtain ⟨p,hp',he⟩:=hj
   simp only[Prod.mk.injEq] at he
   obtain ⟨rfl,rfl⟩:=he
   exact ⟨f (zm p.2),by simp[hp'],hx p (List.mem_iff_getElem?.2 ⟨j,hp'⟩)⟩) (by simp) (by simpa [Function.comp_def] using hf) (RowsIn.toR (A:=((Array.range (n*sz)).map fun i=>v.cells[i%v.cells.size]!).toList) hA)
 rw[List.length_replicate] at hrl
 have hr:(execOp a.eval o).run P w=.ok (.value (.slice (some ⟨w.heap.size,0,none⟩) n n)) (w.alloc (.cells A' e)):=by
  simp only[execOp,ho]
  have:(Instr.buildSlice t n (parts.map fun (i,x)=>(i,a.eval x))).run P w=.ok (.slice (some ⟨w.heap.size,0,none⟩) n n) (w.alloc (.cells A' e)):=by
   unfold Instr.buildSlice
   simp only[Sem.run_bind,run_underlying hu,Result.andThen_ok,wt hsz]
   rw[if_neg (by simpa using hlim)]
   by_cases hn:n*sz=0
   ·have hn0:n=0:=by
     rcases Nat.mul_eq_zero.1 hn with h | h<;>omega
    subst hn0
    have hz1:∀ g:Nat→Value,(Array.range 0).map g=#[]:=fun g=>by simp
    rw[Nat.zero_mul,hz1] at e1
    simp only[Nat.zero_mul,if_true,Sem.run_bind,Sem.run_pure,Result.andThen_ok,hpl,hz1]
    rw[e1]
    simp[newRow]
   ·simp only[hn,if_false,Sem.run_bind,hv,Result.andThen_ok,Sem.run_pure,hpl]
    rw[e1]
    simp[newRow]
  exact wz this
 rw[← hrl] at hr
 exact ub hr (hk _ _ _ _ _ _ h (BB hI e2))
theorem PR {t e:TypeId} {n sz:Nat} {parts:Array (Nat × Operand)} {z:List AV} {f:Opd→AV} {rows:List (List AV)} (ho:o.op=.buildSlice t n parts)
  (he:elT P t=some e) (hsz:szT P e=some sz) (hz:wL P e=some z) (hlim:n*sz≤16777216) (hzl:z.length=sz) (h0:0<sz)
  (hI:∀ b o,I b o→b<w.heap.size) (hx:∀ p∈parts.toList,R I w β lam (f (zm p.2)) (a.eval p.2))
  (hf:vT sz (List.replicate n z) (parts.toList.map (·.1)) ((parts.toList.map fun p=>zm p.2).map f)=some rows) (h:k (.list sz .full rows) none)
  (hk:yp w I β lam d k a o.dst K):o.wp P a w K Q:=by
 obtain ⟨v,hv,hvs,hA⟩:=jN (P:=P) (I:=I) (w:=w) (n:=n) hz hzl
 have hu:P.underlying t=some (.slice e):=by
  unfold elT at he
  split at he<;>simp_all
 have hpl:(parts.map fun (i,x)=>(i,a.eval x)).toList=parts.toList.map fun p=>(p.1,a.eval p.2):=by simp
 obtain ⟨A',e1,e2⟩:=Dz (β:=β) (lam:=lam) (parts.toList.map fun p=>(p.1,a.eval p.2)) ((parts.toList.map fun p=>zm p.2).map f) _ rows _ (fun j i u hj=>by
   simp only[List.getElem?_map,Option.map_eq_some_iff] at hj
   obtain ⟨p,hp',he⟩:=hj
   simp only[Prod.mk.injEq] at he
   obtain ⟨rfl,rfl⟩:=he
   exact ⟨f (zm p.2),by simp[hp'],hx p (List.mem_iff_getElem?.2 ⟨j,hp'⟩)⟩) (by simp) (by simpa [Function.comp_def] using hf) hA
 have hrl:rows.length=n:=by
  have:∀ (is:List Nat) (xs:List AV) (rows rows':List (List AV)),vT sz rows is xs=some rows'→rows'.length=rows.length:=by
   intro is
   induction is with
   | nil =>
    intro xs rows rows' h
    cases xs<;>simp[vT] at h
    rw[h]
   | cons i is ih =>
    intro xs rows rows' h
    cases xs with
    | nil=>simp[vT] at h
    | cons x xs =>
     simp only[vT] at h
     split at h
     ·split at h
      ·have:=ih _ _ _ h
       simpa using this
      ·cases h
     ·cases h
  have:=this _ _ _ _ hf
  simpa using this
 have hr:(execOp a.eval o).run P w=.ok (.value (.slice (some ⟨w.heap.size,0,none⟩) rows.length rows.length)) (w.alloc (.cells A' e)):=by
  simp only[execOp,ho]
  have:(Instr.buildSlice t n (parts.map fun (i,x)=>(i,a.eval x))).run P w=.ok (.slice (some ⟨w.heap.size,0,none⟩) rows.length rows.length) (w.alloc (.cells A' e)):=by
   unfold Instr.buildSlice
   simp only[Sem.run_bind,run_underlying hu,Result.andThen_ok,wt hsz]
   rw[if_neg (by simpa using hlim)]
   by_cases hn:n*sz=0
   ·have hn0:n=0:=by
     rcases Nat.mul_eq_zero.1 hn with h | h<;>omega
    subst hn0
    have hz1:∀ g:Nat→Value,(Array.range 0).map g=#[]:=fun g=>by simp
    rw[Nat.zero_mul,hz1] at e1
    simp only[Nat.zero_mul,if_true,Sem.run_bind,Sem.run_pure,Result.andThen_ok,hpl,hz1]
    rw[e1,hrl]
    simp[newRow]
   ·simp only[hn,if_false,Sem.run_bind,hv,Result.andThen_ok,Sem.run_pure,hpl]
    rw[e1,hrl]
    simp[newRow]
  exact wz this
 exact ub hr (hk _ _ _ _ _ _ h (Ex hI e2))
theorem abC {t e:TypeId} {l c:Operand} {sz by_:Nat} {z:List AV} {X Y:AV} {σ:Nat→Option zb} (ho:o.op=.makeSlice t l c) (he:elT P t=some e) (hsz:szT P e=some sz) (hby:byT P e=some by_)
  (hz:wL P e=some z) (hI:∀ b o,I b o→b<w.heap.size) (hd:σ d=none→β d=none) (hx:R I w β lam X (a.eval l)) (hy:R I w β lam Y (a.eval c))
  (h:eMk sz by_ z d σ [X,Y] k) (hk:yp w I β lam d k a o.dst K):o.wp P a w K Q:=by
 unfold eMk at h
 split at h
 ·rename_i k1 n k2 c' heq
  simp only[List.cons.injEq,and_true] at heq
  obtain ⟨rfl,rfl⟩:=heq
  obtain ⟨rfl,h0,h1,h2,hzl,hs0,hdd,h⟩:=h
  have hd:=hd hdd
  obtain ⟨m,rfl⟩:=Int.eq_ofNat_of_zero_le h0
  obtain ⟨v,hv,hvs,hA⟩:=jN (P:=P) (I:=I) (w:=w) (n:=m) hz hzl
  have hu:P.underlying t=some (.slice e):=by
   unfold elT at he
   split at he<;>simp_all
  have hbytes:∃ i,P.info? e=some i∧i.bytes=by_:=by
   unfold byT at hby
   simpa using hby
  obtain ⟨i,hi,hib⟩:=hbytes
  have hti:(typeInfo e).run P w=.ok i w:=by simp[typeInfo,hi]
  have hwr:IntKind.i64.wrap (m:Int)=m:=IntWalk.i64_in _ ⟨by omega,h2⟩
  have hsmall:¬ ((by_:Int)*m > 281474976710656):=by
   rw[Int.mul_comm]; omega
  have hr:(execOp a.eval o).run P w=.ok (.value (.slice (some ⟨w.heap.size,0,none⟩) m m))
    (w.alloc (.cells ((Array.range (m*sz)).map fun i=>v.cells[i%v.cells.size]!) e)):=by
   simp only[execOp,ho]
   refine wz ?_
   unfold Instr.makeSlice
   simp only[Sem.run_bind,run_underlying hu,Result.andThen_ok,hx.val_eq,hy.val_eq,asInt,asIntOf,Sem.run_pure,hti,hib,hwr]
   have hc1:(decide ((m:Int)<0)||decide ((by_:Int)*(m:Int) > 2^48))=false:=by
    simp only[Bool.or_eq_false_iff,decide_eq_false_iff_not]
    exact ⟨by omega,hsmall⟩
   have hc2:decide ((m:Int)<0)=false:=by simp
   have hc3:decide ((m:Int) > (m:Int))=false:=by simp
   rw[hc1,hc2,hc3]
   simp only[Bool.or_false,Bool.false_eq_true,if_false,Sem.run_bind,run_askRoom,Result.andThen_ok,wt hsz,Int.toNat_natCast]
   by_cases hn:m*sz=0
   ·have hn0:m=0:=by
     rcases Nat.mul_eq_zero.1 hn with h | h<;>omega
    subst hn0
    have hz1:∀ g:Nat→Value,(Array.range 0).map g=#[]:=fun g=>by simp
    simp[newRow]
    simp only[hz1]
   ·rw[if_neg hn]
    simp[newRow,hv]
  refine ub hr (hk _ _ _ _ I (fun k=>if k=d then some w.heap.size else β k) h ?_)
  have hb:Below w.heap.size w (w.alloc (.cells ((Array.range (m*sz)).map fun i=>v.cells[i%v.cells.size]!) e)):=(Below.refl _ _).alloc (Nat.le_refl _) _
  refine ⟨hb,fun _ _ h=>h,fun _ _ h=>.inl h,(fun h=>by cases h),fun ed hed=>?_,?_⟩
  ·simp only[Option.some.injEq] at hed
   subst hed
   refine ⟨w.heap.size,Nat.le_refl _,by simp,fun o h=>Nat.lt_irrefl _ (hI _ _ h),hd,rfl,hA.2.1,fun i r j c hi hj=>?_⟩
   simp only[Int.toNat_natCast] at hi
   have hlt:=hA.get hi hj
   refine ⟨_,?_,World.frozen?_alloc_new _ _ _ _,(hA.2.2 i r j c hi hj).2,(hA.2.2 i r j c hi hj).1.later hI hb (fun _ _ h=>h)⟩
   rw[World.cell?_alloc_new]
   generalize ((Array.range (m*sz)).map fun i=>v.cells[i%v.cells.size]!)=A at *
   simp[hlt]
  ·have:=R.sl (I:=I) (w:=w.alloc (.cells ((Array.range (m*sz)).map fun i=>v.cells[i%v.cells.size]!) e)) (β:=fun k=>if k=d then some w.heap.size else β k) (lam:=lam) d sz 0 m m w.heap.size (some ⟨w.heap.size,0,none⟩) (by simp) (Nat.le_refl _) (fun _=>by simp)
   simpa using this
 ·exact h.elim
theorem R.list_inv {sz:Nat} {m:Mode} {rows:List (List AV)} {v:Value} (h:R I w β lam (.list sz m rows) v) :
  ∃ a cap,v=.slice a rows.length cap∧rows.length≤cap∧(m=.full→cap=rows.length) ∧
   (rows≠[]→∃ b q,a=some ⟨b,q,none⟩∧(∀ (i:Nat) (r:List AV),rows[i]?=some r→r.length=sz) ∧
    ∀ (i:Nat) (r:List AV) j c,rows[i]?=some r→r[j]?=some c→∃ u,I b (q+i*sz+j)∧w.cell? ⟨b,q+i*sz+j,none⟩=some u∧single u=true∧R0 I w c u):=by
 have base:∀ {m:Mode} {v:Value},R0 I w (.list sz m rows) v→∃ a cap,v=.slice a rows.length cap∧rows.length≤cap∧(m=.full→cap=rows.length) ∧
   (rows≠[]→∃ b q,a=some ⟨b,q,none⟩∧(∀ (i:Nat) (r:List AV),rows[i]?=some r→r.length=sz) ∧
    ∀ (i:Nat) (r:List AV) j c,rows[i]?=some r→r[j]?=some c→∃ u,I b (q+i*sz+j)∧w.cell? ⟨b,q+i*sz+j,none⟩=some u∧single u=true∧R0 I w c u):=by
  intro m v h
  cases h with
  | listNil _ _ a cap hm ho=>exact ⟨a,cap,rfl,Nat.zero_le _,hm,fun h=>absurd rfl h⟩
  | list _ _ _ b q cap g hcap hm ho hrow hcell hc =>
   exact ⟨_,cap,rfl,hcap,hm,fun _=>⟨b,q,rfl,hrow,fun i r j c hi hj=>⟨g i j,(hcell i r j c hi hj).1,(hcell i r j c hi hj).2.1,(hcell i r j c hi hj).2.2,hc i r j c hi hj⟩⟩⟩
 cases h with
 | base h=>exact base h
 | own _ l _ a cap h hl =>
  obtain ⟨a',cap',hv,h1,_,h3⟩:=base h
  cases hv
  exact ⟨_,_,rfl,h1,by simp,h3⟩
theorem Yh:∀ {rows:List (List AV)} {ns:List Int},qZ rows=some ns→ns.length=rows.length∧∀ i,i<rows.length→rows[i]?=some [.val (.int .u8 (ns.getD i 0))]
 | [],ns,h=>by
  simp only[qZ,Option.some.injEq] at h
  subst h
  exact ⟨rfl,fun i hi=>by simp at hi⟩
 | r::rows,ns,h=>by
  unfold qZ at h
  split at h
  ·rename_i heq; cases heq
  ·rename_i n l heq
   simp only[List.cons.injEq] at heq
   obtain ⟨rfl,rfl⟩:=heq
   simp only[Option.map_eq_some_iff] at h
   obtain ⟨ns',h,rfl⟩:=h
   obtain ⟨h1,h2⟩:=Yh h
   refine ⟨by simp[h1],fun i hi=>?_⟩
   cases i with
   | zero=>rfl
   | succ i=>simpa using h2 i (by simpa using hi)
  ·cases h
theorem GK {s t:TypeId} {x:Operand} {sz:Nat} {m:Mode} {rows:List (List AV)} {ns:List Int} (ho:o.op=.convert s t x) (hx:R I w β lam (.list sz m rows) (a.eval x)) (hb:qZ rows=some ns)
  (ht:bB P s t=true) (h:k (.val (.string (strOfNums ns))) none) (hk:yp w I β lam d k a o.dst K):o.wp P a w K Q:=by
 obtain ⟨e,hs,he,hd⟩:∃ e,P.underlying s=some (.slice e)∧P.underlying e=some (.int .u8)∧P.underlying t=some .string:=by
  unfold bB at ht
  split at ht
  ·rename_i e hs
   split at ht
   ·rename_i he hd
    exact ⟨e,hs,he,hd⟩
   ·cases ht
  ·cases ht
 obtain ⟨h1,h2⟩:=Yh hb
 obtain ⟨av,cap,hv,hcap,_,hne⟩:=hx.list_inv
 have hr:(execOp a.eval o).run P w=.ok (.value (.string (strOfNums ns))) w:=by
  simp only[execOp,ho,hv]
  refine wz ?_
  by_cases hn:rows=[]
  ·subst hn
   have:ns=[]:=List.eq_nil_of_length_eq_zero (by simpa using h1)
   subst this
   rw[run_convert_bytes_string w s t e _ _ cap hs he hd]
   cases av with
   | none=>rfl
   | some q =>
    have hl:=run_loadCells_list (P:=P) w q [] (fun j v hj=>by simp at hj)
    exact run_bytesToString w q 0 cap [] (by simpa using hl)
  ·obtain ⟨b,q,rfl,hrow,hcell⟩:=hne hn
   refine run_convert_bytes_arg w s e hs he b q rows.length cap ns h1 (fun i hi=>?_) t hd
   have hg:=h2 i hi
   have hsz:sz=1:=by have:=hrow i _ hg; simpa using this.symm
   subst hsz
   obtain ⟨u,_,hc,_,hu⟩:=hcell i _ 0 _ hg rfl
   cases hu
   simpa using hc
 exact ub hr (hk _ _ _ _ _ _ h (Eff.same (.base (.val _))))
theorem R0.mk_list {sz:Nat} {m:Mode} {rows:List (List AV)} {b q cap:Nat} (hcap:rows.length≤cap) (hm:m=.full→cap=rows.length) (ho:∀ l,m≠.own l)
  (hrow:∀ (i:Nat) (r:List AV),rows[i]?=some r→r.length=sz)
  (hc:∀ (i:Nat) (r:List AV) j c,rows[i]?=some r→r[j]?=some c→∃ u,I b (q+i*sz+j)∧w.cell? ⟨b,q+i*sz+j,none⟩=some u∧single u=true∧R0 I w c u) :
  R0 I w (.list sz m rows) (.slice (some ⟨b,q,none⟩) rows.length cap):=by
 refine .list sz m rows b q cap (fun i j=>(w.cell? ⟨b,q+i*sz+j,none⟩).getD Go.undef) hcap hm ho hrow (fun i r j c hi hj=>?_) (fun i r j c hi hj=>?_)
 ·obtain ⟨u,h1,h2,h3,_⟩:=hc i r j c hi hj
  exact ⟨h1,by simp[h2],by simp[h2,h3]⟩
 ·obtain ⟨u,_,h2,_,h4⟩:=hc i r j c hi hj
  simpa [h2] using h4
theorem LI {t e:TypeId} {esz:Nat} {x i:Operand} {X Y:AV} (ho:o.op=.indexAddr t x i) (hel:elT P t=some e) (he:szT P e=some esz)
  (hx:R I w β lam X (a.eval x)) (hi:R I w β lam Y (a.eval i)) (h:qL esz [X,Y] k) (hk:yp w I β lam d k a o.dst K):o.wp P a w K Q:=by
 have hu:P.underlying t=some (.slice e):=by
  unfold elT at hel
  split at hel<;>simp_all
 have run:∀ b q (len cap:Nat) (ik:IntKind) (j:Int),a.eval x=.slice (some ⟨b,q,none⟩) len cap→a.eval i=.int ik j→0≤j→j<len →
   (execOp a.eval o).run P w=.ok (.value (.pointer (some ⟨b,q+j.toNat * esz,none⟩))) w:=by
  intro b q len cap ik j hv hj h0 h1
  simp[execOp,ho,hv,hj,Instr.indexAt,asIntOf,run_underlying hu,h0,h1,wt he,addr_add]
 have lst:∀ {sz':Nat} {m:Mode} {rows:List (List AV)} {ik:IntKind} {n:Int},R I w β lam (.list sz' m rows) (a.eval x)→R I w β lam (.val (.int ik n)) (a.eval i)→0≤n→n<rows.length→sz'=esz →
   (match rows[n.toNat]? with | some r=>k (.ro r) none | none=>False)→o.wp P a w K Q:=by
  intro sz' m rows ik n hx hi h0 h1 e h9
  subst e
  obtain ⟨av,cap,hv,hcap,_,hne⟩:=hx.list_inv
  obtain ⟨b,q,rfl,hrow,hc⟩:=hne (by intro e; subst e; simp at h1; omega)
  split at h9
  ·rename_i r hr
   refine zW (run _ _ _ _ _ _ hv hi.val_eq h0 h1) ?_ h9 hk
   have:=R.ro_drop (β:=β) (lam:=lam) (b:=b) (q:=q+n.toNat * sz') (cells:=r) (fun j c hj=>hc _ r j c hr hj) 0
   simpa using this
  ·exact h9.elim
 unfold qL at h
 split at h
 ·rename_i sz' m rows ik n heq
  simp only[List.cons.injEq,and_true] at heq
  obtain ⟨rfl,rfl⟩:=heq
  obtain ⟨h0,h1,h2,h⟩:=h
  exact lst hx hi h0 h1 h2 h
 ·rename_i j sz' off len ik n heq
  simp only[List.cons.injEq,and_true] at heq
  obtain ⟨rfl,rfl⟩:=heq
  obtain ⟨h0,h1,rfl,h⟩:=h
  obtain ⟨b,cap,av,hb,hv,_,hav⟩:=hx.sl_inv
  rw[hav (by omega)] at hv
  refine zW (run _ _ _ _ _ _ hv hi.val_eq h0 h1) ?_ h hk
  have:=R.eptr (I:=I) (w:=w) (lam:=lam) j sz' (off+n.toNat) 0 b hb
  rw[Nat.add_mul] at this
  simpa using this
 ·rename_i j sz' off len ik n heq
  simp only[List.cons.injEq,and_true] at heq
  obtain ⟨rfl,rfl⟩:=heq
  obtain ⟨h0,h1,rfl,h⟩:=h
  obtain ⟨cap,cp,av0,av,hl,hv,hlc,_,hav⟩:=hx.us_inv
  obtain ⟨b,q,rfl,rfl⟩:=hav (by omega)
  refine zW (run _ _ _ _ _ _ hv hi.val_eq h0 h1) ?_ h hk
  have:=R.up (I:=I) (w:=w) (β:=β) (lam:=lam) j sz' (off+n.toNat) 0 cap b q hl
  rw[Nat.add_mul] at this
  simpa [Nat.add_assoc] using this
 ·rename_i sz' rows ik n heq
  simp only[List.cons.injEq,and_true] at heq
  obtain ⟨rfl,rfl⟩:=heq
  obtain ⟨hr,h0,h1,h2,h⟩:=h
  exact lst (.base (hx.lit_low hr)) hi h0 h1 h2 h
 ·exact h.elim
end
section
variable {P:Program} {I:Nat→Nat→Prop} {w:World} {β:zR} {lam:ya} {o:Oper} {a:Act} {K:Act→World→Prop}
  {Q:Exit→Act→World→Prop} {d:Nat} {k:AV→Option zb→Prop}
theorem v5 {ik:IntKind} {i:Int} {y:Nat} {code:BoundsCode} (h0:0≤i) (h1:i≤y) :
  (Instr.sliceBound (.int ik i) y code).run P w=.ok i.toNat w:=by
 simp[Instr.sliceBound,asIntOf,h0,h1]
def aaA (P:Program) (w:World) (n cap:Nat) (isSlice:Bool) (lo hi mx:Option Value) (kk:Nat→Nat→Bool→Prop):Prop :=
 ∃ l h' f m,kk l h' f∧l≤h'∧h'≤n∧h'≤m∧m≤cap∧(f=true→m=h') ∧
  (Instr.sliceBounds isSlice n cap lo hi mx).run P w=.ok (l,h',m) w
theorem gU {n cap:Nat} {lo hi mx:Option Operand} {e:Opd→AV} {kk:Nat→Nat→Bool→Prop} (isSlice:Bool)
  (h:wF n lo.isSome hi.isSome mx.isSome ((vQ lo++vQ hi++vQ mx).map e) kk) (hc:n≤cap)
  (hR:∀ x,lo=some x∨hi=some x∨mx=some x→R I w β lam (e (zm x)) (a.eval x)) :
  aaA P w n cap isSlice (lo.map a.eval) (hi.map a.eval) (mx.map a.eval) kk:=by
 unfold wF at h
 cases lo with
 | none =>
  cases hi with
  | none =>
   cases mx with
   | none =>
    simp[vQ] at h
    exact ⟨0,n,false,cap,h,Nat.zero_le _,Nat.le_refl _,hc,Nat.le_refl _,by simp,by simp[Instr.sliceBounds]⟩
   | some z=>simp[vQ] at h
  | some y =>
   have hy:=hR y (.inr (.inl rfl))
   cases mx with
   | none =>
    clear hR
    simp[vQ] at h
    split at h<;>simp_all
    rename_i ik j _
    have hv:=hy.val_eq
    obtain ⟨h0,h1,h2⟩:=h
    refine ⟨0,j.toNat,false,cap,h2,Nat.zero_le _,by omega,by omega,Nat.le_refl _,by simp,?_⟩
    simp[Instr.sliceBounds,hv,v5 (P:=P) (w:=w) h0 (show j≤cap by omega)]
   | some z =>
    have hz:=hR z (.inr (.inr rfl))
    clear hR
    simp[vQ] at h
    split at h<;>simp_all
    rename_i ik j ik' m _
    have hv:=hy.val_eq
    have hv':=hz.val_eq
    obtain ⟨h0,rfl,h1,h2⟩:=h
    refine ⟨0,j.toNat,true,j.toNat,h2,Nat.zero_le _,by omega,Nat.le_refl _,by omega,by simp,?_⟩
    simp[Instr.sliceBounds,hv,hv',v5 (P:=P) (w:=w) h0 (show j≤cap by omega),v5 (P:=P) (w:=w) h0 (show j≤j.toNat by omega)]
 | some x =>
  have hx:=hR x (.inl rfl)
  cases hi with
  | none =>
   cases mx with
   | none =>
    clear hR
    simp[vQ] at h
    split at h<;>simp_all
    rename_i ik j _
    have hv:=hx.val_eq
    obtain ⟨h0,h1,h2⟩:=h
    refine ⟨j.toNat,n,false,cap,h2,by omega,Nat.le_refl _,hc,Nat.le_refl _,by simp,?_⟩
    simp[Instr.sliceBounds,hv,v5 (P:=P) (w:=w) h0 h1]
   | some z=>simp[vQ] at h
  | some y =>
   have hy:=hR y (.inr (.inl rfl))
   cases mx with
   | none =>
    clear hR
    simp[vQ] at h
    split at h<;>simp_all
    rename_i ik j ik' m _
    have hv:=hx.val_eq
    have hv':=hy.val_eq
    obtain ⟨h0,h1,h2,h3⟩:=h
    refine ⟨j.toNat,m.toNat,false,cap,h3,by omega,by omega,by omega,Nat.le_refl _,by simp,?_⟩
    simp[Instr.sliceBounds,hv,hv',v5 (P:=P) (w:=w) (show 0≤m by omega) (show m≤cap by omega),v5 (P:=P) (w:=w) h0 (show j≤m.toNat by omega)]
   | some z =>
    have hz:=hR z (.inr (.inr rfl))
    clear hR
    simp[vQ] at h
    split at h<;>simp_all
    rename_i ik j ik' m ik'' q _
    have hv:=hx.val_eq
    have hv':=hy.val_eq
    have hv'':=hz.val_eq
    obtain ⟨h0,h1,rfl,h2,h3⟩:=h
    refine ⟨j.toNat,m.toNat,true,m.toNat,h3,by omega,by omega,Nat.le_refl _,by omega,by simp,?_⟩
    simp[Instr.sliceBounds,hv,hv',hv'',v5 (P:=P) (w:=w) (show 0≤m by omega) (show m≤cap by omega),v5 (P:=P) (w:=w) (show 0≤m by omega) (show m≤m.toNat by omega),v5 (P:=P) (w:=w) h0 (show j≤m.toNat by omega)]
theorem GP {t e:TypeId} {sz:Nat} {x:Operand} {lo hi mx:Option Operand} {f:Opd→AV} {X:AV} (ho:o.op=.slice t x lo hi mx) (he:elT P t=some e) (hsz:szT P e=some sz)
  (hx:R I w β lam X (a.eval x)) (hR:∀ y,lo=some y∨hi=some y∨mx=some y→R I w β lam (f (zm y)) (a.eval y))
  (h:rP sz lo.isSome hi.isSome mx.isSome (X::(vQ lo++vQ hi++vQ mx).map f) k) (hk:yp w I β lam d k a o.dst K):o.wp P a w K Q:=by
 have hu:P.underlying t=some (.slice e):=by
  unfold elT at he
  split at he<;>simp_all
 have run:∀ (av:Option Addr) (len cap l h' m:Nat),a.eval x=.slice av len cap →
   (Instr.sliceBounds true len cap (lo.map a.eval) (hi.map a.eval) (mx.map a.eval)).run P w=.ok (l,h',m) w →
   (execOp a.eval o).run P w=.ok (.value (.slice (if m=l then av else av.map (·.add (l*sz))) (h'-l) (m-l))) w:=by
  intro av len cap l h' m hv hb
  simp[execOp,ho,hv,Instr.sliceAt,Instr.slice,run_underlying hu,hb,wt hsz]
 unfold rP at h
 split at h
 ·rename_i sz' md rows xs heq
  simp only[List.cons.injEq] at heq
  obtain ⟨rfl,rfl⟩:=heq
  obtain ⟨hs,h⟩:=h
  obtain ⟨av,cap,hv,hcap,hfull,hne⟩:=hx.list_inv
  obtain ⟨l,h',fl,m,hkk,h1,h2,h3,h4,h5,hb⟩:=gU (P:=P) (I:=I) (w:=w) (β:=β) (lam:=lam) (a:=a) true h hcap hR
  refine zW (run _ _ _ _ _ _ hv hb) ?_ hkk hk
  have hlen:((rows.take h').drop l).length=h'-l:=by simp; omega
  by_cases hz:h'-l=0
  ·have hnil:(rows.take h').drop l=[]:=List.eq_nil_of_length_eq_zero (by omega)
   rw[hnil,hz]
   refine .base (.listNil _ _ _ _ (fun hf=>?_) (by split<;>simp))
   cases fl with
   | true=>have:=h5 rfl; omega
   | false=>simp at hf
  ·have hrne:rows≠[]:=by intro e; subst e; simp at h2; omega
   obtain ⟨b,q,rfl,hrow,hc⟩:=hne hrne
   have hs':sz'=sz:=hs.resolve_left hrne
   subst hs'
   rw[if_neg (show ¬ m=l by omega)]
   simp only[Option.map_some,addr_add]
   rw[← hlen]
   have hget:∀ (i:Nat) (r:List AV),((rows.take h').drop l)[i]?=some r→rows[l+i]?=some r:=by
    intro i r hi
    rw[List.getElem?_drop,List.getElem?_take] at hi
    split at hi
    ·exact hi
    ·cases hi
   refine .base (R0.mk_list (by rw[hlen]; omega) (fun hf=>?_) (by split<;>simp) (fun i r hi=>hrow _ _ (hget i r hi)) (fun i r j c hi hj=>?_))
   ·cases fl with
    | true=>have:=h5 rfl; omega
    | false=>simp at hf
   ·have:=hc (l+i) r j c (hget i r hi) hj
    rw[Nat.add_mul] at this
    have e:q+(l*sz'+i*sz')+j=q+l*sz'+i*sz'+j:=by omega
    rw[e] at this
    exact this
 ·rename_i j sz' off len xs heq
  simp only[List.cons.injEq] at heq
  obtain ⟨rfl,rfl⟩:=heq
  obtain ⟨rfl,h⟩:=h
  obtain ⟨b,cap,av,hb',hv,hcap,hav⟩:=hx.sl_inv
  obtain ⟨l,h',fl,m,hkk,h1,h2,h3,h4,h5,hb⟩:=gU (P:=P) (I:=I) (w:=w) (β:=β) (lam:=lam) (a:=a) true h hcap hR
  refine zW (run _ _ _ _ _ _ hv hb) (.sl _ _ _ _ _ b _ hb' (by omega) fun hne=>?_) hkk hk
  rw[if_neg (by omega),hav (by omega)]
  simp only[Option.map_some,addr_add]
  rw[Nat.add_mul]
 ·rename_i j sz' off len xs heq
  simp only[List.cons.injEq] at heq
  obtain ⟨rfl,rfl⟩:=heq
  obtain ⟨rfl,h⟩:=h
  obtain ⟨cap0,cp,av0,av,hl,hv,hlc,hoc,hav⟩:=hx.us_inv
  obtain ⟨l,h',fl,m,hkk,h1,h2,h3,h4,h5,hb⟩:=gU (P:=P) (I:=I) (w:=w) (β:=β) (lam:=lam) (a:=a) true h hlc hR
  refine zW (run _ _ _ _ _ _ hv hb) (.us _ _ _ _ cap0 _ av0 _ hl (by omega) (by omega) fun hne=>?_) hkk hk
  obtain ⟨b,q,rfl,rfl⟩:=hav (by omega)
  refine ⟨b,q,rfl,?_⟩
  rw[if_neg (by omega)]
  simp only[Option.map_some,addr_add]
  rw[Nat.add_mul,Nat.add_assoc]
 ·exact h.elim
end
end Go.Am
