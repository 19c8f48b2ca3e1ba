/-
  The abstract machine, part 2: operations, abstract states, the calculus 'awp', the translation of the model's code.
-/
import Derived.Test.YtljkjogggfdgiaaAm1
namespace Go.Am
open Go.RowKit

/-! ### lists as finite maps -/

def lk {α : Type} : List (Nat × α) → Nat → Option α
  | [], _ => none
  | (m, x) :: l, n => if m = n then some x else lk l n

def pt {α : Type} : List (Nat × α) → Nat → α → List (Nat × α)
  | [], n, x => [(n, x)]
  | (m, y) :: l, n, x => if m = n then (n, x) :: l else (m, y) :: pt l n x

def del {α : Type} (D : List Nat) : List (Nat × α) → List (Nat × α)
  | [] => []
  | (m, y) :: l => if D.elem m = true then del D l else (m, y) :: del D l

theorem lk_pt {α : Type} (l : List (Nat × α)) (n m : Nat) (x : α) : lk (pt l n x) m = if n = m then some x else lk l m := by
  induction l with
  | nil => simp [pt, lk]
  | cons p l ih =>
    obtain ⟨q, y⟩ := p
    simp only [pt]
    by_cases h : q = n
    · subst h; by_cases h2 : q = m <;> simp [lk, h2]
    · simp only [h, if_false, lk, ih]
      by_cases h2 : q = m
      · subst h2; simp [Ne.symm h]
      · simp [h2]

theorem lk_del {α : Type} (D : List Nat) (l : List (Nat × α)) (m : Nat) : lk (del D l) m = if D.elem m = true then none else lk l m := by
  induction l with
  | nil => simp [del, lk]
  | cons p l ih =>
    obtain ⟨q, y⟩ := p
    simp only [del]
    by_cases h : D.elem q = true
    · simp only [h, if_true, ih, lk]
      by_cases h2 : q = m
      · subst h2; rw [if_pos h, if_pos h]
      · rw [if_neg h2]
    · simp only [h, if_false, Bool.false_eq_true, lk, ih]
      by_cases h2 : q = m
      · subst h2; simp only [if_true]; rw [if_neg h]
      · rw [if_neg h2, if_neg h2]

theorem lk_mem {α : Type} {l : List (Nat × α)} {n : Nat} {x : α} (h : lk l n = some x) : (n, x) ∈ l := by
  induction l with
  | nil => simp [lk] at h
  | cons p l ih =>
    obtain ⟨q, y⟩ := p
    simp only [lk] at h
    by_cases h2 : q = n
    · subst h2; simp at h; subst h; simp
    · simp only [h2, if_false] at h; exact List.mem_cons_of_mem _ (ih h)

/-! ### values -/

inductive Opd where
  | t (n : Nat)
  | c (x : AV)

def ofV1 : Value → AV
  | .slice none 0 0 => .list 0 .full []
  | v => .val v

def ofV : Value → AV
  | .agg cs => if cs.all (·.oneCell') = true then .agg (cs.toList.map ofV1) else .undef
  | .tuple vs => .val (.tuple vs)
  | v => ofV1 v

def toV1 : AV → Option Value
  | .val v => some v
  | _ => none

def toVs : List AV → Option (List Value)
  | [] => some []
  | .val v :: l => (toVs l).map (v :: ·)
  | _ => none

def toV : AV → Option Value
  | .val v => some v
  | .agg cells => (toVs cells).map fun l => .agg l.toArray
  | _ => none

def trOpd : Operand → Opd
  | .tmp t => .t t
  | .const v => .c (ofV v)
  | .global g => .c (.val (.pointer (some ⟨g, 0, none⟩)))
  | .func f => .c (.fn (.func f) [])

def strip : AV → AV
  | .list sz (.own _) rows => .list sz .plain rows
  | x => x

/-- Nothing of the function's own is met through it. -/
def rf : AV → Bool
  | .ptr _ _ => false
  | .eptr _ _ _ _ => false
  | .sl _ _ _ _ => false
  | .fn _ _ => false
  | .us _ _ _ _ => false
  | .up _ _ _ _ => false
  | .tuple _ => false
  | _ => true

/-- Does it lead to the function's own variables? -/
def ref1 : AV → Bool
  | .ptr _ _ => true
  | .eptr _ _ _ _ => true
  | .sl _ _ _ _ => true
  | .us _ _ _ _ => true
  | .up _ _ _ _ => true
  | _ => false

def hasRef : AV → Bool
  | .fn _ caps => caps.any ref1
  | x => ref1 x

def isVal : AV → Bool
  | .val _ => true
  | _ => false

/-- No memory at all is met through it. -/
def pf1 : AV → Bool
  | .val _ => true
  | .agg cells => cells.all isVal
  | _ => false

def pf : AV → Bool
  | .tuple vs => vs.all pf1
  | x => pf1 x

def cellsOf : AV → Option (List AV)
  | .agg cs => some cs
  | .undef => none
  | .tuple _ => none
  | .val v => if single v = true then some [.val v] else none
  | x => some [x]

/-- Rows through which nothing of the function's own is met; as others see them. -/
def rowsRf (rows : List (List AV)) : Bool := rows.all fun r => r.all rf
def rowsSt (rows : List (List AV)) : List (List AV) := rows.map fun r => r.map strip

def snap1 (σ : Nat → Option Entry) : AV → Option AV
  | .ptr k off =>
    match σ k with
    | some (.var cells) => if (cells.drop off).all rf = true then some (.ro ((cells.drop off).map strip)) else none
    | _ => none
  | .eptr k sz i off =>
    match σ k with
    | some (.arr sz' rows) => if sz' = sz then (rows[i]?).map fun r => .ro (r.drop off) else none
    | _ => none
  | .sl k sz off len =>
    match σ k with
    | some (.arr sz' rows) => if sz' = sz ∧ off + len ≤ rows.length then some (.list sz .plain ((rows.drop off).take len)) else none
    | _ => none
  | .us l sz off len =>
    match σ l with
    | some (.uarr sz' rows) => if sz' = sz ∧ off + len ≤ rows.length ∧ rowsRf ((rows.drop off).take len) = true then some (.list sz .plain (rowsSt ((rows.drop off).take len))) else none
    | _ => none
  | .up l sz i off =>
    match σ l with
    | some (.uarr sz' rows) => match rows[i]? with
      | some r => if sz' = sz ∧ (r.drop off).all rf = true then some (.ro ((r.drop off).map strip)) else none
      | none => none
    | _ => none
  | .fn _ _ => none
  | .tuple _ => none
  | x => some (strip x)

def mapO {α β : Type} (f : α → Option β) : List α → Option (List β)
  | [] => some []
  | x :: l => match f x with
    | some y => (mapO f l).map (y :: ·)
    | none => none

def snap (σ : Nat → Option Entry) : AV → Option AV
  | .fn f caps => (mapO (snap1 σ) caps).map (.fn f)
  | .tuple cells => if cells.all rf = true then some (.tuple (cells.map strip)) else none
  | x => snap1 σ x

/-! ### a call -/

/-- The function returns 'r' when it is called with 'args', in whatever memory; nothing that was there turns. -/
def SoundCall (P : Program) (f : FuncId) (args : List AV) (r : AV) : Prop :=
  ∀ (I : Nat → Nat → Prop) (vs : Array Value) (w : World), (∀ b o, I b o → b < w.heap.size) → vs.size = args.length →
    (∀ i x, args[i]? = some x → R0 I w x (vs.getD i undef)) →
    Calls P f vs w fun e w' => ∃ v, e = .returned v ∧ Below w.heap.size w w' ∧ R0 (fun b o => (I b o ∨ w.heap.size ≤ b) ∧ b < w'.heap.size) w' r v

/-- The slots of this frame; what can be written; the slots of the frames behind; from where on this frame names what it makes. -/
structure St where
  env : List (Nat × AV)
  sto : List (Nat × Entry)
  out : List (List (Nat × AV)) := []
  base : Nat := 0

/-- What is known of a slot of a frame. -/
def St.look (s : St) : Nat × Nat → Option AV
  | (0, t) => lk s.env t
  | (d + 1, t) => (s.out[d]?).bind fun f => lk f t

/-- The function returns, when it is called with 'args' in the state 's' of its caller; it may write what its caller can write. -/
def CallI (P : Program) (f : FuncId) (args : List AV) (s : St) (K : AV → St → Prop) : Prop :=
  ∀ (F : Frame0) (a : Act) (w : World) (I : Nat → Nat → Prop) (β : Blocks) (lam : Owned), Inv F s.look (lk s.sto) I β lam a w → ∀ vs : Array Value, vs.size = args.length →
    (∀ i x, args[i]? = some x → R I w β lam x (vs.getD i undef)) →
    Calls P f vs w fun e w' => ∃ v, e = .returned v ∧ ∃ r s' I' β' lam', K r s' ∧ Inv F s'.look (lk s'.sto) I' β' lam' a w' ∧ R I' w' β' lam' r v

/-! ### operations -/

inductive AOp where
  | mov
  | pick
  | alloc (cells : List AV)
  | box
  | build (zero : List AV) (places : List (Nat × Nat))
  | mkslice (sz n : Nat) (zero : List AV) (places : List Nat)
  | load (n : Option Nat)
  | nilChk
  | bin (op : BinOp) (t : TypeId) (x y : Operand)
  | un (op : UnOp)
  | conv (s d : TypeId)
  | idxV (t : TypeId)
  | sliceV (t : TypeId) (lo hi mx : Bool)
  | mm (b : Builtin) (ts : Array TypeId) (t : TypeId)
  | field (off : Nat) (n : Option Nat)
  | faddr (off : Nat)
  | iaddrA (len esz : Nat)
  | iaddrS (sz : Nat)
  | idxA (len esz : Nat) (n : Option Nat)
  | slice (sz : Nat) (lo hi mx : Bool)
  | mk (sz bytes : Nat) (zero : List AV)
  | len (str : Bool)
  | extract (i : Nat)
  | mkfn (f : FuncId)
  | call (f : FuncId)
  | callv
  | store (n : Nat)
  | append (sz bytes : Nat)
  | copy (sz : Nat)
  | appendU (sz bytes : Nat)
  | mksliceU (sz n : Nat) (zero : List AV) (places : List Nat)
  | callI (f : FuncId)
  | callvI
  | nilS (neg : Bool)
  | chk (op : AOp)
  | start (ds : List Nat)

structure AOper where
  dst : Option Nat
  op : AOp
  xs : List Opd
  guard : Option (Nat × Bool)

def okFn (P : Program) (f : FuncId) : Bool :=
  match P.funcs[f]? with
  | none => false
  | some fn => fn.body.isSome && !(fn.name == "runtime.NumGoroutine")

/-- A part of a struct or an array. -/
def partA (cells : List AV) (off : Nat) : Option Nat → Option AV
  | none => cells[off]?
  | some n => if off + n ≤ cells.length then some (.agg ((cells.drop off).take n)) else none

def splice (cells : List AV) (off : Nat) (cs : List AV) : List AV := cells.take off ++ cs ++ cells.drop (off + cs.length)

def fillA (zero : List AV) : List (Nat × Nat) → List AV → Option (List AV)
  | [], [] => some zero
  | (off, n) :: ps, x :: xs =>
    match cellsOf x with
    | some cs => if cs.length = n ∧ off + n ≤ zero.length ∧ cs.all rf = true then fillA (splice zero off (cs.map strip)) ps xs else none
    | none => none
  | _, _ => none

def rowsA (n : Nat) (rows : List (List AV)) : List Nat → List AV → Option (List (List AV))
  | [], [] => some rows
  | i :: ps, x :: xs =>
    match cellsOf x with
    | some cs => if cs.length = n ∧ i < rows.length ∧ cs.all rf = true then rowsA n (rows.set i (cs.map strip)) ps xs else none
    | none => none
  | _, _ => none

def goLoad (cells : List AV) (off : Nat) : Option Nat → Option AV
  | none => cells[off]?
  | some n => if off + n ≤ cells.length ∧ ((cells.drop off).take n).all rf = true then some (.agg (((cells.drop off).take n).map strip)) else none

/-- The bounds of 'x[lo:hi:mx]' over a slice of 'n' elements. -/
def bnds (n : Nat) (lo hi mx : Bool) (xs : List AV) (k : Nat → Nat → Bool → Prop) : Prop :=
  match lo, hi, mx, xs with
  | false, false, false, [] => k 0 n false
  | true, false, false, [.val (.int _ l)] => 0 ≤ l ∧ l ≤ n ∧ k l.toNat n false
  | false, true, false, [.val (.int _ h)] => 0 ≤ h ∧ h ≤ n ∧ k 0 h.toNat false
  | true, true, false, [.val (.int _ l), .val (.int _ h)] => 0 ≤ l ∧ l ≤ h ∧ h ≤ n ∧ k l.toNat h.toNat false
  | false, true, true, [.val (.int _ h), .val (.int _ m)] => 0 ≤ h ∧ h = m ∧ m ≤ n ∧ k 0 h.toNat true
  | true, true, true, [.val (.int _ l), .val (.int _ h), .val (.int _ m)] => 0 ≤ l ∧ l ≤ h ∧ h = m ∧ m ≤ n ∧ k l.toNat h.toNat true
  | _, _, _, _ => False

def optV : Option Value → (AV → Option Entry → Prop) → Prop
  | some v, k => k (ofV v) none
  | none, _ => False

def optA : Option AV → (AV → Option Entry → Prop) → Prop
  | some v, k => k v none
  | none, _ => False

def eBin (P : Program) (op : BinOp) (t : TypeId) (ox oy : Operand) : List AV → (AV → Option Entry → Prop) → Prop
  | [x, y], k =>
    match toV x, toV y with
    | some a, some b => optV (semPure P (do eqGuard op t ox oy a b; binOp op t a b)) k
    | _, _ => False
  | _, _ => False

def eLoad (σ : Nat → Option Entry) (n : Option Nat) : List AV → (AV → Option Entry → Prop) → Prop
  | [.ptr j off], k =>
    match σ j with
    | some (.var cells) => optA (goLoad cells off n) k
    | _ => False
  | [.eptr j sz i off], k =>
    match σ j with
    | some (.arr sz' rows) => sz' = sz ∧ (match rows[i]? with
      | some r => optA (goLoad r off n) k
      | none => False)
    | _ => False
  | [.ro cells], k => optA (goLoad cells 0 n) k
  | [.up l sz i off], k =>
    match σ l with
    | some (.uarr sz' rows) => sz' = sz ∧ (match rows[i]? with
      | some r => optA (goLoad r off n) k
      | none => False)
    | _ => False
  | _, _ => False

def eIaddrA (len esz : Nat) : List AV → (AV → Option Entry → Prop) → Prop
  | [.ptr j off, .val (.int _ i)], k => 0 ≤ i ∧ i < len ∧ k (.ptr j (off + i.toNat * esz)) none
  | [.eptr j sz r off, .val (.int _ i)], k => 0 ≤ i ∧ i < len ∧ k (.eptr j sz r (off + i.toNat * esz)) none
  | [.ro cells, .val (.int _ i)], k => 0 ≤ i ∧ i < len ∧ k (.ro (cells.drop (i.toNat * esz))) none
  | [.up l sz r off, .val (.int _ i)], k => 0 ≤ i ∧ i < len ∧ k (.up l sz r (off + i.toNat * esz)) none
  | _, _ => False

def eIaddrS (sz : Nat) : List AV → (AV → Option Entry → Prop) → Prop
  | [.list sz' _ rows, .val (.int _ i)], k => 0 ≤ i ∧ i < rows.length ∧ sz' = sz ∧ (match rows[i.toNat]? with
      | some r => k (.ro r) none
      | none => False)
  | [.sl j sz' off len, .val (.int _ i)], k => 0 ≤ i ∧ i < len ∧ sz' = sz ∧ k (.eptr j sz (off + i.toNat) 0) none
  | [.us l sz' off len, .val (.int _ i)], k => 0 ≤ i ∧ i < len ∧ sz' = sz ∧ k (.up l sz (off + i.toNat) 0) none
  | _, _ => False

def eSlice (sz : Nat) (lo hi mx : Bool) : List AV → (AV → Option Entry → Prop) → Prop
  | .list sz' _ rows :: xs, k => (rows = [] ∨ sz' = sz) ∧ bnds rows.length lo hi mx xs fun l h f => k (.list sz' (if f = true then .full else .plain) ((rows.take h).drop l)) none
  | .sl j sz' off len :: xs, k => sz' = sz ∧ bnds len lo hi mx xs fun l h _ => k (.sl j sz (off + l) (h - l)) none
  | .us j sz' off len :: xs, k => sz' = sz ∧ bnds len lo hi mx xs fun l h _ => k (.us j sz (off + l) (h - l)) none
  | _, _ => False

def eMk (sz bytes : Nat) (zero : List AV) (d : Nat) (σ : Nat → Option Entry) : List AV → (AV → Option Entry → Prop) → Prop
  | [.val (.int _ l), .val (.int _ c)], k => l = c ∧ 0 ≤ l ∧ l * bytes ≤ 140737488355328 ∧ l ≤ 9223372036854775807 ∧ zero.length = sz ∧ 0 < sz ∧ σ d = none ∧ k (.sl d sz 0 l.toNat) (some (.arr sz (List.replicate l.toNat zero)))
  | _, _ => False

def eLen1 (str : Bool) (k : AV → Option Entry → Prop) : AV → Prop
  | .list _ _ rows => str = false ∧ k (.val (.int .i64 rows.length)) none
  | .sl _ _ _ len => str = false ∧ k (.val (.int .i64 len)) none
  | .us _ _ _ len => str = false ∧ k (.val (.int .i64 len)) none
  | .val (.string s) => str = true ∧ k (.val (.int .i64 s.size)) none
  | _ => False
def eLen (str : Bool) (xs : List AV) (k : AV → Option Entry → Prop) : Prop :=
  match xs with
  | [x] => eLen1 str k x
  | _ => False

def eCall (P : Program) (f : FuncId) (σ : Nat → Option Entry) (xs : List AV) (k : AV → Option Entry → Prop) : Prop :=
  match mapO (snap σ) xs with
  | some args => ∃ r, SoundCall P f args r ∧ (xs.any hasRef = true → pf r = true) ∧ k r none
  | none => False

/-- The operations that change nothing that was there: the value, and a new variable of the function's own. -/
def evalE (P : Program) (d : Nat) (op : AOp) (xs : List AV) (σ : Nat → Option Entry) (k : AV → Option Entry → Prop) : Prop :=
  match op with
  | .mov => match xs with
    | [x] => k x none
    | _ => False
  | .pick => match xs with
    | [.val (.bool t), a, b] => (t = true → k a none) ∧ (t = false → k b none)
    | _ => False
  | .alloc cells => σ d = none ∧ k (.ptr d 0) (some (.var cells))
  | .box => match xs with
    | [x] => match cellsOf x with
      | some cs => σ d = none ∧ k (.ptr d 0) (some (.var cs))
      | none => False
    | _ => False
  | .build zero places => match fillA zero places xs with
    | some cs => k (.agg cs) none
    | none => False
  | .mkslice sz n zero places => match rowsA sz (List.replicate n zero) places xs with
    | some rows => zero.length = sz ∧ 0 < sz ∧ k (.list sz .full rows) none
    | none => False
  | .load n => eLoad σ n xs k
  | .nilChk => match xs with
    | [.ptr j off] => k (.ptr j off) none
    | [.eptr j sz i off] => k (.eptr j sz i off) none
    | [.up j sz i off] => k (.up j sz i off) none
    | [.ro cells] => k (.ro cells) none
    | [.fn (.func f) caps] => k (.fn (.func f) caps) none
    | _ => False
  | .bin op t ox oy => eBin P op t ox oy xs k
  | .un op => match xs with
    | [.val v] => optV (semPure P (Op.unary op v)) k
    | _ => False
  | .conv s d' => match xs with
    | [.val v] => optV (semPure P (convert s d' v)) k
    | _ => False
  | .idxV t => match xs with
    | [x, .val i] => match toV x with
      | some a => optV (semPure P (Instr.index t a i)) k
      | none => False
    | _ => False
  | .sliceV _ lo hi mx => match xs with
    | .val (.string s) :: ys => bnds s.size lo hi mx ys fun l h _ => mx = false ∧ k (.val (.string (s.extract l h))) none
    | _ => False
  | .mm b ts t => match toVs xs with
    | some vs => optV (semPure P (if b = .max then Builtin.max_ ts t vs.toArray else Builtin.min_ ts t vs.toArray)) k
    | none => False
  | .field off n => match xs with
    | [.agg cells] => optA (partA cells off n) k
    | _ => False
  | .faddr off => match xs with
    | [.ptr j o] => k (.ptr j (o + off)) none
    | [.eptr j sz i o] => k (.eptr j sz i (o + off)) none
    | [.up j sz i o] => k (.up j sz i (o + off)) none
    | [.ro cells] => k (.ro (cells.drop off)) none
    | _ => False
  | .iaddrA len esz => eIaddrA len esz xs k
  | .iaddrS sz => eIaddrS sz xs k
  | .idxA len esz n => match xs with
    | [.agg cells, .val (.int _ i)] => 0 ≤ i ∧ i < len ∧ optA (partA cells (i.toNat * esz) n) k
    | _ => False
  | .slice sz lo hi mx => eSlice sz lo hi mx xs k
  | .mk sz bytes zero => eMk sz bytes zero d σ xs k
  | .len s => eLen s xs k
  | .extract i => match xs with
    | [.tuple vs] => optA vs[i]? k
    | _ => False
  | .mkfn f => k (.fn (.func f) (xs.map strip)) none
  | .call f => eCall P f σ xs k
  | .callv => match xs with
    | .fn (.func f) caps :: ys => okFn P f = true ∧ eCall P f σ (ys ++ caps) k
    | _ => False
  | _ => False


/-! ### the other operations -/

def St.get (s : St) (n : Nat) : AV := (lk s.env n).getD .undef
def ev (s : St) : Opd → AV
  | .t n => (lk s.env n).getD .undef
  | .c x => x
def St.put (s : St) : Option Nat → AV → St
  | some d, x => { s with env := pt s.env d x }
  | none, _ => s
def St.new (s : St) : Option Nat → Option Entry → St
  | some d, some e => { s with sto := pt s.sto (s.base + d) e }
  | _, _ => s

/-- Does it lead to the array 'l'? -/
def tok1 (l : Nat) : AV → Bool
  | .us l' _ _ _ => l' == l
  | .up l' _ _ _ => l' == l
  | .fn _ _ => true
  | .tuple _ => true
  | _ => false
/-- The owner 'l' is another one now: whoever held it holds a plain slice; what led to the array 'l' leads nowhere. -/
def dg (l : Nat) : AV → AV
  | .list sz (.own l') rows => if l' = l then .list sz .plain rows else .list sz (.own l') rows
  | .us l' sz off len => if l' = l then .undef else .us l' sz off len
  | .up l' sz i off => if l' = l then .undef else .up l' sz i off
  | .fn f caps => if caps.any (tok1 l) = true then .undef else .fn f caps
  | .tuple cells => if cells.any (tok1 l) = true then .undef else .tuple cells
  | x => x
def rowsDg (l : Nat) (rows : List (List AV)) : List (List AV) := rows.map fun r => r.map (dg l)
def dgE (l : Nat) : Entry → Entry
  | .var cells => .var (cells.map (dg l))
  | .uarr sz rows => .uarr sz (rowsDg l rows)
  | e => e
def St.dg (s : St) (l : Nat) : St := { s with env := s.env.map fun p => (p.1, Am.dg l p.2), sto := s.sto.map fun p => (p.1, dgE l p.2), out := s.out.map fun f => f.map fun p => (p.1, Am.dg l p.2) }

def eStore (n : Nat) (s : St) (dst : Option Nat) : List AV → (St → Prop) → Prop
  | [.ptr j off, x], K =>
    match lk s.sto j, cellsOf x with
    | some (.var cells), some cs => cs.length = n ∧ off + n ≤ cells.length ∧ dst = none ∧ K { s with sto := pt s.sto j (.var (splice cells off cs)) }
    | _, _ => False
  | [.eptr j sz i off, x], K =>
    match lk s.sto j, cellsOf x with
    | some (.arr sz' rows), some cs => sz' = sz ∧ cs.length = n ∧ off + n ≤ sz ∧ i < rows.length ∧ cs.all rf = true ∧ dst = none ∧
        (match rows[i]? with
         | some r => K { s with sto := pt s.sto j (.arr sz (rows.set i (splice r off (cs.map strip)))) }
         | none => False)
    | _, _ => False
  | [.up l sz i off, x], K =>
    match lk s.sto l, cellsOf x with
    | some (.uarr sz' rows), some cs => sz' = sz ∧ cs.length = n ∧ off + n ≤ sz ∧ dst = none ∧
        (match rows[i]? with
         | some r => K { s with sto := pt s.sto l (.uarr sz (rows.set i (splice r off cs))) }
         | none => False)
    | _, _ => False
  | _, _ => False

/-- The rows that an append adds. -/
def addRows (σ : Nat → Option Entry) (sz : Nat) : AV → (List (List AV) → Prop) → Prop
  | .list sz' _ rows, k => (rows = [] ∨ sz' = sz) ∧ k rows
  | .sl j sz' off len, k => sz' = sz ∧ (match σ j with
      | some (.arr sz'' rows) => sz'' = sz ∧ off + len ≤ rows.length ∧ k ((rows.drop off).take len)
      | _ => False)
  | .us j sz' off len, k => sz' = sz ∧ (match σ j with
      | some (.uarr sz'' rows) => sz'' = sz ∧ off + len ≤ rows.length ∧ rowsRf ((rows.drop off).take len) = true ∧ k (rowsSt ((rows.drop off).take len))
      | _ => False)
  | .val (.string b), k => sz = 1 ∧ k (b.data.toList.map fun x => [.val (.int .u8 x.toNat)])
  | _, _ => False

def eAppend (sz bytes : Nat) (s : St) (dst : Option Nat) (K : St → Prop) : List AV → Prop
  | [.list sz1 m rows1, x] => addRows (lk s.sto) sz x fun rows2 =>
      0 < sz ∧ (rows1.length + rows2.length) * bytes ≤ 140737488355328 ∧ rows1.length + rows2.length ≤ 9223372036854775807 ∧
      match m, dst with
      | .full, some d => (rows1 = [] ∨ sz1 = sz) ∧ lk s.sto (s.base + d) = none ∧ K ((s.dg (s.base + d)).put (some d) (.list sz (.own (s.base + d)) (rows1 ++ rows2)))
      | .own l, some d => sz1 = sz ∧ lk s.sto l = none ∧ K ((s.dg l).put (some d) (.list sz (.own l) (rows1 ++ rows2)))
      | _, _ => False
  | _ => False

/-- The rows that an append to an array of the function's own adds: as they stand. -/
def addRowsU (σ : Nat → Option Entry) (sz : Nat) : AV → (List (List AV) → Prop) → Prop
  | .us j sz' off len, k => sz' = sz ∧ (match σ j with
      | some (.uarr sz'' rows) => sz'' = sz ∧ off + len ≤ rows.length ∧ k ((rows.drop off).take len)
      | _ => False)
  | x, k => addRows σ sz x k

/-- A slice literal whose array is the function's own. -/
def rowsAU (n : Nat) (rows : List (List AV)) : List Nat → List AV → Option (List (List AV))
  | [], [] => some rows
  | i :: ps, x :: xs =>
    match cellsOf x with
    | some cs => if cs.length = n ∧ i < rows.length then rowsAU n (rows.set i cs) ps xs else none
    | none => none
  | _, _ => none
def eMksliceU (sz n : Nat) (zero : List AV) (places : List Nat) (s : St) (dst : Option Nat) (K : St → Prop) (xs : List AV) : Prop :=
  match rowsAU sz (List.replicate n zero) places xs, dst with
  | some rows, some d => zero.length = sz ∧ 0 < sz ∧ lk s.sto (s.base + d) = none ∧
      K (((s.dg (s.base + d)).put (some d) (.us (s.base + d) sz 0 n)).new (some d) (some (.uarr sz (rowsDg (s.base + d) rows))))
  | _, _ => False

/-- A call that may write what this function can write. -/
def eCallI (P : Program) (f : FuncId) (xs : List AV) (s : St) (dst : Option Nat) (K : St → Prop) : Prop :=
  CallI P f xs s fun r s' => s'.base = s.base ∧ K (s'.put dst r)

/-- To append to a slice whose whole array is the function's own. -/
def eAppendU (sz bytes : Nat) (s : St) (dst : Option Nat) (K : St → Prop) : List AV → Prop
  | [.list _ .full rows1, x] => addRowsU (lk s.sto) sz x fun rows2 =>
      0 < sz ∧ (rows1.length + rows2.length) * bytes ≤ 140737488355328 ∧ rows1.length + rows2.length ≤ 9223372036854775807 ∧
      match dst with
      | some d => rows1 = [] ∧ lk s.sto (s.base + d) = none ∧
          K (((s.dg (s.base + d)).put (some d) (.us (s.base + d) sz 0 rows2.length)).new (some d) (some (.uarr sz (rowsDg (s.base + d) rows2))))
      | none => False
  | [.us l sz1 off len, x] => addRowsU (lk s.sto) sz x fun rows2 =>
      0 < sz ∧ (len + rows2.length) * bytes ≤ 140737488355328 ∧ len + rows2.length ≤ 9223372036854775807 ∧
      match lk s.sto l, dst with
      | some (.uarr sz' rows1), some d => sz' = sz ∧ sz1 = sz ∧ off = 0 ∧ len = rows1.length ∧
          K ({ (s.dg l) with sto := pt (s.dg l).sto l (.uarr sz (rowsDg l (rows1 ++ rows2))) }.put (some d) (.us l sz 0 (len + rows2.length)))
      | _, _ => False
  | _ => False

/-- To hold a slice against nil: of an empty one nothing is known. -/
def nilN : AV → Option Nat
  | .list _ _ rows => some rows.length
  | .sl _ _ _ n => some n
  | .us _ _ _ n => some n
  | _ => none
def eNilS (neg : Bool) (s : St) (dst : Option Nat) (K : St → Prop) : List AV → Prop
  | [x] => match nilN x with
    | some n => (n = 0 → K (s.put dst (.val (.bool true))) ∧ K (s.put dst (.val (.bool false)))) ∧ (n ≠ 0 → K (s.put dst (.val (.bool neg))))
    | none => False
  | _ => False

/-- What 'copy' reads. -/
def cpRows (σ : Nat → Option Entry) (sz : Nat) : AV → (List (List AV) → Prop) → Prop
  | .val _, _ => False
  | x, k => addRows σ sz x k

def eCopy (sz : Nat) (s : St) (dst : Option Nat) (K : St → Prop) : List AV → Prop
  | [.sl j sz1 off len, x] => sz1 = sz ∧ 0 < sz ∧ cpRows (lk s.sto) sz x fun rows2 =>
      (match lk s.sto j with
       | some (.arr sz' rows) => sz' = sz ∧ off + len ≤ rows.length ∧ rows2.length ≤ len ∧
           K (({ s with sto := pt s.sto j (.arr sz (rows.take off ++ rows2 ++ rows.drop (off + rows2.length))) }).put dst (.val (.int .i64 (rows2.length : Nat))))
       | _ => False)
  | _ => False

/-- The variable 'k' is written no more: what led to it is a plain slice, or a pointer that only reads. -/
def frz (k : Nat) (e : Entry) : AV → AV
  | .sl j sz off len => if j = k then (match e with
      | .arr sz' rows => if sz' = sz ∧ off + len ≤ rows.length then .list sz .plain ((rows.drop off).take len) else .undef
      | _ => .undef) else .sl j sz off len
  | .ptr j off => if j = k then (match e with
      | .var cells => if (cells.drop off).all rf = true then .ro ((cells.drop off).map strip) else .undef
      | _ => .undef) else .ptr j off
  | .eptr j sz i off => if j = k then .undef else .eptr j sz i off
  | .us j sz off len => if j = k then (match e with
      | .uarr sz' rows => if sz' = sz ∧ off + len ≤ rows.length ∧ rowsRf ((rows.drop off).take len) = true then .list sz .plain (rowsSt ((rows.drop off).take len)) else .undef
      | _ => .undef) else .us j sz off len
  | .up j sz i off => if j = k then .undef else .up j sz i off
  | .list sz (.own l) rows => if l = k ∧ e.isU = true then .list sz .plain rows else .list sz (.own l) rows
  | x => x
def frzE (k : Nat) (e : Entry) : Entry → Entry
  | .var cells => .var (cells.map (frz k e))
  | .uarr sz rows => .uarr sz (rows.map fun r => r.map (frz k e))
  | x => x

def ref1To (k : Nat) : AV → Bool
  | .ptr j _ => j == k
  | .eptr j _ _ _ => j == k
  | .sl j _ _ _ => j == k
  | .us j _ _ _ => j == k
  | .up j _ _ _ => j == k
  | .fn _ _ => true
  | .tuple _ => true
  | _ => false
def refsTo (k : Nat) : AV → Bool
  | .ptr j _ => j == k
  | .eptr j _ _ _ => j == k
  | .sl j _ _ _ => j == k
  | .us j _ _ _ => j == k
  | .up j _ _ _ => j == k
  | .fn _ caps => caps.any (ref1To k)
  | .tuple cells => cells.any (ref1To k)
  | _ => false
def anyRef (k : Nat) : List AV → Bool
  | [] => false
  | x :: l => refsTo k x || anyRef k l
def anyRefR (k : Nat) : List (List AV) → Bool
  | [] => false
  | r :: l => anyRef k r || anyRefR k l
def refsToE (k : Nat) : Entry → Bool
  | .var cells => anyRef k cells
  | .uarr _ rows => anyRefR k rows
  | _ => false
def noRef (k : Nat) : List (Nat × AV) → Bool
  | [] => true
  | (_, x) :: l => !refsTo k x && noRef k l
def noRefS (k : Nat) : List (Nat × Entry) → Bool
  | [] => true
  | (_, x) :: l => !refsToE k x && noRefS k l

def noRefO (k : Nat) : List (List (Nat × AV)) → Bool
  | [] => true
  | f :: l => noRef k f && noRefO k l

/-- Nothing leads to the variable 'k'. -/
def St.unmet (s : St) (k : Nat) : Bool := noRef k s.env && noRefS k s.sto && noRefO k s.out

/-- Slots and variables that are looked at no more. -/
def St.drop (s : St) (D : List Nat) : St := { s with env := del D s.env }
/-- Names of this frame. -/
def St.nm (s : St) (D : List Nat) : List Nat := D.map (s.base + ·)
/-- An array of the function's own: what leads to it may stay. -/
def isUO : Option Entry → Bool
  | some e => e.isU
  | none => false
def unmetD (σ : Nat → Option Entry) : List Nat → St → Bool
  | [], _ => true
  | k :: ks, s => (isUO (σ k) || s.unmet k) && unmetD σ ks s
def dropK (s : St) (D : List Nat) (K : St → Prop) : Prop :=
  unmetD (lk s.sto) (s.nm D) { s with sto := del (s.nm D) s.sto } = true ∧ K { s with sto := del (s.nm D) s.sto }

theorem anyRef_false {k : Nat} {l : List AV} (h : anyRef k l = false) : ∀ x ∈ l, refsTo k x = false := by
  induction l with
  | nil => simp
  | cons y l ih =>
    simp only [anyRef, Bool.or_eq_false_iff] at h
    intro x hx
    rcases List.mem_cons.1 hx with rfl | hx
    · exact h.1
    · exact ih h.2 x hx

theorem noRef_true {k : Nat} {l : List (Nat × AV)} (h : noRef k l = true) : ∀ p ∈ l, refsTo k p.2 = false := by
  induction l with
  | nil => simp
  | cons y l ih =>
    obtain ⟨q, z⟩ := y
    simp only [noRef, Bool.and_eq_true, Bool.not_eq_true'] at h
    intro x hx
    rcases List.mem_cons.1 hx with rfl | hx
    · exact h.1
    · exact ih h.2 x hx

theorem noRefS_true {k : Nat} {l : List (Nat × Entry)} (h : noRefS k l = true) : ∀ p ∈ l, refsToE k p.2 = false := by
  induction l with
  | nil => simp
  | cons y l ih =>
    obtain ⟨q, z⟩ := y
    simp only [noRefS, Bool.and_eq_true, Bool.not_eq_true'] at h
    intro x hx
    rcases List.mem_cons.1 hx with rfl | hx
    · exact h.1
    · exact ih h.2 x hx

theorem anyRefR_false {k : Nat} {l : List (List AV)} (h : anyRefR k l = false) : ∀ r ∈ l, anyRef k r = false := by
  induction l with
  | nil => simp
  | cons y l ih =>
    simp only [anyRefR, Bool.or_eq_false_iff] at h
    intro x hx
    rcases List.mem_cons.1 hx with rfl | hx
    · exact h.1
    · exact ih h.2 x hx
theorem noRefO_true {k : Nat} {l : List (List (Nat × AV))} (h : noRefO k l = true) : ∀ f ∈ l, noRef k f = true := by
  induction l with
  | nil => simp
  | cons y l ih =>
    simp only [noRefO, Bool.and_eq_true] at h
    intro x hx
    rcases List.mem_cons.1 hx with rfl | hx
    · exact h.1
    · exact ih h.2 x hx

theorem unmetD_true {σ : Nat → Option Entry} {D : List Nat} {s : St} (h : unmetD σ D s = true) : ∀ k ∈ D, isUO (σ k) = false → s.unmet k = true := by
  induction D with
  | nil => simp
  | cons y l ih =>
    simp only [unmetD, Bool.and_eq_true, Bool.or_eq_true] at h
    intro x hx hn
    rcases List.mem_cons.1 hx with rfl | hx
    · rcases h.1 with h1 | h1
      · rw [hn] at h1; cases h1
      · exact h1
    · exact ih h.2 x hx hn

def eFreeze (k : Nat) (s : St) (K : St → Prop) : Prop :=
  match lk s.sto k with
  | some e => let s' : St := { s with env := s.env.map fun p => (p.1, frz k e p.2), sto := (del [k] s.sto).map fun p => (p.1, frzE k e p.2), out := s.out.map fun f => f.map fun p => (p.1, frz k e p.2) }
      s'.unmet k = true ∧ K s'
  | none => False

def freezes : List Nat → St → (St → Prop) → Prop
  | [], s, K => K s
  | k :: ks, s, K => eFreeze (s.base + k) s fun s' => freezes ks s' K

/-- An operation that has come up already would yield what it has yielded. -/
def eChk (P : Program) (op : AOp) (s : St) (dst : Option Nat) (K : St → Prop) (xs : List AV) : Prop :=
  match dst with
  | some d => evalE P (s.base + d) op xs (lk (del [s.base + d] s.sto)) fun x e => lk s.env d = some x ∧ lk s.sto (s.base + d) = e ∧ K s
  | none => False

def freshP (σ : List (Nat × Entry)) (base : Nat) : List Nat → Prop
  | [] => True
  | d :: ds => lk σ (base + d) = none ∧ freshP σ base ds

def awpOp (P : Program) (o : AOper) (s : St) (K : St → Prop) : Prop :=
  match o.op with
  | .chk op => eChk P op s o.dst K (o.xs.map (ev s))
  | .start ds => freshP s.sto s.base ds ∧ K { s with env := del ds s.env }
  | .store n => eStore n s o.dst (o.xs.map (ev s)) K
  | .append sz bytes => eAppend sz bytes s o.dst K (o.xs.map (ev s))
  | .copy sz => eCopy sz s o.dst K (o.xs.map (ev s))
  | .appendU sz bytes => eAppendU sz bytes s o.dst K (o.xs.map (ev s))
  | .mksliceU sz n zero places => eMksliceU sz n zero places s o.dst K (o.xs.map (ev s))
  | .nilS neg => eNilS neg s o.dst K (o.xs.map (ev s))
  | .callI f => okFn P f = true ∧ eCallI P f (o.xs.map (ev s)) s o.dst K
  | .callvI => match o.xs.map (ev s) with
    | .fn (.func f) caps :: ys => okFn P f = true ∧ eCallI P f (ys ++ caps) s o.dst K
    | _ => False
  | op => evalE P (s.base + o.dst.getD 0) op (o.xs.map (ev s)) (lk s.sto) fun x e => K ((s.put o.dst x).new o.dst e)

def awpOper (P : Program) (o : AOper) (s : St) (K : St → Prop) : Prop :=
  match o.guard with
  | none => awpOp P o s K
  | some (g, b) => match s.get g with
    | .val (.bool c) => (c = b → awpOp P o s K) ∧ (c = !b → K (s.put o.dst (.val Go.undef)))
    | .val _ => K (s.put o.dst (.val Go.undef))
    | _ => False

def awpOps (P : Program) : List AOper → St → (St → Prop) → Prop
  | [], s, K => K s
  | o :: os, s, K => awpOper P o s fun s' => awpOps P os s' K

inductive ACode where
  | skip
  | region (draw : Bool) (FK : List Nat) (ops : List AOper) (D : List Nat) (DK : List Nat)
  | seq (a b : ACode)
  | cond (c : Opd) (t e : ACode)
  | block (id : Nat) (c : ACode)
  | loop (c : ACode)
  | exit (id : Nat)
  | ret

/-- Behind a round: another one is begun, and a number has fallen. -/
def loopK (J : Nat → St → Prop) (n : Nat) (K : Exit → St → Prop) : Exit → St → Prop
  | .normal, s => ∃ m, m < n ∧ J m s
  | e, s => K e s

def seqK (f : St → (Exit → St → Prop) → Prop) (K : Exit → St → Prop) : Exit → St → Prop
  | .normal, s => f s K
  | e, s => K e s
def blockK (id : Nat) (K : Exit → St → Prop) : Exit → St → Prop
  | .exit i, s => if i = id then K .normal s else K (.exit i) s
  | e, s => K e s

def awp (P : Program) : ACode → St → (Exit → St → Prop) → Prop
  | .skip, s, K => K .normal s
  | .region _ FK ops D DK, s, K => freezes FK s fun s0 => awpOps P ops s0 fun s' => dropK (s'.drop D) DK fun s'' => K .normal s''
  | .seq a b, s, K => awp P a s (seqK (awp P b) K)
  | .cond c t e, s, K => match ev s c with
    | .val (.bool b) => (b = true → awp P t s K) ∧ (b = false → awp P e s K)
    | _ => False
  | .block id c, s, K => awp P c s (blockK id K)
  | .loop c, s, K => ∃ (J : Nat → St → Prop) (n : Nat), J n s ∧ ∀ n s, J n s → awp P c s (loopK J n K)
  | .exit id, s, K => K (.exit id) s
  | .ret, s, K => K .ret s

end Go.Am
