/-
  The abstract machine, part 3: the model's code as abstract code, the types resolved.
-/
import Derived.Test.YtljkjogggfdgiaaAm2
namespace Go.Am

def szT (P : Program) (t : TypeId) : Option Nat := (P.info? t).map (·.size)
def byT (P : Program) (t : TypeId) : Option Nat := (P.info? t).map (·.bytes)
def agT (P : Program) (t : TypeId) : Bool :=
  match P.underlying t with
  | some (.struct _) => true
  | some (.array _ _) => true
  | _ => false
def ldT (P : Program) (t : TypeId) : Option (Option Nat) :=
  match P.underlying t with
  | none => none
  | some (.struct _) => (szT P t).map some
  | some (.array _ _) => (szT P t).map some
  | some _ => some none
def zeroT (P : Program) (t : TypeId) : Option (List AV) := ((P.info? t).bind (·.zero)).bind fun v => if v.cells.all (·.oneCell') = true then some (v.cells.toList.map ofV1) else none
def elT (P : Program) (t : TypeId) : Option TypeId :=
  match P.underlying t with
  | some (.slice e) => some e
  | _ => none
def fieldsT (P : Program) (t : TypeId) : Option (Array Field) :=
  match P.underlying t with
  | some (.struct fs) => some fs
  | _ => none
def arrT (P : Program) (t : TypeId) : Option (Nat × TypeId) :=
  match P.underlying t with
  | some (.array n e) => some (n, e)
  | _ => none
def isStrT (P : Program) (t : TypeId) : Bool :=
  match P.underlying t with
  | some .string => true
  | _ => false

/-- The places that a composite literal fills. -/
def placesT (P : Program) (t : TypeId) : List Nat → Option (List (Nat × Nat))
  | [] => some []
  | i :: is =>
    match fieldsT P t, arrT P t with
    | some fs, _ => match fs[i]? with
      | some f => match szT P f.type, placesT P t is with
        | some n, some ps => some ((f.offset, n) :: ps)
        | _, _ => none
      | none => none
    | none, some (_, e) => match szT P e, placesT P t is with
      | some n, some ps => some ((i * n, n) :: ps)
      | _, _ => none
    | none, none => none

def fieldsOk (P : Program) (t : TypeId) : Bool :=
  match P.underlying t with
  | some (.struct fs) => fs.toList.all fun f => (szT P f.type).isSome
  | some (.array _ e) => (szT P e).isSome
  | _ => false

def optL : Option Operand → List Opd
  | some x => [trOpd x]
  | none => []

def isCopy : Callee → Bool
  | .builtin .copy => true
  | _ => false
def trCopy (P : Program) (c : Call) : Option (AOp × List Opd) :=
  if isCopy c.callee = true then
    match c.argTypes[0]?, c.argTypes[1]? with
    | some t, some u => match elT P t with
      | some e => match szT P e with
        | some n => if c.argTypes.size = 2 ∧ (isStrT P u = true ∨ (elT P u).isSome = true) then some (.copy n, c.args.toList.map trOpd) else none
        | none => none
      | none => none
    | _, _ => none
  else none
theorem trCopy_inv {P : Program} {c : Call} {op : AOp} {xs : List Opd} (h : trCopy P c = some (op, xs)) :
    ∃ t u e' sz, op = .copy sz ∧ xs = c.args.toList.map trOpd ∧ c.callee = .builtin .copy ∧ c.argTypes = #[t, u] ∧ elT P t = some e' ∧ szT P e' = some sz ∧ (isStrT P u = true ∨ (elT P u).isSome = true) := by
  unfold trCopy at h
  split at h
  · rename_i hc
    split at h
    · rename_i t u h0 h1
      split at h
      · rename_i e' he
        split at h
        · rename_i n hn
          split at h
          · rename_i hcond
            obtain ⟨g1, g3⟩ := hcond
            simp only [Option.some.injEq, Prod.mk.injEq] at h
            obtain ⟨rfl, rfl⟩ := h
            refine ⟨t, u, e', n, rfl, rfl, ?_, ?_, he, hn, g3⟩
            · unfold isCopy at hc
              split at hc
              · rename_i h2; exact h2
              · cases hc
            · apply Array.ext
              · simpa using g1
              · intro i hi1 hi2
                have : i = 0 ∨ i = 1 := by simp at hi2; omega
                rcases this with rfl | rfl
                · rw [Array.getElem?_eq_getElem hi1] at h0; simpa using h0
                · rw [Array.getElem?_eq_getElem hi1] at h1; simpa using h1
          · cases h
        · cases h
      · cases h
    · cases h
  · cases h

def trCall (P : Program) (c : Call) (ty : TypeId) : Option (AOp × List Opd) :=
  match c.callee with
  | .value (.func f) => if okFn P f = true then some (.call f, c.args.toList.map trOpd) else none
  | .value (.tmp t) => some (.callv, .t t :: c.args.toList.map trOpd)
  | .builtin .len => match c.argTypes[0]? with
    | some t => match P.underlying t with
      | some .string => some (.len true, c.args.toList.map trOpd)
      | some (.slice _) => some (.len false, c.args.toList.map trOpd)
      | _ => none
    | none => none
  | .builtin .min => some (.mm .min c.argTypes ty, c.args.toList.map trOpd)
  | .builtin .max => some (.mm .max c.argTypes ty, c.args.toList.map trOpd)
  | .builtin .append => match c.argTypes[0]?, c.argTypes[1]? with
    | some t, some u => match elT P t with
      | some e => match szT P e, byT P e, zeroT P e with
        | some n, some by_, some z => if c.argTypes.size = 2 ∧ z.length = n ∧ (isStrT P u = true ∨ (elT P u).isSome = true) then some (.append n by_, c.args.toList.map trOpd) else none
        | _, _, _ => none
      | none => none
    | _, _ => none
  | _ => trCopy P c

/-- Is it a slice that is held against nil? -/
def nilQ (P : Program) (op : BinOp) (t : TypeId) (y : Operand) : Option Bool :=
  match op, y, P.underlying t with
  | .eql, .const (.slice none 0 0), some (.slice _) => some false
  | .neq, .const (.slice none 0 0), some (.slice _) => some true
  | _, _, _ => none

def trOp (P : Program) (ty : TypeId) : Op → Option (AOp × List Opd)
  | .move x => some (.mov, [trOpd x])
  | .assign x => some (.mov, [trOpd x])
  | .pick c a b => some (.pick, [trOpd c, trOpd a, trOpd b])
  | .alloc t => (zeroT P t).map fun z => (.alloc z, [])
  | .box _ x => some (.box, [trOpd x])
  | .build t parts => match zeroT P t, placesT P t (parts.toList.map (·.1)) with
    | some z, some ps => if fieldsOk P t = true then some (.build z ps, parts.toList.map fun p => trOpd p.2) else none
    | _, _ => none
  | .buildSlice t n parts => match elT P t with
    | some e => match szT P e, zeroT P e with
      | some s, some z => if n * s ≤ 16777216 then some (.mkslice s n z (parts.toList.map (·.1)), parts.toList.map fun p => trOpd p.2) else none
      | _, _ => none
    | none => none
  | .load t x => (ldT P t).map fun n => (.load n, [trOpd x])
  | .store t a x => (szT P t).map fun n => (.store n, [trOpd a, trOpd x])
  | .nilCheck x => some (.nilChk, [trOpd x])
  | .binOp op t x y _ => match nilQ P op t y with
    | some neg => some (.nilS neg, [trOpd x])
    | none => some (.bin op t x y, [trOpd x, trOpd y])
  | .unOp op _ x => some (.un op, [trOpd x])
  | .convert s d x => some (.conv s d, [trOpd x])
  | .slice t x lo hi mx => match elT P t with
    | some e => (szT P e).map fun n => (.slice n lo.isSome hi.isSome mx.isSome, trOpd x :: (optL lo ++ optL hi ++ optL mx))
    | none => if isStrT P t = true then some (.sliceV t lo.isSome hi.isSome mx.isSome, trOpd x :: (optL lo ++ optL hi ++ optL mx)) else none
  | .fieldAddr t x i => match fieldsT P t with
    | some fs => match fs[i]? with
      | some f => match szT P f.type with
        | some n => if n = 0 then none else some (.faddr f.offset, [trOpd x])
        | none => none
      | none => none
    | none => none
  | .field t x i => match fieldsT P t with
    | some fs => match fs[i]? with
      | some f => (ldT P f.type).map fun n => (.field f.offset n, [trOpd x])
      | none => none
    | none => none
  | .indexAddr t x i => match elT P t, arrT P t with
    | some e, _ => (szT P e).map fun n => (.iaddrS n, [trOpd x, trOpd i])
    | none, some (len, e) => (szT P e).map fun n => (.iaddrA len n, [trOpd x, trOpd i])
    | none, none => none
  | .index t x i => match arrT P t with
    | some (len, e) => match szT P e, ldT P e with
      | some n, some l => some (.idxA len n l, [trOpd x, trOpd i])
      | _, _ => none
    | none => some (.idxV t, [trOpd x, trOpd i])
  | .makeSlice t l c => match elT P t with
    | some e => match szT P e, byT P e, zeroT P e with
      | some n, some by_, some z => if n = 0 then none else some (.mk n by_ z, [trOpd l, trOpd c])
      | _, _, _ => none
    | none => none
  | .extract x i => some (.extract i, [trOpd x])
  | .makeFunc (.func f) first caps => if first.size = 0 then some (.mkfn f, caps.toList.map trOpd) else none
  | .call c => trCall P c ty
  | _ => none

def trGuard (ops : Array Oper) : Option (Nat × Bool) → Option (Option (Nat × Bool))
  | none => some none
  | some (j, b) => match (ops[j]?).bind (·.dst) with
    | some d => some (some (d, b))
    | none => none

def dstOk (N : Nat) : Option Nat → Bool
  | some d => decide (d < N)
  | none => true

def trOper (P : Program) (N : Nat) (ops : Array Oper) (o : Oper) : Option AOper :=
  match trOp P o.type o.op, trGuard ops o.guard with
  | some (op, xs), some g => if dstOk N o.dst = true then some { dst := o.dst, op := op, xs := xs, guard := g } else none
  | _, _ => none

def trOpers (P : Program) (N : Nat) (ops : Array Oper) : List Oper → Option (List AOper)
  | [] => some []
  | o :: l => match trOper P N ops o, trOpers P N ops l with
    | some x, some y => some (x :: y)
    | _, _ => none

def looked (o : Oper) (ops : Array Oper) : List Nat := o.looksAt ops

/-- Operation 'i' waits for all that stand before it. -/
def waits (ops : Array Oper) (i : Nat) : Bool := Nat.land ((Region.before ops).getD i 0) (2 ^ i - 1) == 2 ^ i - 1

def isE : AOp → Bool
  | .store _ => false
  | .append _ _ => false
  | .copy _ => false
  | .appendU _ _ => false
  | .mksliceU _ _ _ _ => false
  | .callI _ => false
  | .callvI => false
  | .nilS _ => false
  | .chk _ => false
  | .start _ => false
  | _ => true

/-- Operation 'i' of the part whose order is open. -/
def freeOk (P : Program) (ops : Array Oper) (n i : Nat) : Bool :=
  match ops[i]? with
  | none => false
  | some o =>
    (match trOp P o.type o.op with
     | some (op, _) => isE op
     | none => false) &&
    (match o.dst with
     | some d => (List.range n).all (fun j => j == i || ((ops[j]?).map (fun q => q.dst != some d)).getD false)
     | none => false) &&
    (looked o ops).all fun t => (List.range n).all fun j =>
      ((ops[j]?).map (fun q => q.dst != some t)).getD false || (decide (j < i) && o.after.any (fun e => e.on == j && Region.binds .any e))

def prefixLen (ops : Array Oper) : Nat → Nat
  | 0 => 0
  | n + 1 => if waits ops n = true then prefixLen ops n else n + 1

/-- Every edge leads back. -/
def edgesBack (ops : Array Oper) : Bool :=
  (List.range ops.size).all fun i => match ops[i]? with
    | some o => o.after.all fun e => !Region.binds .any e || decide (e.on < i)
    | none => true

def drawOk (P : Program) (ops : Array Oper) : Bool :=
  let n := prefixLen ops ops.size
  edgesBack ops && P.follows .mixedOrders && (List.range n).all (freeOk P ops n)

/-! ### a region whose order is open, with operations in it that change what was there -/

def opAt (l : List AOper) (i : Nat) : AOper := l.getD i ⟨none, .mov, [], none⟩
/-- The operations, among the first 'n', that change what was there. -/
def spAll (l : List AOper) (n : Nat) : List Nat := (List.range n).filter fun i => !isE (opAt l i).op
/-- Behind how many of them does operation 'i' stand? -/
def phase (B : Array Nat) (sp : List Nat) (i : Nat) : Nat := (sp.filter fun p => (B.getD i 0).testBit p).length
def runsAt (B : Array Nat) (sp : List Nat) (l : List AOper) (n k : Nat) : List Nat := (List.range n).filter fun i => isE (opAt l i).op && phase B sp i == k
/-- Those that may come up before 'p' and behind it. -/
def chksAt (B : Array Nat) (sp : List Nat) (l : List AOper) (n k p : Nat) : List Nat :=
  (List.range n).filter fun i => isE (opAt l i).op && (decide (phase B sp i < k) && !(B.getD p 0).testBit i)
def chkOf (o : AOper) : AOper := { o with op := .chk o.op }
def planFrom (B : Array Nat) (sp0 : List Nat) (l : List AOper) (n : Nat) : Nat → List Nat → List AOper
  | k, [] => (runsAt B sp0 l n k).map (opAt l) ++ l.drop n
  | k, p :: sp => (runsAt B sp0 l n k).map (opAt l) ++ opAt l p :: ((chksAt B sp0 l n (k + 1) p).map (fun i => chkOf (opAt l i)) ++ planFrom B sp0 l n (k + 1) sp)
def dstsOf (l : List AOper) (n : Nat) : List Nat := (List.range n).filterMap fun i => (opAt l i).dst
def planAll (B : Array Nat) (l : List AOper) (n : Nat) : List AOper := ⟨none, .start (dstsOf l n), [], none⟩ :: planFrom B (spAll l n) l n 0 (spAll l n)

def lookOk (ops : Array Oper) (n i : Nat) : Bool :=
  match ops[i]? with
  | none => false
  | some o =>
    (match o.dst with
     | some d => (List.range n).all (fun j => j == i || ((ops[j]?).map (fun q => q.dst != some d)).getD false)
     | none => true) &&
    (looked o ops).all fun t => (List.range n).all fun j =>
      ((ops[j]?).map (fun q => q.dst != some t)).getD false || (decide (j < i) && o.after.any (fun e => e.on == j && Region.binds .any e))

def spOk : AOp → Bool
  | .store _ => true
  | .append _ _ => true
  | .copy _ => true
  | .nilS _ => true
  | _ => false

/-- The specials wait for each other. -/
def spSeq (B : Array Nat) (sp : List Nat) : Nat → List Nat → Bool
  | _, [] => true
  | k, p :: l => phase B sp p == k && spSeq B sp (k + 1) l

def freeMix (o : AOper) : Bool := !isE o.op || o.dst.isSome
def chksGo (B : Array Nat) (sp0 : List Nat) (l : List AOper) (n : Nat) : Nat → List Nat → Bool
  | _, [] => true
  | k, p :: sp => (chksAt B sp0 l n (k + 1) p).all (fun i => (opAt l i).guard.isNone) && chksGo B sp0 l n (k + 1) sp

/-- What an operation waits for does not stand behind more of them than it does. -/
def phOk (ops : Array Oper) (B : Array Nat) (sp0 : List Nat) (n : Nat) : Bool :=
  (List.range n).all fun i => match ops[i]? with
    | some o => o.after.all fun e => !Region.binds .any e || decide (phase B sp0 e.on ≤ phase B sp0 i)
    | none => true

def mixOk (P : Program) (ops : Array Oper) (B : Array Nat) (l : List AOper) (n : Nat) : Bool :=
  phOk ops B (spAll l n) n && edgesBack ops && P.follows .mixedOrders && (List.range n).all (lookOk ops n) && (List.range n).all (fun i => freeMix (opAt l i)) &&
  (spAll l n).all (fun p => spOk (opAt l p).op) && spSeq B (spAll l n) 0 (spAll l n) && chksGo B (spAll l n) l n 0 (spAll l n)

def trCode (P : Program) (N : Nat) : Code → Option ACode
  | .skip => some .skip
  | .region _ ops draw => match trOpers P N ops ops.toList with
    | some l => if draw = false ∨ drawOk P ops = true then some (.region draw [] l [] [])
      else if mixOk P ops (Region.before ops) l (prefixLen ops ops.size) = true then some (.region true [] (planAll (Region.before ops) l (prefixLen ops ops.size)) [] [])
      else none
    | none => none
  | .seq a b => match trCode P N a, trCode P N b with
    | some x, some y => some (.seq x y)
    | _, _ => none
  | .cond c a b => match trCode P N a, trCode P N b with
    | some x, some y => some (.cond (trOpd c) x y)
    | _, _ => none
  | .block id c => (trCode P N c).map (.block id)
  | .loop c => (trCode P N c).map .loop
  | .exit id => some (.exit id)
  | .scope c => trCode P N c
  | .label _ => some .skip
  | .ret => some .ret
  | _ => none

/-- An operation without what is noted of it: how it is looked at. Where the order is open, only what is an append may be noted. -/
def bareOp (draw : Bool) : AOp → AOp
  | .appendU sz b => .append sz b
  | .mksliceU sz n z ps => if draw = true then .mksliceU sz n z ps else .mkslice sz n z ps
  | .callI f => if draw = true then .callI f else .call f
  | .callvI => if draw = true then .callvI else .callv
  | op => op
def bareO (draw : Bool) (o : AOper) : AOper := { o with op := bareOp draw o.op }

/-- The code without what is noted beside it: the slots and variables that are dropped, what is frozen. -/
def bare : ACode → ACode
  | .region draw _ ops _ _ => .region draw [] (ops.map (bareO draw)) [] []
  | .seq a b => .seq (bare a) (bare b)
  | .cond c a b => .cond c (bare a) (bare b)
  | .block id c => .block id (bare c)
  | .loop c => .loop (bare c)
  | c => c

end Go.Am
