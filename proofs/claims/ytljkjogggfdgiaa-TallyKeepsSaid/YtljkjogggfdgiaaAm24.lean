/-
  The abstract machine, part 24: laws by which 'simp' reckons it, one operation after the other.
-/
import Derived.Test.YtljkjogggfdgiaaAm23
namespace Go.Am
open Go.RowKit

abbrev iv (n : Int) : AV := .val (.int .i64 n)
abbrev bv (b : Bool) : AV := .val (.bool b)

/-! ### what is still to be done, under names -/

def endC (D DK : List Nat) (K : Exit → St → Prop) : St → Prop := fun s => dropK (s.drop D) DK fun s => K .normal s
def regC (P : Program) (ops : List AOper) (D DK : List Nat) (K : Exit → St → Prop) : St → Prop := fun s => awpOps P ops s (endC D DK K)
def seqC (P : Program) (b : ACode) (K : Exit → St → Prop) : Exit → St → Prop := seqK (awp P b) K
def blockC (id : Nat) (K : Exit → St → Prop) : Exit → St → Prop := blockK id K
def loopC (J : Nat → St → Prop) (n : Nat) (K : Exit → St → Prop) : Exit → St → Prop := loopK J n K
def opsC (P : Program) (os : List AOper) (K : St → Prop) : St → Prop := fun s => awpOps P os s K
def putC (P : Program) (os : List AOper) (s : St) (d : Option Nat) (K : St → Prop) : AV → Option Entry → Prop := fun x e => awpOps P os ((s.put d x).new d e) K

/-- A test: only its condition is reckoned first. -/
def condC (x : AV) (A B : Prop) : Prop :=
  match x with
  | .val (.bool c) => (c = true → A) ∧ (c = false → B)
  | _ => False
def guardC (x : AV) (b : Bool) (A B : Prop) : Prop :=
  match x with
  | .val (.bool c) => (c = b → A) ∧ (c = !b → B)
  | .val _ => B
  | _ => False

/- not by 'rfl', as 'simp' would have it: so the laws of congruence below serve -/
theorem ev_t {s : St} {n : Nat} : ev s (.t n) = (lk s.env n).getD .undef := congrArg (fun x => x) rfl
theorem ev_c {s : St} {x : AV} : ev s (.c x) = x := congrArg (fun x => x) rfl
theorem get_eq {s : St} {n : Nat} : s.get n = (lk s.env n).getD .undef := congrArg (fun x => x) rfl
@[congr] theorem condC_congr {x x' : AV} {A B : Prop} (h : Unit → x = x') : condC x A B = condC x' A B := by rw [h ()]
@[congr] theorem guardC_congr {x x' : AV} {b : Bool} {A B : Prop} (h : Unit → x = x') : guardC x b A B = guardC x' b A B := by rw [h ()]

section
variable {P : Program} {s : St} {K : Exit → St → Prop} {KS : St → Prop} {os : List AOper}

theorem condC_true {A B : Prop} : condC (bv true) A B = A := by simp [condC]
theorem condC_false {A B : Prop} : condC (bv false) A B = B := by simp [condC]
theorem condC_open {c : Bool} {A B : Prop} : condC (bv c) A B = ((c = true → A) ∧ (c = false → B)) := propext Iff.rfl
theorem guardC_run {b : Bool} {A B : Prop} : guardC (bv b) b A B = A := by cases b <;> simp [guardC]
theorem guardC_skip1 {A B : Prop} : guardC (bv true) false A B = B := by simp [guardC]
theorem guardC_skip2 {A B : Prop} : guardC (bv false) true A B = B := by simp [guardC]
theorem guardC_none {b : Bool} {A B : Prop} : guardC (.val undef) b A B = B := propext Iff.rfl
theorem guardC_open {c b : Bool} {A B : Prop} : guardC (bv c) b A B = ((c = b → A) ∧ (c = !b → B)) := propext Iff.rfl

theorem awp_skip : awp P .skip s K = K .normal s := propext Iff.rfl
theorem awp_region {d : Bool} {FK : List Nat} {D DK : List Nat} {ops : List AOper} : awp P (.region d FK ops D DK) s K = freezes FK s (regC P ops D DK K) := propext Iff.rfl
theorem awp_seq {a b : ACode} : awp P (.seq a b) s K = awp P a s (seqC P b K) := propext Iff.rfl
theorem awp_cond {c : Opd} {a b : ACode} : awp P (.cond c a b) s K = condC (ev s c) (awp P a s K) (awp P b s K) := propext Iff.rfl
theorem awp_block {id : Nat} {a : ACode} : awp P (.block id a) s K = awp P a s (blockC id K) := propext Iff.rfl
theorem awp_loop {a : ACode} : awp P (.loop a) s K = ∃ (J : Nat → St → Prop) (n : Nat), J n s ∧ ∀ n s, J n s → awp P a s (loopC J n K) := propext Iff.rfl
theorem awp_exit {id : Nat} : awp P (.exit id) s K = K (.exit id) s := propext Iff.rfl
theorem awp_ret : awp P .ret s K = K .ret s := propext Iff.rfl

theorem regC_eq {D DK : List Nat} {ops : List AOper} : regC P ops D DK K s = awpOps P ops s (endC D DK K) := propext Iff.rfl
theorem endC_eq {D DK : List Nat} : endC D DK K s = (unmetD (lk s.sto) (DK.map (s.base + ·)) ⟨del D s.env, del (DK.map (s.base + ·)) s.sto, s.out, s.base⟩ = true ∧ K .normal ⟨del D s.env, del (DK.map (s.base + ·)) s.sto, s.out, s.base⟩) := propext Iff.rfl
theorem del_nil {α : Type} (l : List (Nat × α)) : del [] l = l := by
  induction l with
  | nil => rfl
  | cons p l ih => simp [del, ih]
theorem endC_nil {D : List Nat} : endC D [] K s = K .normal ⟨del D s.env, s.sto, s.out, s.base⟩ := by
  rw [endC_eq]
  simp [unmetD, del_nil]
theorem seqC_normal {b : ACode} : seqC P b K .normal s = awp P b s K := propext Iff.rfl
theorem seqC_exit {b : ACode} {i : Nat} : seqC P b K (.exit i) s = K (.exit i) s := propext Iff.rfl
theorem seqC_ret {b : ACode} : seqC P b K .ret s = K .ret s := propext Iff.rfl
theorem blockC_normal {i : Nat} : blockC i K .normal s = K .normal s := propext Iff.rfl
theorem blockC_exit {i j : Nat} : blockC i K (.exit j) s = if j = i then K .normal s else K (.exit j) s := propext Iff.rfl
theorem blockC_ret {i : Nat} : blockC i K .ret s = K .ret s := propext Iff.rfl
theorem loopC_normal {J : Nat → St → Prop} {n : Nat} : loopC J n K .normal s = ∃ m, m < n ∧ J m s := propext Iff.rfl
theorem loopC_exit {J : Nat → St → Prop} {n j : Nat} : loopC J n K (.exit j) s = K (.exit j) s := propext Iff.rfl
theorem loopC_ret {J : Nat → St → Prop} {n : Nat} : loopC J n K .ret s = K .ret s := propext Iff.rfl

theorem freezes_nil : freezes [] s KS = KS s := propext Iff.rfl

theorem ops_nil : awpOps P [] s KS = KS s := propext Iff.rfl
theorem ops_guard {d : Option Nat} {op : AOp} {xs : List Opd} {g : Nat} {b : Bool} : awpOps P (⟨d, op, xs, some (g, b)⟩ :: os) s KS =
    guardC (s.get g) b (awpOps P (⟨d, op, xs, none⟩ :: os) s KS) (awpOps P os (s.put d (.val undef)) KS) := propext Iff.rfl

variable {d : Nat}
theorem ops_mov {x : Opd} : awpOps P (⟨some d, .mov, [x], none⟩ :: os) s KS = awpOps P os ⟨pt s.env d (ev s x), s.sto, s.out, s.base⟩ KS := propext Iff.rfl
theorem ops_pick {c a b : Opd} : awpOps P (⟨some d, .pick, [c, a, b], none⟩ :: os) s KS = condC (ev s c) (awpOps P os ⟨pt s.env d (ev s a), s.sto, s.out, s.base⟩ KS) (awpOps P os ⟨pt s.env d (ev s b), s.sto, s.out, s.base⟩ KS) := by
  show (match [ev s c, ev s a, ev s b] with | [.val (.bool t), a, b] => (t = true → putC P os s (some d) KS a none) ∧ (t = false → putC P os s (some d) KS b none) | _ => False) = _
  unfold condC
  cases ev s c <;> try rfl
  rename_i v
  cases v <;> rfl
theorem ops_alloc {cells : List AV} : awpOps P (⟨some d, .alloc cells, [], none⟩ :: os) s KS = (lk s.sto (s.base + d) = none ∧ awpOps P os ⟨pt s.env d (.ptr (s.base + d) 0), pt s.sto (s.base + d) (.var cells), s.out, s.base⟩ KS) := propext Iff.rfl

/-- Operations in general. -/
theorem ops_E {d : Option Nat} {op : AOp} {xs : List Opd} (h : isE op = true) : awpOps P (⟨d, op, xs, none⟩ :: os) s KS = evalE P (s.base + d.getD 0) op (xs.map (ev s)) (lk s.sto) (putC P os s d KS) := by
  cases op <;> first | rfl | cases h

/-- A value comes of it, if any. -/
def optC (x : Option AV) (P : Program) (os : List AOper) (s : St) (d : Nat) (KS : St → Prop) : Prop :=
  match x with
  | some v => awpOps P os ⟨pt s.env d v, s.sto, s.out, s.base⟩ KS
  | none => False
theorem optC_some {v : AV} : optC (some v) P os s d KS = awpOps P os ⟨pt s.env d v, s.sto, s.out, s.base⟩ KS := propext Iff.rfl

theorem ops_bin {d : Option Nat} {o : BinOp} {t : TypeId} {ox oy : Operand} {x y : Opd} : awpOps P (⟨d, .bin o t ox oy, [x, y], none⟩ :: os) s KS = eBin P o t ox oy [ev s x, ev s y] (putC P os s d KS) := propext Iff.rfl
theorem ops_load {d : Option Nat} {n : Option Nat} {x : Opd} : awpOps P (⟨d, .load n, [x], none⟩ :: os) s KS = eLoad (lk s.sto) n [ev s x] (putC P os s d KS) := propext Iff.rfl
theorem ops_iaddrA {d : Option Nat} {n m : Nat} {x y : Opd} : awpOps P (⟨d, .iaddrA n m, [x, y], none⟩ :: os) s KS = eIaddrA n m [ev s x, ev s y] (putC P os s d KS) := propext Iff.rfl
theorem ops_iaddrS {d : Option Nat} {n : Nat} {x y : Opd} : awpOps P (⟨d, .iaddrS n, [x, y], none⟩ :: os) s KS = eIaddrS n [ev s x, ev s y] (putC P os s d KS) := propext Iff.rfl
theorem ops_slice {d : Option Nat} {n : Nat} {a b c : Bool} {xs : List Opd} : awpOps P (⟨d, .slice n a b c, xs, none⟩ :: os) s KS = eSlice n a b c (xs.map (ev s)) (putC P os s d KS) := propext Iff.rfl
theorem ops_mk {d : Option Nat} {n m : Nat} {z : List AV} {x y : Opd} : awpOps P (⟨d, .mk n m z, [x, y], none⟩ :: os) s KS = eMk n m z (s.base + d.getD 0) (lk s.sto) [ev s x, ev s y] (putC P os s d KS) := propext Iff.rfl
theorem ops_len {d : Option Nat} {b : Bool} {x : Opd} : awpOps P (⟨d, .len b, [x], none⟩ :: os) s KS = eLen b [ev s x] (putC P os s d KS) := propext Iff.rfl
theorem ops_call {d : Option Nat} {f : FuncId} {xs : List Opd} : awpOps P (⟨d, .call f, xs, none⟩ :: os) s KS = eCall P f (lk s.sto) (xs.map (ev s)) (putC P os s d KS) := propext Iff.rfl
theorem ops_mkfn {d : Nat} {f : FuncId} {xs : List Opd} : awpOps P (⟨some d, .mkfn f, xs, none⟩ :: os) s KS = awpOps P os ⟨pt s.env d (.fn (.func f) ((xs.map (ev s)).map strip)), s.sto, s.out, s.base⟩ KS := propext Iff.rfl

def oneC (g : AV → Option AV) (x : AV) (P : Program) (os : List AOper) (s : St) (d : Nat) (KS : St → Prop) : Prop := optC (g x) P os s d KS
def unA (P : Program) (op : UnOp) : AV → Option AV
  | .val v => (semPure P (Op.unary op v)).map ofV
  | _ => none
def convA (P : Program) (a b : TypeId) : AV → Option AV
  | .val v => (semPure P (convert a b v)).map ofV
  | _ => none
def fieldA (off : Nat) (n : Option Nat) : AV → Option AV
  | .agg cells => partA cells off n
  | _ => none
def faddrA (off : Nat) : AV → Option AV
  | .ptr j o => some (.ptr j (o + off))
  | .eptr j sz i o => some (.eptr j sz i (o + off))
  | .up j sz i o => some (.up j sz i (o + off))
  | .ro cells => some (.ro (cells.drop off))
  | _ => none
def extrA (i : Nat) : AV → Option AV
  | .tuple vs => vs[i]?
  | _ => none
def nilA : AV → Option AV
  | .ptr j off => some (.ptr j off)
  | .eptr j sz i off => some (.eptr j sz i off)
  | .up j sz i off => some (.up j sz i off)
  | .ro cells => some (.ro cells)
  | .fn (.func f) caps => some (.fn (.func f) caps)
  | _ => none
theorem ops_un {o : UnOp} {x : Opd} : awpOps P (⟨some d, .un o, [x], none⟩ :: os) s KS = optC (unA P o (ev s x)) P os s d KS := by
  show evalE P (s.base + d) (.un o) [ev s x] (lk s.sto) (putC P os s (some d) KS) = _
  simp only [evalE]
  cases ev s x <;> try rfl
  rename_i v
  simp only [unA]
  cases semPure P (Op.unary o v) <;> rfl
theorem ops_conv {a b : TypeId} {x : Opd} : awpOps P (⟨some d, .conv a b, [x], none⟩ :: os) s KS = optC (convA P a b (ev s x)) P os s d KS := by
  show evalE P (s.base + d) (.conv a b) [ev s x] (lk s.sto) (putC P os s (some d) KS) = _
  simp only [evalE]
  cases ev s x <;> try rfl
  rename_i v
  simp only [convA]
  cases semPure P (convert a b v) <;> rfl
theorem ops_field {off : Nat} {n : Option Nat} {x : Opd} : awpOps P (⟨some d, .field off n, [x], none⟩ :: os) s KS = optC (fieldA off n (ev s x)) P os s d KS := by
  show evalE P (s.base + d) (.field off n) [ev s x] (lk s.sto) (putC P os s (some d) KS) = _
  simp only [evalE]
  cases ev s x <;> try rfl
  rename_i v
  simp only [fieldA]
  cases partA v off n <;> rfl
theorem ops_faddr {off : Nat} {x : Opd} : awpOps P (⟨some d, .faddr off, [x], none⟩ :: os) s KS = optC (faddrA off (ev s x)) P os s d KS := by
  show evalE P (s.base + d) (.faddr off) [ev s x] (lk s.sto) (putC P os s (some d) KS) = _
  simp only [evalE]
  cases ev s x <;> rfl
theorem ops_extract {i : Nat} {x : Opd} : awpOps P (⟨some d, .extract i, [x], none⟩ :: os) s KS = optC (extrA i (ev s x)) P os s d KS := by
  show evalE P (s.base + d) (.extract i) [ev s x] (lk s.sto) (putC P os s (some d) KS) = _
  simp only [evalE]
  cases ev s x <;> try rfl
  rename_i v
  simp only [extrA]
  cases v[i]? <;> rfl
theorem ops_nilChk {x : Opd} : awpOps P (⟨some d, .nilChk, [x], none⟩ :: os) s KS = optC (nilA (ev s x)) P os s d KS := by
  show evalE P (s.base + d) .nilChk [ev s x] (lk s.sto) (putC P os s (some d) KS) = _
  simp only [evalE]
  cases ev s x <;> try rfl
  rename_i f caps
  cases f <;> rfl
theorem ops_build {z : List AV} {ps : List (Nat × Nat)} {xs : List Opd} : awpOps P (⟨some d, .build z ps, xs, none⟩ :: os) s KS = optC ((fillA z ps (xs.map (ev s))).map .agg) P os s d KS := by
  show evalE P (s.base + d) (.build z ps) (xs.map (ev s)) (lk s.sto) (putC P os s (some d) KS) = _
  simp only [evalE]
  cases fillA z ps (xs.map (ev s)) <;> rfl
theorem ops_mkslice {sz n : Nat} {z : List AV} {ps : List Nat} {xs : List Opd} (h1 : z.length = sz) (h2 : 0 < sz) :
    awpOps P (⟨some d, .mkslice sz n z ps, xs, none⟩ :: os) s KS = optC ((rowsA sz (List.replicate n z) ps (xs.map (ev s))).map (.list sz .full)) P os s d KS := by
  show evalE P (s.base + d) (.mkslice sz n z ps) (xs.map (ev s)) (lk s.sto) (putC P os s (some d) KS) = _
  simp only [evalE]
  cases rowsA sz (List.replicate n z) ps (xs.map (ev s)) with
  | none => rfl
  | some rows => simp only [h1, h2, true_and]; rfl

/-- The end of a function. -/
def retC (ras : List ResA) (r : AV) : Exit → St → Prop := fun e s => (e = .normal ∨ e = .ret) ∧ resOf ras s = some r
theorem retC_ret {ras : List ResA} {r : AV} : retC ras r .ret s = (resOf ras s = some r) := by simp [retC]
theorem retC_normal {ras : List ResA} {r : AV} : retC ras r .normal s = (resOf ras s = some r) := by simp [retC]
theorem sound' {f : FuncId} {ac : ACode} {ras : List ResA} {N : Nat} {args : List AV} {r : AV} (ht : transl P f = some (bare ac, ras, N)) (hn : args.length ≤ N)
    (h : awp P ac ⟨initE 0 args, [], [], 0⟩ (retC ras r)) : SoundCall P f args r := sound ht hn h
/-- The end of a function whose result is known by less. -/
def retW (ras : List ResA) (r : AV) : Exit → St → Prop := fun e s => (e = .normal ∨ e = .ret) ∧ ∃ r0, resOf ras s = some r0 ∧ AV.imp r0 r
theorem retW_ret {ras : List ResA} {r : AV} : retW ras r .ret s = ∃ r0, resOf ras s = some r0 ∧ AV.imp r0 r := by simp [retW]
theorem retW_normal {ras : List ResA} {r : AV} : retW ras r .normal s = ∃ r0, resOf ras s = some r0 ∧ AV.imp r0 r := by simp [retW]
theorem soundW' {f : FuncId} {ac : ACode} {ras : List ResA} {N : Nat} {args : List AV} {r : AV} (ht : transl P f = some (bare ac, ras, N)) (hn : args.length ≤ N)
    (h : awp P ac ⟨initE 0 args, [], [], 0⟩ (retW ras r)) : SoundCall P f args r := soundW (fun _ _ h => h) ht hn h

def boxC (x : Option (List AV)) (P : Program) (os : List AOper) (s : St) (d : Nat) (KS : St → Prop) : Prop :=
  match x with
  | some cs => lk s.sto (s.base + d) = none ∧ awpOps P os ⟨pt s.env d (.ptr (s.base + d) 0), pt s.sto (s.base + d) (.var cs), s.out, s.base⟩ KS
  | none => False
theorem boxC_some {cs : List AV} : boxC (some cs) P os s d KS = (lk s.sto (s.base + d) = none ∧ awpOps P os ⟨pt s.env d (.ptr (s.base + d) 0), pt s.sto (s.base + d) (.var cs), s.out, s.base⟩ KS) := propext Iff.rfl
theorem ops_box {x : Opd} : awpOps P (⟨some d, .box, [x], none⟩ :: os) s KS = boxC (cellsOf (ev s x)) P os s d KS := propext Iff.rfl

theorem optA_put {x : Option AV} : optA x (putC P os s (some d) KS) = optC x P os s d KS := by cases x <;> rfl
theorem optV_put {x : Option Value} : optV x (putC P os s (some d) KS) = optC (x.map ofV) P os s d KS := by cases x <;> rfl
theorem putC_none {v : AV} : putC P os s (some d) KS v none = awpOps P os ⟨pt s.env d v, s.sto, s.out, s.base⟩ KS := propext Iff.rfl
theorem putC_none0 {v : AV} : putC P os s none KS v none = awpOps P os s KS := propext Iff.rfl
theorem putC_some {v : AV} {e : Entry} : putC P os s (some d) KS v (some e) = awpOps P os ⟨pt s.env d v, pt s.sto (s.base + d) e, s.out, s.base⟩ KS := propext Iff.rfl

theorem ops_store {n : Nat} {a b : Opd} : awpOps P (⟨none, .store n, [a, b], none⟩ :: os) s KS = eStore n s none [ev s a, ev s b] (opsC P os KS) := propext Iff.rfl
theorem ops_appendU {sz by_ : Nat} {a b : Opd} {d : Option Nat} : awpOps P (⟨d, .appendU sz by_, [a, b], none⟩ :: os) s KS = eAppendU sz by_ s d (opsC P os KS) [ev s a, ev s b] := propext Iff.rfl
theorem ops_mksliceU {sz n : Nat} {z : List AV} {ps : List Nat} {xs : List Opd} {d : Option Nat} : awpOps P (⟨d, .mksliceU sz n z ps, xs, none⟩ :: os) s KS = eMksliceU sz n z ps s d (opsC P os KS) (xs.map (ev s)) := propext Iff.rfl
theorem ops_callI {f : FuncId} {xs : List Opd} {d : Option Nat} : awpOps P (⟨d, .callI f, xs, none⟩ :: os) s KS = (okFn P f = true ∧ eCallI P f (xs.map (ev s)) s d (opsC P os KS)) := propext Iff.rfl
theorem ops_nilS {neg : Bool} {x : Opd} {d : Option Nat} : awpOps P (⟨d, .nilS neg, [x], none⟩ :: os) s KS = eNilS neg s d (opsC P os KS) [ev s x] := propext Iff.rfl
theorem eNilS_list {neg : Bool} {d : Option Nat} {sz : Nat} {m : Mode} {rows : List (List AV)} {K : St → Prop} : eNilS neg s d K [.list sz m rows] = ((rows = [] → K (s.put d (bv true)) ∧ K (s.put d (bv false))) ∧ (rows ≠ [] → K (s.put d (bv neg)))) := by
  simp only [eNilS, nilN, List.length_eq_zero_iff, ne_eq]
theorem opsC_eq : opsC P os KS s = awpOps P os s KS := propext Iff.rfl
theorem ops_append {sz by_ : Nat} {a b : Opd} {d : Option Nat} : awpOps P (⟨d, .append sz by_, [a, b], none⟩ :: os) s KS = eAppend sz by_ s d (opsC P os KS) [ev s a, ev s b] := propext Iff.rfl

theorem eStore_ptr {n j off : Nat} {x : AV} {cells cs : List AV} {K : St → Prop} (h1 : lk s.sto j = some (.var cells)) (h2 : cellsOf x = some cs) :
    eStore n s none [.ptr j off, x] K = (cs.length = n ∧ off + n ≤ cells.length ∧ K { s with sto := pt s.sto j (.var (splice cells off cs)) }) := by
  simp [eStore, h1, h2]

end

section
variable {P : Program} {t : TypeId} {ox oy : Operand} {k : IntKind} {a b : Int} {K : AV → Option Entry → Prop}

theorem eBin_add : eBin P .add t ox oy [.val (.int k a), .val (.int k b)] K = K (.val (.int k (k.wrap (a + b)))) none := by
  simp [eBin, toV, semPure, eqGuard, binOp, Op.intArith, optV, ofV, ofV1, bind, Sem.bind, pure]
theorem eBin_sub : eBin P .sub t ox oy [.val (.int k a), .val (.int k b)] K = K (.val (.int k (k.wrap (a - b)))) none := by
  simp [eBin, toV, semPure, eqGuard, binOp, Op.intArith, optV, ofV, ofV1, bind, Sem.bind, pure]
theorem eBin_mul : eBin P .mul t ox oy [.val (.int k a), .val (.int k b)] K = K (.val (.int k (k.wrap (a * b)))) none := by
  simp [eBin, toV, semPure, eqGuard, binOp, Op.intArith, optV, ofV, ofV1, bind, Sem.bind, pure]
theorem eBin_lss : eBin P .lss t ox oy [.val (.int k a), .val (.int k b)] K = K (bv (decide (a < b))) none := by
  simp [eBin, toV, semPure, eqGuard, binOp, Op.intCmp, optV, ofV, ofV1, bind, Sem.bind, pure]
theorem eBin_leq : eBin P .leq t ox oy [.val (.int k a), .val (.int k b)] K = K (bv (decide (a ≤ b))) none := by
  simp [eBin, toV, semPure, eqGuard, binOp, Op.intCmp, optV, ofV, ofV1, bind, Sem.bind, pure]
theorem eBin_gtr : eBin P .gtr t ox oy [.val (.int k a), .val (.int k b)] K = K (bv (decide (b < a))) none := by
  simp [eBin, toV, semPure, eqGuard, binOp, Op.intCmp, optV, ofV, ofV1, bind, Sem.bind, pure]
theorem eBin_geq : eBin P .geq t ox oy [.val (.int k a), .val (.int k b)] K = K (bv (decide (b ≤ a))) none := by
  simp [eBin, toV, semPure, eqGuard, binOp, Op.intCmp, optV, ofV, ofV1, bind, Sem.bind, pure]
theorem eBin_eql : eBin P .eql t ox oy [.val (.int k a), .val (.int k b)] K = K (bv (decide (a = b))) none := by
  simp [eBin, toV, semPure, eqGuard, binOp, Op.intCmp, optV, ofV, ofV1, bind, Sem.bind, pure]
  rfl
theorem eBin_neq : eBin P .neq t ox oy [.val (.int k a), .val (.int k b)] K = K (bv (decide (a ≠ b))) none := by
  simp [eBin, toV, semPure, eqGuard, binOp, Op.intCmp, optV, ofV, ofV1, bind, Sem.bind, pure]
  rfl

theorem un_not {c : Bool} : semPure P (Op.unary .not (.bool c)) = some (.bool !c) := by
  simp [semPure, Op.unary, pure]

theorem wrap64 {n : Int} (h1 : -9223372036854775808 ≤ n) (h2 : n ≤ 9223372036854775807) : IntKind.i64.wrap n = n := IntWalk.i64_in n ⟨h1, h2⟩

end

theorem splice_one {cells : List AV} {off : Nat} {x : AV} (h : off < cells.length) : splice cells off [x] = cells.set off x := by
  unfold splice
  rw [List.set_eq_take_append_cons_drop, if_pos h]
  simp

theorem splice_all {cells cs : List AV} (h : cs.length = cells.length) : splice cells 0 cs = cs := by
  unfold splice
  simp [h]

theorem anyRef_iv (k : Nat) (l : List Int) : anyRef k (l.map iv) = false := by
  induction l with
  | nil => rfl
  | cons x l ih => simp [ih, anyRef, refsTo]
theorem strip_iv : strip ∘ iv = iv := rfl

/-! ### lists that are filled from the front -/

theorem fill_step {α : Type} {L : List α} {z : α} {n k : Nat} (hn : L.length = n) (hk : k < n) {x : α} (hx : L[k]? = some x) :
    (L.take k ++ List.replicate (n - k) z).set k x = L.take (k + 1) ++ List.replicate (n - (k + 1)) z := by
  apply List.ext_getElem?
  intro i
  have hk' : k < L.length := by omega
  rw [List.getElem?_eq_getElem hk'] at hx
  simp only [Option.some.injEq] at hx
  rw [List.getElem?_set]
  by_cases h : k = i
  · subst h
    rw [if_pos rfl, if_pos (by simp; omega), List.getElem?_append_left (by simp; omega), List.getElem?_take, if_pos (by omega), List.getElem?_eq_getElem hk', hx]
  · rw [if_neg h, List.getElem?_append, List.getElem?_append]
    simp only [List.length_take]
    by_cases h2 : i < k
    · rw [if_pos (by omega), if_pos (by omega), List.getElem?_take, List.getElem?_take, if_pos h2, if_pos (by omega)]
    · rw [if_neg (by omega), if_neg (by omega), List.getElem?_replicate, List.getElem?_replicate]
      by_cases h3 : i < n
      · rw [if_pos (by omega), if_pos (by omega)]
      · rw [if_neg (by omega), if_neg (by omega)]

theorem fill_same {α : Type} {L : List α} {z : α} {n k : Nat} (hn : L.length = n) (hk : k < n) (hx : L[k]? = some z) :
    L.take k ++ List.replicate (n - k) z = L.take (k + 1) ++ List.replicate (n - (k + 1)) z := by
  rw [← fill_step hn hk hx]
  apply List.ext_getElem?
  intro i
  rw [List.getElem?_set]
  by_cases h : k = i
  · subst h
    rw [if_pos rfl, if_pos (by simp; omega), List.getElem?_append_right (by simp; omega), List.getElem?_replicate, if_pos (by simp; omega)]
  · rw [if_neg h]

theorem set_iv {l : List Int} {k : Nat} {n : Int} : (l.map iv).set k (iv n) = (l.set k n).map iv := by
  rw [List.map_set]

theorem goLoad_iv {l : List Int} {n : Nat} (h : l.length = n) : goLoad (l.map iv) 0 (some n) = some (.agg (l.map iv)) := by
  have h1 : (l.map iv).all rf = true := by simp [rf]
  have h2 : (l.map iv).map strip = l.map iv := by simp [strip_iv]
  simp only [goLoad, List.drop_zero]
  rw [List.take_of_length_le (by simp; omega), if_pos ⟨by simp; omega, h1⟩, h2]

theorem goLoad_none (cells : List AV) (off : Nat) : goLoad cells off none = cells[off]? := by simp [goLoad]

section
variable {σ : Nat → Option Entry}
theorem snap_undef : snap σ .undef = some .undef := rfl
theorem snap_val {v : Value} : snap σ (.val v) = some (.val v) := rfl
theorem snap_agg {c : List AV} : snap σ (.agg c) = some (.agg c) := rfl
theorem snap_tuple {c : List AV} : snap σ (.tuple c) = if c.all rf = true then some (.tuple (c.map strip)) else none := rfl
theorem snap_list {sz : Nat} {m : Mode} {r : List (List AV)} : snap σ (.list sz m r) = some (strip (.list sz m r)) := rfl
theorem snap_ro {c : List AV} : snap σ (.ro c) = some (.ro c) := rfl
theorem snap_ptr {k off : Nat} : snap σ (.ptr k off) = (match σ k with
    | some (.var cells) => if (cells.drop off).all rf = true then some (.ro ((cells.drop off).map strip)) else none
    | _ => none) := rfl
theorem snap_eptr {k sz i off : Nat} : snap σ (.eptr k sz i off) = (match σ k with
    | some (.arr sz' rows) => if sz' = sz then (rows[i]?).map fun r => .ro (r.drop off) else none
    | _ => none) := rfl
theorem snap_sl {k sz off n : Nat} : snap σ (.sl k sz off n) = (match σ k with
    | some (.arr sz' rows) => if sz' = sz ∧ off + n ≤ rows.length then some (.list sz .plain ((rows.drop off).take n)) else none
    | _ => none) := rfl
theorem snap_us {k sz off n : Nat} : snap σ (.us k sz off n) = (match σ k with
    | some (.uarr sz' rows) => if sz' = sz ∧ off + n ≤ rows.length ∧ rowsRf ((rows.drop off).take n) = true then some (.list sz .plain (rowsSt ((rows.drop off).take n))) else none
    | _ => none) := rfl
theorem snap_up {k sz i off : Nat} : snap σ (.up k sz i off) = (match σ k with
    | some (.uarr sz' rows) => match rows[i]? with
      | some r => if sz' = sz ∧ (r.drop off).all rf = true then some (.ro ((r.drop off).map strip)) else none
      | none => none
    | _ => none) := rfl
theorem snap_iface {t : TypeId} {x : AV} : snap σ (.iface t x) = some (.iface t x) := rfl
theorem snap_fn {f : Fn} {caps : List AV} : snap σ (.fn f caps) = (mapO (snap1 σ) caps).map (.fn f) := rfl
theorem snap1_val {v : Value} : snap1 σ (.val v) = some (.val v) := rfl
theorem snap1_agg {c : List AV} : snap1 σ (.agg c) = some (.agg c) := rfl
theorem snap1_list {sz : Nat} {m : Mode} {r : List (List AV)} : snap1 σ (.list sz m r) = some (strip (.list sz m r)) := rfl
theorem snap1_ro {c : List AV} : snap1 σ (.ro c) = some (.ro c) := rfl
end
theorem strip_undef : strip .undef = .undef := rfl
theorem strip_val {v : Value} : strip (.val v) = .val v := rfl
theorem strip_agg {c : List AV} : strip (.agg c) = .agg c := rfl
theorem strip_tuple {c : List AV} : strip (.tuple c) = .tuple c := rfl
theorem strip_ro {c : List AV} : strip (.ro c) = .ro c := rfl
theorem strip_ptr {k o : Nat} : strip (.ptr k o) = .ptr k o := rfl
theorem strip_eptr {k sz i o : Nat} : strip (.eptr k sz i o) = .eptr k sz i o := rfl
theorem strip_sl {k sz o n : Nat} : strip (.sl k sz o n) = .sl k sz o n := rfl
theorem strip_us {k sz o n : Nat} : strip (.us k sz o n) = .us k sz o n := rfl
theorem strip_up {k sz i o : Nat} : strip (.up k sz i o) = .up k sz i o := rfl
theorem strip_iface {t : TypeId} {x : AV} : strip (.iface t x) = .iface t x := rfl
theorem strip_fn {f : Fn} {c : List AV} : strip (.fn f c) = .fn f c := rfl

attribute [simp ↓ low] condC_open
attribute [simp ↓] condC_true condC_false guardC_run guardC_skip1 guardC_skip2 guardC_none
attribute [simp] awp_skip awp_region awp_seq awp_cond awp_block awp_exit awp_ret
  regC_eq endC_nil endC_eq seqC_normal seqC_exit seqC_ret blockC_normal blockC_exit blockC_ret loopC_normal loopC_exit loopC_ret freezes_nil ops_nil ops_guard ops_mov ops_pick ops_alloc boxC_some ops_box
  ops_bin ops_load ops_iaddrA ops_iaddrS ops_slice ops_mk ops_len ops_call ops_mkfn ops_un ops_conv ops_field ops_faddr ops_extract ops_nilChk ops_build ops_mkslice retC_ret retC_normal retW_ret retW_normal
  optC_some optA_put optV_put putC_none putC_none0 putC_some ops_store opsC_eq ops_append ops_nilS eNilS_list ops_appendU ops_callI eBin_add eBin_sub eBin_mul eBin_lss eBin_leq eBin_gtr eBin_geq eBin_eql eBin_neq anyRef_iv strip_iv
  eLoad eIaddrA eIaddrS eLen eLen1 eStore ev_t ev_c get_eq lk pt del goLoad_iv goLoad_none cellsOf initE resOf mapO resA snap_undef snap_val snap_agg snap_tuple snap_list snap_ro snap_ptr snap_eptr snap_sl snap_fn snap1_val snap1_list snap1_agg snap1_ro strip_undef strip_val strip_agg strip_tuple strip_ro strip_ptr strip_eptr strip_sl strip_fn snap_us snap_up snap_iface strip_us strip_up strip_iface rf St.unmet unmetD isUO Entry.isU noRef noRefS noRefO anyRef anyRefR refsTo refsToE
  unA un_not fieldA faddrA extrA nilA single Value.oneCell' List.getElem?_eq_getElem

/-! ### an operation that has come up already -/

def chkC (P : Program) (os : List AOper) (s : St) (d : Nat) (KS : St → Prop) : AV → Option Entry → Prop := fun x e => lk s.env d = some x ∧ lk s.sto (s.base + d) = e ∧ awpOps P os s KS
def chkO (x : Option AV) (P : Program) (os : List AOper) (s : St) (d : Nat) (KS : St → Prop) : Prop :=
  match x with
  | some v => lk s.env d = some v ∧ lk s.sto (s.base + d) = none ∧ awpOps P os s KS
  | none => False
def chkB (x : Option (List AV)) (P : Program) (os : List AOper) (s : St) (d : Nat) (KS : St → Prop) : Prop :=
  match x with
  | some cs => lk (del [s.base + d] s.sto) (s.base + d) = none ∧ lk s.env d = some (.ptr (s.base + d) 0) ∧ lk s.sto (s.base + d) = some (.var cs) ∧ awpOps P os s KS
  | none => False
section
variable {P : Program} {s : St} {KS : St → Prop} {os : List AOper} {d : Nat}
theorem chkC_eq {x : AV} {e : Option Entry} : chkC P os s d KS x e = (lk s.env d = some x ∧ lk s.sto (s.base + d) = e ∧ awpOps P os s KS) := propext Iff.rfl
theorem chkO_some {x : AV} : chkO (some x) P os s d KS = (lk s.env d = some x ∧ lk s.sto (s.base + d) = none ∧ awpOps P os s KS) := propext Iff.rfl
theorem chkB_some {cs : List AV} : chkB (some cs) P os s d KS = (lk (del [s.base + d] s.sto) (s.base + d) = none ∧ lk s.env d = some (.ptr (s.base + d) 0) ∧ lk s.sto (s.base + d) = some (.var cs) ∧ awpOps P os s KS) := propext Iff.rfl
theorem optA_chk {x : Option AV} : optA x (chkC P os s d KS) = chkO x P os s d KS := by cases x <;> rfl
theorem optV_chk {x : Option Value} : optV x (chkC P os s d KS) = chkO (x.map ofV) P os s d KS := by cases x <;> rfl
theorem ops_start {ds : List Nat} : awpOps P (⟨none, .start ds, [], none⟩ :: os) s KS = (freshP s.sto s.base ds ∧ awpOps P os ⟨del ds s.env, s.sto, s.out, s.base⟩ KS) := propext Iff.rfl
theorem chk_mov {x : Opd} : awpOps P (⟨some d, .chk .mov, [x], none⟩ :: os) s KS = chkC P os s d KS (ev s x) none := propext Iff.rfl
theorem chk_pick {c a b : Opd} : awpOps P (⟨some d, .chk .pick, [c, a, b], none⟩ :: os) s KS = condC (ev s c) (chkC P os s d KS (ev s a) none) (chkC P os s d KS (ev s b) none) := by
  show (match [ev s c, ev s a, ev s b] with | [.val (.bool t), a, b] => (t = true → chkC P os s d KS a none) ∧ (t = false → chkC P os s d KS b none) | _ => False) = _
  unfold condC
  cases ev s c <;> try rfl
  rename_i v
  cases v <;> rfl
theorem chk_alloc {cells : List AV} : awpOps P (⟨some d, .chk (.alloc cells), [], none⟩ :: os) s KS = (lk (del [s.base + d] s.sto) (s.base + d) = none ∧ chkC P os s d KS (.ptr (s.base + d) 0) (some (.var cells))) := propext Iff.rfl
theorem chk_box {x : Opd} : awpOps P (⟨some d, .chk .box, [x], none⟩ :: os) s KS = chkB (cellsOf (ev s x)) P os s d KS := by
  show evalE P (s.base + d) .box [ev s x] (lk (del [s.base + d] s.sto)) (chkC P os s d KS) = _
  simp only [evalE]
  cases cellsOf (ev s x) <;> rfl
theorem chk_bin {o : BinOp} {t : TypeId} {ox oy : Operand} {x y : Opd} : awpOps P (⟨some d, .chk (.bin o t ox oy), [x, y], none⟩ :: os) s KS = eBin P o t ox oy [ev s x, ev s y] (chkC P os s d KS) := propext Iff.rfl
theorem chk_load {n : Option Nat} {x : Opd} : awpOps P (⟨some d, .chk (.load n), [x], none⟩ :: os) s KS = eLoad (lk (del [s.base + d] s.sto)) n [ev s x] (chkC P os s d KS) := propext Iff.rfl
theorem chk_iaddrA {n m : Nat} {x y : Opd} : awpOps P (⟨some d, .chk (.iaddrA n m), [x, y], none⟩ :: os) s KS = eIaddrA n m [ev s x, ev s y] (chkC P os s d KS) := propext Iff.rfl
theorem chk_iaddrS {n : Nat} {x y : Opd} : awpOps P (⟨some d, .chk (.iaddrS n), [x, y], none⟩ :: os) s KS = eIaddrS n [ev s x, ev s y] (chkC P os s d KS) := propext Iff.rfl
theorem chk_slice {n : Nat} {a b c : Bool} {xs : List Opd} : awpOps P (⟨some d, .chk (.slice n a b c), xs, none⟩ :: os) s KS = eSlice n a b c (xs.map (ev s)) (chkC P os s d KS) := propext Iff.rfl
theorem chk_len {b : Bool} {x : Opd} : awpOps P (⟨some d, .chk (.len b), [x], none⟩ :: os) s KS = eLen b [ev s x] (chkC P os s d KS) := propext Iff.rfl
theorem chk_call {f : FuncId} {xs : List Opd} : awpOps P (⟨some d, .chk (.call f), xs, none⟩ :: os) s KS = eCall P f (lk (del [s.base + d] s.sto)) (xs.map (ev s)) (chkC P os s d KS) := propext Iff.rfl
theorem chk_mkfn {f : FuncId} {xs : List Opd} : awpOps P (⟨some d, .chk (.mkfn f), xs, none⟩ :: os) s KS = chkC P os s d KS (.fn (.func f) ((xs.map (ev s)).map strip)) none := propext Iff.rfl
theorem chk_un {o : UnOp} {x : Opd} : awpOps P (⟨some d, .chk (.un o), [x], none⟩ :: os) s KS = chkO (unA P o (ev s x)) P os s d KS := by
  show evalE P (s.base + d) (.un o) [ev s x] (lk (del [s.base + d] s.sto)) (chkC P os s d KS) = _
  simp only [evalE]
  cases ev s x <;> try rfl
  rename_i v
  simp only [unA]
  cases semPure P (Op.unary o v) <;> rfl
theorem chk_conv {a b : TypeId} {x : Opd} : awpOps P (⟨some d, .chk (.conv a b), [x], none⟩ :: os) s KS = chkO (convA P a b (ev s x)) P os s d KS := by
  show evalE P (s.base + d) (.conv a b) [ev s x] (lk (del [s.base + d] s.sto)) (chkC P os s d KS) = _
  simp only [evalE]
  cases ev s x <;> try rfl
  rename_i v
  simp only [convA]
  cases semPure P (convert a b v) <;> rfl
theorem chk_field {off : Nat} {n : Option Nat} {x : Opd} : awpOps P (⟨some d, .chk (.field off n), [x], none⟩ :: os) s KS = chkO (fieldA off n (ev s x)) P os s d KS := by
  show evalE P (s.base + d) (.field off n) [ev s x] (lk (del [s.base + d] s.sto)) (chkC P os s d KS) = _
  simp only [evalE]
  cases ev s x <;> try rfl
  rename_i v
  simp only [fieldA]
  cases partA v off n <;> rfl
theorem chk_faddr {off : Nat} {x : Opd} : awpOps P (⟨some d, .chk (.faddr off), [x], none⟩ :: os) s KS = chkO (faddrA off (ev s x)) P os s d KS := by
  show evalE P (s.base + d) (.faddr off) [ev s x] (lk (del [s.base + d] s.sto)) (chkC P os s d KS) = _
  simp only [evalE]
  cases ev s x <;> rfl
theorem chk_extract {i : Nat} {x : Opd} : awpOps P (⟨some d, .chk (.extract i), [x], none⟩ :: os) s KS = chkO (extrA i (ev s x)) P os s d KS := by
  show evalE P (s.base + d) (.extract i) [ev s x] (lk (del [s.base + d] s.sto)) (chkC P os s d KS) = _
  simp only [evalE]
  cases ev s x <;> try rfl
  rename_i v
  simp only [extrA]
  cases v[i]? <;> rfl
theorem chk_nilChk {x : Opd} : awpOps P (⟨some d, .chk .nilChk, [x], none⟩ :: os) s KS = chkO (nilA (ev s x)) P os s d KS := by
  show evalE P (s.base + d) .nilChk [ev s x] (lk (del [s.base + d] s.sto)) (chkC P os s d KS) = _
  simp only [evalE]
  cases ev s x <;> try rfl
  rename_i f caps
  cases f <;> rfl
theorem chk_build {z : List AV} {ps : List (Nat × Nat)} {xs : List Opd} : awpOps P (⟨some d, .chk (.build z ps), xs, none⟩ :: os) s KS = chkO ((fillA z ps (xs.map (ev s))).map .agg) P os s d KS := by
  show evalE P (s.base + d) (.build z ps) (xs.map (ev s)) (lk (del [s.base + d] s.sto)) (chkC P os s d KS) = _
  simp only [evalE]
  cases fillA z ps (xs.map (ev s)) <;> rfl
theorem chk_mkslice {sz n : Nat} {z : List AV} {ps : List Nat} {xs : List Opd} (h1 : z.length = sz) (h2 : 0 < sz) :
    awpOps P (⟨some d, .chk (.mkslice sz n z ps), xs, none⟩ :: os) s KS = chkO ((rowsA sz (List.replicate n z) ps (xs.map (ev s))).map (.list sz .full)) P os s d KS := by
  show evalE P (s.base + d) (.mkslice sz n z ps) (xs.map (ev s)) (lk (del [s.base + d] s.sto)) (chkC P os s d KS) = _
  simp only [evalE]
  cases rowsA sz (List.replicate n z) ps (xs.map (ev s)) <;> simp [chkO, h1, h2, chkC]
end
attribute [simp] chkC_eq chkO_some chkB_some optA_chk optV_chk ops_start freshP chk_mov chk_pick chk_alloc chk_box chk_bin chk_load chk_iaddrA chk_iaddrS chk_slice chk_len chk_call chk_mkfn chk_un chk_conv chk_field chk_faddr chk_extract chk_nilChk chk_build chk_mkslice

end Go.Am
