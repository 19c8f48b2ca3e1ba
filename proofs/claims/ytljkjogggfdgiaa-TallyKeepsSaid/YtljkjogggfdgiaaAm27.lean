/-
  The abstract machine, part 27: an evaluator for closed calls; what it yields is a contract.
-/
import Derived.Test.YtljkjogggfdgiaaAm26
namespace Go.Am

abbrev XE := Option (AV × Option Entry)
/-- What is known of calls. -/
def CallOk (P : Program) (call : FuncId → List AV → Option AV) : Prop := ∀ f as r, call f as = some r → SoundCall P f as r

def leI : Int → Int → Bool := fun a b => decide (a ≤ b)

def bndsX (n : Nat) (lo hi mx : Bool) (xs : List AV) : Option (Nat × Nat × Bool) :=
  match lo, hi, mx, xs with
  | false, false, false, [] => some (0, n, false)
  | true, false, false, [.val (.int _ l)] => if 0 ≤ l ∧ l ≤ n then some (l.toNat, n, false) else none
  | false, true, false, [.val (.int _ h)] => if 0 ≤ h ∧ h ≤ n then some (0, h.toNat, false) else none
  | true, true, false, [.val (.int _ l), .val (.int _ h)] => if 0 ≤ l ∧ l ≤ h ∧ h ≤ n then some (l.toNat, h.toNat, false) else none
  | false, true, true, [.val (.int _ h), .val (.int _ m)] => if 0 ≤ h ∧ h = m ∧ m ≤ n then some (0, h.toNat, true) else none
  | true, true, true, [.val (.int _ l), .val (.int _ h), .val (.int _ m)] => if 0 ≤ l ∧ l ≤ h ∧ h = m ∧ m ≤ n then some (l.toNat, h.toNat, true) else none
  | _, _, _, _ => none
theorem bndsX_ok {n lo hi mx xs l h f} {k : Nat → Nat → Bool → Prop} (hx : bndsX n lo hi mx xs = some (l, h, f)) (hk : k l h f) : bnds n lo hi mx xs k := by
  unfold bndsX at hx
  unfold bnds
  split at hx <;> first
    | (simp only [Option.some.injEq, Prod.mk.injEq] at hx; obtain ⟨rfl, rfl, rfl⟩ := hx; exact hk)
    | (split at hx
       · rename_i hc
         simp only [Option.some.injEq, Prod.mk.injEq] at hx; obtain ⟨rfl, rfl, rfl⟩ := hx
         first
           | exact ⟨hc.1, hc.2, hk⟩
           | exact ⟨hc.1, hc.2.1, hc.2.2, hk⟩
           | exact ⟨hc.1, hc.2.1, hc.2.2.1, hc.2.2.2, hk⟩
       · cases hx)
    | cases hx

def valX : Option Value → XE
  | some v => some (ofV v, none)
  | none => none
def avX : Option AV → XE
  | some v => some (v, none)
  | none => none
theorem valX_ok {o : Option Value} {x e} {k : AV → Option Entry → Prop} (h : valX o = some (x, e)) (hk : k x e) : optV o k := by
  cases o with
  | none => cases h
  | some v => cases h; exact hk
theorem avX_ok {o : Option AV} {x e} {k : AV → Option Entry → Prop} (h : avX o = some (x, e)) (hk : k x e) : optA o k := by
  cases o with
  | none => cases h
  | some v => cases h; exact hk

def binX (P : Program) (op : BinOp) (t : TypeId) (ox oy : Operand) : List AV → XE
  | [x, y] => match toV x, toV y with
    | some a, some b => valX (semPure P (do eqGuard op t ox oy a b; binOp op t a b))
    | _, _ => none
  | _ => none
def loadX (σ : Nat → Option Entry) (n : Option Nat) : List AV → XE
  | [.ptr j off] => match σ j with
    | some (.var cells) => avX (goLoad cells off n)
    | _ => none
  | [.eptr j sz i off] => match σ j with
    | some (.arr sz' rows) => if sz' = sz then (match rows[i]? with
      | some r => avX (goLoad r off n)
      | none => none) else none
    | _ => none
  | [.ro cells] => avX (goLoad cells 0 n)
  | [.up l sz i off] => match σ l with
    | some (.uarr sz' rows) => if sz' = sz then (match rows[i]? with
      | some r => avX (goLoad r off n)
      | none => none) else none
    | _ => none
  | _ => none
def iaddrAX (len esz : Nat) : List AV → XE
  | [.ptr j off, .val (.int _ i)] => if 0 ≤ i ∧ i < len then some (.ptr j (off + i.toNat * esz), none) else none
  | [.eptr j sz r off, .val (.int _ i)] => if 0 ≤ i ∧ i < len then some (.eptr j sz r (off + i.toNat * esz), none) else none
  | [.ro cells, .val (.int _ i)] => if 0 ≤ i ∧ i < len then some (.ro (cells.drop (i.toNat * esz)), none) else none
  | [.up j sz r off, .val (.int _ i)] => if 0 ≤ i ∧ i < len then some (.up j sz r (off + i.toNat * esz), none) else none
  | _ => none
def iaddrSX (sz : Nat) : List AV → XE
  | [.list sz' _ rows, .val (.int _ i)] => if 0 ≤ i ∧ i < rows.length ∧ sz' = sz then (match rows[i.toNat]? with
      | some r => some (.ro r, none)
      | none => none) else none
  | [.sl j sz' off len, .val (.int _ i)] => if 0 ≤ i ∧ i < len ∧ sz' = sz then some (.eptr j sz (off + i.toNat) 0, none) else none
  | [.us j sz' off len, .val (.int _ i)] => if 0 ≤ i ∧ i < len ∧ sz' = sz then some (.up j sz (off + i.toNat) 0, none) else none
  | _ => none
def sliceX (sz : Nat) (lo hi mx : Bool) : List AV → XE
  | .list sz' _ rows :: xs => if rows.isEmpty = true ∨ sz' = sz then (match bndsX rows.length lo hi mx xs with
      | some (l, h, f) => some (.list sz' (if f = true then .full else .plain) ((rows.take h).drop l), none)
      | none => none) else none
  | .sl j sz' off len :: xs => if sz' = sz then (match bndsX len lo hi mx xs with
      | some (l, h, _) => some (.sl j sz (off + l) (h - l), none)
      | none => none) else none
  | .us j sz' off len :: xs => if sz' = sz then (match bndsX len lo hi mx xs with
      | some (l, h, _) => some (.us j sz (off + l) (h - l), none)
      | none => none) else none
  | _ => none
def mkX (sz bytes : Nat) (zero : List AV) (d : Nat) (σ : Nat → Option Entry) : List AV → XE
  | [.val (.int _ l), .val (.int _ c)] =>
    if l = c ∧ 0 ≤ l ∧ l * bytes ≤ 140737488355328 ∧ l ≤ 9223372036854775807 ∧ zero.length = sz ∧ 0 < sz ∧ (σ d).isNone = true then
      some (.sl d sz 0 l.toNat, some (.arr sz (List.replicate l.toNat zero))) else none
  | _ => none
def lenX (str : Bool) : List AV → XE
  | [.list _ _ rows] => if str = false then some (.val (.int .i64 rows.length), none) else none
  | [.sl _ _ _ len] => if str = false then some (.val (.int .i64 len), none) else none
  | [.us _ _ _ len] => if str = false then some (.val (.int .i64 len), none) else none
  | [.val (.string s)] => if str = true then some (.val (.int .i64 s.size), none) else none
  | _ => none
def callX1 (call : FuncId → List AV → Option AV) (f : FuncId) (σ : Nat → Option Entry) (xs : List AV) : XE :=
  match mapO (snap σ) xs with
  | some args => match call f args with
    | some r => if xs.any hasRef = false ∨ pf r = true then some (r, none) else none
    | none => none
  | none => none

def execE (P : Program) (call : FuncId → List AV → Option AV) (d : Nat) (op : AOp) (xs : List AV) (σ : Nat → Option Entry) : XE :=
  match op with
  | .mov => match xs with
    | [x] => some (x, none)
    | _ => none
  | .pick => match xs with
    | [.val (.bool t), a, b] => some (cond t a b, none)
    | _ => none
  | .alloc cells => if (σ d).isNone = true then some (.ptr d 0, some (.var cells)) else none
  | .box => match xs with
    | [x] => match cellsOf x with
      | some cs => if (σ d).isNone = true then some (.ptr d 0, some (.var cs)) else none
      | none => none
    | _ => none
  | .build zero places => match fillA zero places xs with
    | some cs => some (.agg cs, none)
    | none => none
  | .mkslice sz n zero places => match rowsA sz (List.replicate n zero) places xs with
    | some rows => if zero.length = sz ∧ 0 < sz then some (.list sz .full rows, none) else none
    | none => none
  | .load n => loadX σ n xs
  | .nilChk => match xs with
    | [.ptr j off] => some (.ptr j off, none)
    | [.eptr j sz i off] => some (.eptr j sz i off, none)
    | [.up j sz i off] => some (.up j sz i off, none)
    | [.ro cells] => some (.ro cells, none)
    | [.fn (.func f) caps] => some (.fn (.func f) caps, none)
    | _ => none
  | .bin op t ox oy => binX P op t ox oy xs
  | .un op => match xs with
    | [.val v] => valX (semPure P (Op.unary op v))
    | _ => none
  | .conv s d' => match xs with
    | [.val v] => valX (semPure P (convert s d' v))
    | _ => none
  | .idxV t => match xs with
    | [x, .val i] => match toV x with
      | some a => valX (semPure P (Instr.index t a i))
      | none => none
    | _ => none
  | .sliceV _ lo hi mx => match xs with
    | .val (.string s) :: ys => match bndsX s.size lo hi mx ys with
      | some (l, h, _) => if mx = false then some (.val (.string (s.extract l h)), none) else none
      | none => none
    | _ => none
  | .mm b ts t => match toVs xs with
    | some vs => valX (semPure P (if b = .max then Builtin.max_ ts t vs.toArray else Builtin.min_ ts t vs.toArray))
    | none => none
  | .field off n => match xs with
    | [.agg cells] => avX (partA cells off n)
    | _ => none
  | .faddr off => match xs with
    | [.ptr j o] => some (.ptr j (o + off), none)
    | [.eptr j sz i o] => some (.eptr j sz i (o + off), none)
    | [.up j sz i o] => some (.up j sz i (o + off), none)
    | [.ro cells] => some (.ro (cells.drop off), none)
    | _ => none
  | .iaddrA len esz => iaddrAX len esz xs
  | .iaddrS sz => iaddrSX sz xs
  | .idxA len esz n => match xs with
    | [.agg cells, .val (.int _ i)] => if 0 ≤ i ∧ i < len then avX (partA cells (i.toNat * esz) n) else none
    | _ => none
  | .slice sz lo hi mx => sliceX sz lo hi mx xs
  | .mk sz bytes zero => mkX sz bytes zero d σ xs
  | .len s => lenX s xs
  | .extract i => match xs with
    | [.tuple vs] => avX vs[i]?
    | _ => none
  | .mkfn f => some (.fn (.func f) (xs.map strip), none)
  | .call f => callX1 call f σ xs
  | .callv => match xs with
    | .fn (.func f) caps :: ys => if okFn P f = true then callX1 call f σ (ys ++ caps) else none
    | _ => none
  | _ => none

section
variable {P : Program} {call : FuncId → List AV → Option AV} {k : AV → Option Entry → Prop} {x : AV} {e : Option Entry} {σ : Nat → Option Entry} {xs : List AV}

theorem loadX_ok {n : Option Nat} (h : loadX σ n xs = some (x, e)) (hk : k x e) : eLoad σ n xs k := by
  unfold loadX at h
  unfold eLoad
  split at h
  · dsimp only
    split at h
    · rename_i h1; rw [h1]; exact avX_ok h hk
    · cases h
  · dsimp only
    split at h
    · rename_i h1; rw [h1]
      dsimp only
      split at h
      · rename_i hz
        split at h
        · rename_i h2; rw [h2]; exact ⟨hz, avX_ok h hk⟩
        · cases h
      · cases h
    · cases h
  · exact avX_ok h hk
  · dsimp only
    split at h
    · rename_i h1; rw [h1]
      dsimp only
      split at h
      · rename_i hz
        split at h
        · rename_i h2; rw [h2]; exact ⟨hz, avX_ok h hk⟩
        · cases h
      · cases h
    · cases h
  · cases h

theorem isNone_eq {α : Type} {o : Option α} (h : o.isNone = true) : o = none := by cases o <;> first | rfl | cases h

theorem callX1_ok {f : FuncId} (hc : CallOk P call) (h : callX1 call f σ xs = some (x, e)) (hk : k x e) : eCall P f σ xs k := by
  unfold callX1 at h
  unfold eCall
  split at h
  · rename_i args ha
    rw [ha]
    split at h
    · rename_i r hr
      split at h
      · rename_i hp
        cases h
        refine ⟨_, hc _ _ _ hr, fun h1 => ?_, hk⟩
        rcases hp with hp | hp
        · rw [hp] at h1; cases h1
        · exact hp
      · cases h
    · cases h
  · cases h

theorem execE_ok {d : Nat} {op : AOp} (hc : CallOk P call) (h : execE P call d op xs σ = some (x, e)) (hk : k x e) : evalE P d op xs σ k := by
  unfold execE at h
  split at h
  case h_1 =>
    split at h
    · cases h; exact hk
    · cases h
  case h_2 =>
    split at h
    · rename_i t a b; cases h; simp only [evalE]; cases t
      · exact ⟨fun h => (by cases h), fun _ => hk⟩
      · exact ⟨fun _ => hk, fun h => by cases h⟩
    · cases h
  case h_3 =>
    split at h
    · rename_i hn; cases h; exact ⟨isNone_eq hn, hk⟩
    · cases h
  case h_4 =>
    split at h
    · split at h
      · rename_i cs hcs
        split at h
        · rename_i hn; cases h; simp only [evalE, hcs]; exact ⟨isNone_eq hn, hk⟩
        · cases h
      · cases h
    · cases h
  case h_5 =>
    split at h
    · rename_i cs hcs; cases h; simp only [evalE, hcs]; exact hk
    · cases h
  case h_6 =>
    split at h
    · rename_i cs hcs
      split at h
      · rename_i hz; cases h; simp only [evalE, hcs]; exact ⟨hz.1, hz.2, hk⟩
      · cases h
    · cases h
  case h_7 => exact loadX_ok h hk
  case h_8 =>
    split at h <;> first | (cases h; exact hk) | cases h
  case h_9 =>
    simp only [evalE]
    unfold binX at h
    unfold eBin
    split at h
    · dsimp only
      split at h
      · rename_i h1 h2; rw [h1, h2]; exact valX_ok h hk
      · cases h
    · cases h
  case h_10 =>
    split at h
    · exact valX_ok h hk
    · cases h
  case h_11 =>
    split at h
    · exact valX_ok h hk
    · cases h
  case h_12 =>
    split at h
    · split at h
      · rename_i h1; simp only [evalE, h1]; exact valX_ok h hk
      · cases h
    · cases h
  case h_13 =>
    split at h
    · split at h
      · rename_i h1
        split at h
        · rename_i hm; cases h; simp only [evalE]; exact bndsX_ok h1 ⟨hm, hk⟩
        · cases h
      · cases h
    · cases h
  case h_14 =>
    split at h
    · rename_i h1; simp only [evalE, h1]; exact valX_ok h hk
    · cases h
  case h_15 =>
    split at h
    · exact avX_ok h hk
    · cases h
  case h_16 =>
    split at h <;> first | (cases h; exact hk) | cases h
  case h_17 =>
    simp only [evalE]
    unfold iaddrAX at h
    unfold eIaddrA
    split at h <;> first
      | (split at h
         · rename_i hc; cases h; exact ⟨hc.1, hc.2, hk⟩
         · cases h)
      | cases h
  case h_18 =>
    simp only [evalE]
    unfold iaddrSX at h
    unfold eIaddrS
    split at h
    · split at h
      · rename_i hc
        split at h
        · rename_i h1; cases h; refine ⟨hc.1, hc.2.1, hc.2.2, ?_⟩; rw [h1]; exact hk
        · cases h
      · cases h
    · split at h
      · rename_i hc; cases h; exact ⟨hc.1, hc.2.1, hc.2.2, hk⟩
      · cases h
    · split at h
      · rename_i hc; cases h; exact ⟨hc.1, hc.2.1, hc.2.2, hk⟩
      · cases h
    · cases h
  case h_19 =>
    split at h
    · split at h
      · rename_i hc; exact ⟨hc.1, hc.2, avX_ok h hk⟩
      · cases h
    · cases h
  case h_20 =>
    simp only [evalE]
    unfold sliceX at h
    unfold eSlice
    split at h
    · split at h
      · rename_i hc
        split at h
        · rename_i h1; cases h
          refine ⟨?_, bndsX_ok h1 hk⟩
          rcases hc with hc | hc
          · exact .inl (List.isEmpty_iff.1 hc)
          · exact .inr hc
        · cases h
      · cases h
    · split at h
      · rename_i hc
        split at h
        · rename_i h1; cases h
          exact ⟨hc, bndsX_ok h1 hk⟩
        · cases h
      · cases h
    · split at h
      · rename_i hc
        split at h
        · rename_i h1; cases h
          exact ⟨hc, bndsX_ok h1 hk⟩
        · cases h
      · cases h
    · cases h
  case h_21 =>
    simp only [evalE]
    unfold mkX at h
    unfold eMk
    split at h
    · split at h
      · rename_i hc; cases h
        obtain ⟨h1, h2, h3, h4, h5, h6, h7⟩ := hc
        exact ⟨h1, h2, h3, h4, h5, h6, isNone_eq h7, hk⟩
      · cases h
    · cases h
  case h_22 =>
    simp only [evalE]
    unfold lenX at h
    unfold eLen
    split at h <;> first
      | (split at h
         · rename_i hc; cases h; exact ⟨hc, hk⟩
         · cases h)
      | cases h
  case h_23 =>
    split at h
    · exact avX_ok h hk
    · cases h
  case h_24 => cases h; exact hk
  case h_25 => exact callX1_ok hc h hk
  case h_26 =>
    split at h
    · split at h
      · rename_i ho; exact ⟨ho, callX1_ok hc h hk⟩
      · cases h
    · cases h
  case h_27 => cases h
end

/-! ### what writes -/

def storeX (n : Nat) (s : St) (dst : Option Nat) : List AV → Option St
  | [.ptr j off, x] => match lk s.sto j, cellsOf x with
    | some (.var cells), some cs => if cs.length = n ∧ off + n ≤ cells.length ∧ dst.isNone = true then some { s with sto := pt s.sto j (.var (splice cells off cs)) } else none
    | _, _ => none
  | [.eptr j sz i off, x] => match lk s.sto j, cellsOf x with
    | some (.arr sz' rows), some cs => if sz' = sz ∧ cs.length = n ∧ off + n ≤ sz ∧ i < rows.length ∧ cs.all rf = true ∧ dst.isNone = true then
        (match rows[i]? with
         | some r => some { s with sto := pt s.sto j (.arr sz (rows.set i (splice r off (cs.map strip)))) }
         | none => none) else none
    | _, _ => none
  | [.up l sz i off, x] => match lk s.sto l, cellsOf x with
    | some (.uarr sz' rows), some cs => if sz' = sz ∧ cs.length = n ∧ off + n ≤ sz ∧ dst.isNone = true then
        (match rows[i]? with
         | some r => some { s with sto := pt s.sto l (.uarr sz (rows.set i (splice r off cs))) }
         | none => none) else none
    | _, _ => none
  | _ => none
def addRowsX (σ : Nat → Option Entry) (sz : Nat) : AV → Option (List (List AV))
  | .list sz' _ rows => if rows.isEmpty = true ∨ sz' = sz then some rows else none
  | .sl j sz' off len => if sz' = sz then (match σ j with
      | some (.arr sz'' rows) => if sz'' = sz ∧ off + len ≤ rows.length then some ((rows.drop off).take len) else none
      | _ => none) else none
  | .us j sz' off len => if sz' = sz then (match σ j with
      | some (.uarr sz'' rows) => if sz'' = sz ∧ off + len ≤ rows.length ∧ rowsRf ((rows.drop off).take len) = true then some (rowsSt ((rows.drop off).take len)) else none
      | _ => none) else none
  | .val (.string b) => if sz = 1 then some (b.data.toList.map fun x => [.val (.int .u8 x.toNat)]) else none
  | _ => none
def addRowsUX (σ : Nat → Option Entry) (sz : Nat) : AV → Option (List (List AV))
  | .us j sz' off len => if sz' = sz then (match σ j with
      | some (.uarr sz'' rows) => if sz'' = sz ∧ off + len ≤ rows.length then some ((rows.drop off).take len) else none
      | _ => none) else none
  | x => addRowsX σ sz x
def appendUX (sz bytes : Nat) (s : St) (dst : Option Nat) : List AV → Option St
  | [.list _ .full rows1, x] => match addRowsUX (lk s.sto) sz x with
    | some rows2 => if 0 < sz ∧ (rows1.length + rows2.length) * bytes ≤ 140737488355328 ∧ rows1.length + rows2.length ≤ 9223372036854775807 then
        (match dst with
         | some d => if rows1.isEmpty = true ∧ (lk s.sto (s.base + d)).isNone = true then
             some (((s.dg (s.base + d)).put (some d) (.us (s.base + d) sz 0 rows2.length)).new (some d) (some (.uarr sz (rowsDg (s.base + d) rows2)))) else none
         | none => none) else none
    | none => none
  | [.us l sz1 off len, x] => match addRowsUX (lk s.sto) sz x with
    | some rows2 => if 0 < sz ∧ (len + rows2.length) * bytes ≤ 140737488355328 ∧ len + rows2.length ≤ 9223372036854775807 then
        (match lk s.sto l, dst with
         | some (.uarr sz' rows1), some d => if sz' = sz ∧ sz1 = sz ∧ off = 0 ∧ len = rows1.length then
             some ({ (s.dg l) with sto := pt (s.dg l).sto l (.uarr sz (rowsDg l (rows1 ++ rows2))) }.put (some d) (.us l sz 0 (len + rows2.length))) else none
         | _, _ => none) else none
    | none => none
  | _ => none
def mksliceUX (sz n : Nat) (zero : List AV) (places : List Nat) (s : St) (dst : Option Nat) (xs : List AV) : Option St :=
  match rowsAU sz (List.replicate n zero) places xs, dst with
  | some rows, some d => if zero.length = sz ∧ 0 < sz ∧ (lk s.sto (s.base + d)).isNone = true then
      some (((s.dg (s.base + d)).put (some d) (.us (s.base + d) sz 0 n)).new (some d) (some (.uarr sz (rowsDg (s.base + d) rows)))) else none
  | _, _ => none
abbrev CI := FuncId → List AV → St → Option (AV × St)
def CallIOk (P : Program) (ci : CI) : Prop := ∀ f as s r s', ci f as s = some (r, s') → CallI P f as s (fun r1 s1 => r1 = r ∧ s1 = s')
def callIX (P : Program) (ci : CI) (f : FuncId) (xs : List AV) (s : St) (dst : Option Nat) : Option St :=
  if okFn P f = true then (match ci f xs s with
    | some (r, s') => if s'.base = s.base then some (s'.put dst r) else none
    | none => none) else none
def appendX (sz bytes : Nat) (s : St) (dst : Option Nat) : List AV → Option St
  | [.list sz1 m rows1, x] => match addRowsX (lk s.sto) sz x with
    | some rows2 => if 0 < sz ∧ (rows1.length + rows2.length) * bytes ≤ 140737488355328 ∧ rows1.length + rows2.length ≤ 9223372036854775807 then
        (match m, dst with
         | .full, some d => if (rows1.isEmpty = true ∨ sz1 = sz) ∧ (lk s.sto (s.base + d)).isNone = true then some ((s.dg (s.base + d)).put (some d) (.list sz (.own (s.base + d)) (rows1 ++ rows2))) else none
         | .own l, some d => if sz1 = sz ∧ (lk s.sto l).isNone = true then some ((s.dg l).put (some d) (.list sz (.own l) (rows1 ++ rows2))) else none
         | _, _ => none) else none
    | none => none
  | _ => none
def cpRowsX (σ : Nat → Option Entry) (sz : Nat) : AV → Option (List (List AV))
  | .val _ => none
  | x => addRowsX σ sz x
def copyX (sz : Nat) (s : St) (dst : Option Nat) : List AV → Option St
  | [.sl j sz1 off len, x] => if sz1 = sz ∧ 0 < sz then (match cpRowsX (lk s.sto) sz x with
    | some rows2 => match lk s.sto j with
       | some (.arr sz' rows) => if sz' = sz ∧ off + len ≤ rows.length ∧ rows2.length ≤ len then
           some (({ s with sto := pt s.sto j (.arr sz (rows.take off ++ rows2 ++ rows.drop (off + rows2.length))) }).put dst (.val (.int .i64 (rows2.length : Nat)))) else none
       | _ => none
    | none => none) else none
  | _ => none

section
variable {P : Program} {call : FuncId → List AV → Option AV} {ci : CI} {K : St → Prop} {s s' : St} {xs : List AV} {dst : Option Nat}
theorem storeX_ok {n : Nat} (h : storeX n s dst xs = some s') (hk : K s') : eStore n s dst xs K := by
  unfold storeX at h
  unfold eStore
  split at h
  · dsimp only
    split at h
    · rename_i h1 h2; rw [h1, h2]
      split at h
      · rename_i hc; cases h; exact ⟨hc.1, hc.2.1, isNone_eq hc.2.2, hk⟩
      · cases h
    · cases h
  · dsimp only
    split at h
    · rename_i h1 h2; rw [h1, h2]
      split at h
      · rename_i hc
        obtain ⟨c1, c2, c3, c4, c5, c6⟩ := hc
        split at h
        · rename_i h3; cases h; refine ⟨c1, c2, c3, c4, c5, isNone_eq c6, ?_⟩; rw [h3]; exact hk
        · cases h
      · cases h
    · cases h
  · dsimp only
    split at h
    · rename_i h1 h2; rw [h1, h2]
      split at h
      · rename_i hc
        obtain ⟨c1, c2, c3, c6⟩ := hc
        split at h
        · rename_i h3; cases h; refine ⟨c1, c2, c3, isNone_eq c6, ?_⟩; rw [h3]; exact hk
        · cases h
      · cases h
    · cases h
  · cases h
theorem addRowsX_ok {σ : Nat → Option Entry} {sz : Nat} {x : AV} {rows : List (List AV)} {k : List (List AV) → Prop} (h : addRowsX σ sz x = some rows) (hk : k rows) : addRows σ sz x k := by
  unfold addRowsX at h
  unfold addRows
  split at h
  · split at h
    · rename_i hc; cases h
      refine ⟨?_, hk⟩
      rcases hc with hc | hc
      · exact .inl (List.isEmpty_iff.1 hc)
      · exact .inr hc
    · cases h
  · split at h
    · rename_i hz
      split at h
      · rename_i h1
        split at h
        · rename_i hc; cases h; refine ⟨hz, ?_⟩; rw [h1]; exact ⟨hc.1, hc.2, hk⟩
        · cases h
      · cases h
    · cases h
  · split at h
    · rename_i hz
      split at h
      · rename_i h1
        split at h
        · rename_i hc; cases h; refine ⟨hz, ?_⟩; rw [h1]; exact ⟨hc.1, hc.2.1, hc.2.2, hk⟩
        · cases h
      · cases h
    · cases h
  · split at h
    · rename_i hz; cases h; exact ⟨hz, hk⟩
    · cases h
  · cases h
theorem addRowsUX_ok {σ : Nat → Option Entry} {sz : Nat} {x : AV} {rows : List (List AV)} {k : List (List AV) → Prop} (h : addRowsUX σ sz x = some rows) (hk : k rows) : addRowsU σ sz x k := by
  unfold addRowsUX at h
  unfold addRowsU
  split at h
  · split at h
    · rename_i hz
      split at h
      · rename_i h1
        split at h
        · rename_i hc; cases h; refine ⟨hz, ?_⟩; rw [h1]; exact ⟨hc.1, hc.2, hk⟩
        · cases h
      · cases h
    · cases h
  · rename_i hne
    split
    · rename_i h1; exact absurd rfl (hne _ _ _ _)
    · exact addRowsX_ok h hk
theorem appendUX_ok {sz b : Nat} (h : appendUX sz b s dst xs = some s') (hk : K s') : eAppendU sz b s dst K xs := by
  unfold appendUX at h
  unfold eAppendU
  split at h
  · dsimp only
    split at h
    · rename_i h1
      refine addRowsUX_ok h1 ?_
      split at h
      · rename_i hc
        refine ⟨hc.1, hc.2.1, hc.2.2, ?_⟩
        split at h
        · split at h
          · rename_i hd; cases h; exact ⟨List.isEmpty_iff.1 hd.1, isNone_eq hd.2, hk⟩
          · cases h
        · cases h
      · cases h
    · cases h
  · dsimp only
    split at h
    · rename_i h1
      refine addRowsUX_ok h1 ?_
      split at h
      · rename_i hc
        refine ⟨hc.1, hc.2.1, hc.2.2, ?_⟩
        split at h
        · rename_i h2
          split at h
          · rename_i hd; cases h; rw [h2]; exact ⟨hd.1, hd.2.1, hd.2.2.1, hd.2.2.2, hk⟩
          · cases h
        · cases h
      · cases h
    · cases h
  · cases h
theorem mksliceUX_ok {sz n : Nat} {z : List AV} {ps : List Nat} (h : mksliceUX sz n z ps s dst xs = some s') (hk : K s') : eMksliceU sz n z ps s dst K xs := by
  unfold mksliceUX at h
  unfold eMksliceU
  split at h
  · rename_i h1; rw [h1]
    split at h
    · rename_i hc; cases h; exact ⟨hc.1, hc.2.1, isNone_eq hc.2.2, hk⟩
    · cases h
  · cases h
theorem callIX_ok {ci : CI} (hi : CallIOk P ci) {f : FuncId} (h : callIX P ci f xs s dst = some s') (hk : K s') : okFn P f = true ∧ eCallI P f xs s dst K := by
  unfold callIX at h
  split at h
  · rename_i hok
    refine ⟨hok, ?_⟩
    split at h
    · rename_i r s1 h1
      split at h
      · rename_i hb
        cases h
        refine CallI_mono ?_ (hi _ _ _ _ _ h1)
        rintro r1 s2 ⟨rfl, rfl⟩
        exact ⟨hb, hk⟩
      · cases h
    · cases h
  · cases h
theorem appendX_ok {sz b : Nat} (h : appendX sz b s dst xs = some s') (hk : K s') : eAppend sz b s dst K xs := by
  unfold appendX at h
  unfold eAppend
  split at h
  · dsimp only
    split at h
    · rename_i h1
      refine addRowsX_ok h1 ?_
      split at h
      · rename_i hc
        refine ⟨hc.1, hc.2.1, hc.2.2, ?_⟩
        split at h
        · split at h
          · rename_i hd; cases h; dsimp only
            obtain ⟨hd, hd2⟩ := hd
            refine ⟨?_, isNone_eq hd2, hk⟩
            rcases hd with hd | hd
            · exact .inl (List.isEmpty_iff.1 hd)
            · exact .inr hd
          · cases h
        · split at h
          · rename_i hd; cases h; exact ⟨hd.1, isNone_eq hd.2, hk⟩
          · cases h
        · cases h
      · cases h
    · cases h
  · cases h
theorem copyX_ok {sz : Nat} (h : copyX sz s dst xs = some s') (hk : K s') : eCopy sz s dst K xs := by
  unfold copyX at h
  unfold eCopy
  split at h
  · dsimp only
    split at h
    · rename_i hz
      refine ⟨hz.1, hz.2, ?_⟩
      split at h
      · rename_i rows2 h1
        have h2 : addRows (lk s.sto) sz ‹AV› (fun r => r = rows2) ∧ (∀ v, ‹AV› ≠ .val v) := by
          unfold cpRowsX at h1
          split at h1
          · cases h1
          · rename_i hne; exact ⟨addRowsX_ok h1 rfl, fun v e => hne v e⟩
        unfold cpRows
        split
        · rename_i v; exact absurd rfl (h2.2 v)
        · refine addRows_mono ?_ h2.1
          rintro r rfl
          split at h
          · rename_i h3; rw [h3]
            split at h
            · rename_i hc; cases h; exact ⟨hc.1, hc.2.1, hc.2.2, hk⟩
            · cases h
          · cases h
      · cases h
    · cases h
  · cases h

/-! ### when are two values the same? -/

def vEq : Value → Value → Bool
  | .bool a, .bool b => a == b
  | .int k a, .int k' b => decide (k = k') && decide (a = b)
  | .string a, .string b => decide (a = b)
  | .pointer none, .pointer none => true
  | .slice none a b, .slice none c d => decide (a = c) && decide (b = d)
  | _, _ => false
theorem vEq_ok : ∀ {x y : Value}, vEq x y = true → x = y := by
  intro x y h
  unfold vEq at h
  split at h <;> first | cases h | skip
  all_goals simp_all
def mEq : Mode → Mode → Bool
  | .plain, .plain => true
  | .full, .full => true
  | .own a, .own b => decide (a = b)
  | _, _ => false
theorem mEq_ok {x y : Mode} (h : mEq x y = true) : x = y := by
  unfold mEq at h
  split at h <;> first | rfl | simp_all
def fEq : Fn → Fn → Bool
  | .func a, .func b => decide (a = b)
  | _, _ => false
theorem fEq_ok {x y : Fn} (h : fEq x y = true) : x = y := by
  unfold fEq at h
  split at h <;> simp_all
mutual
def avEq : AV → AV → Bool
  | .undef, y => match y with
    | .undef => true
    | _ => false
  | .val a, y => match y with
    | .val b => vEq a b
    | _ => false
  | .agg a, y => match y with
    | .agg b => avEqL a b
    | _ => false
  | .tuple a, y => match y with
    | .tuple b => avEqL a b
    | _ => false
  | .list n m r, y => match y with
    | .list n' m' r' => decide (n = n') && (mEq m m' && avEqR r r')
    | _ => false
  | .ro a, y => match y with
    | .ro b => avEqL a b
    | _ => false
  | .ptr a b, y => match y with
    | .ptr c d => decide (a = c) && decide (b = d)
    | _ => false
  | .eptr a b c d, y => match y with
    | .eptr a' b' c' d' => decide (a = a') && decide (b = b') && decide (c = c') && decide (d = d')
    | _ => false
  | .sl a b c d, y => match y with
    | .sl a' b' c' d' => decide (a = a') && decide (b = b') && decide (c = c') && decide (d = d')
    | _ => false
  | .us a b c d, y => match y with
    | .us a' b' c' d' => decide (a = a') && decide (b = b') && decide (c = c') && decide (d = d')
    | _ => false
  | .up a b c d, y => match y with
    | .up a' b' c' d' => decide (a = a') && decide (b = b') && decide (c = c') && decide (d = d')
    | _ => false
  | .fn f c, y => match y with
    | .fn f' c' => fEq f f' && avEqL c c'
    | _ => false
  | .iface t x, y => match y with
    | .iface t' x' => decide (t = t') && avEq x x'
    | _ => false
def avEqL : List AV → List AV → Bool
  | [], y => match y with
    | [] => true
    | _ => false
  | x :: l, y => match y with
    | z :: m => avEq x z && avEqL l m
    | _ => false
def avEqR : List (List AV) → List (List AV) → Bool
  | [], y => match y with
    | [] => true
    | _ => false
  | x :: l, y => match y with
    | z :: m => avEqL x z && avEqR l m
    | _ => false
end
mutual
theorem avEq_ok : ∀ (x y : AV), avEq x y = true → x = y
  | .undef, y, h => by cases y <;> first | rfl | (simp [avEq] at h)
  | .val a, y, h => by cases y <;> simp only [avEq, Bool.false_eq_true] at h; rw [vEq_ok h]
  | .agg a, y, h => by cases y <;> simp only [avEq, Bool.false_eq_true] at h; rw [avEqL_ok _ _ h]
  | .tuple a, y, h => by cases y <;> simp only [avEq, Bool.false_eq_true] at h; rw [avEqL_ok _ _ h]
  | .list n m r, y, h => by
    cases y <;> simp only [avEq, Bool.false_eq_true, Bool.and_eq_true, decide_eq_true_eq] at h
    obtain ⟨rfl, h1, h2⟩ := h
    rw [mEq_ok h1, avEqR_ok _ _ h2]
  | .ro a, y, h => by cases y <;> simp only [avEq, Bool.false_eq_true] at h; rw [avEqL_ok _ _ h]
  | .ptr a b, y, h => by cases y <;> simp only [avEq, Bool.false_eq_true, Bool.and_eq_true, decide_eq_true_eq] at h; rw [h.1, h.2]
  | .eptr a b c d, y, h => by cases y <;> simp only [avEq, Bool.false_eq_true, Bool.and_eq_true, decide_eq_true_eq] at h; obtain ⟨⟨⟨rfl, rfl⟩, rfl⟩, rfl⟩ := h; rfl
  | .sl a b c d, y, h => by cases y <;> simp only [avEq, Bool.false_eq_true, Bool.and_eq_true, decide_eq_true_eq] at h; obtain ⟨⟨⟨rfl, rfl⟩, rfl⟩, rfl⟩ := h; rfl
  | .us a b c d, y, h => by cases y <;> simp only [avEq, Bool.false_eq_true, Bool.and_eq_true, decide_eq_true_eq] at h; obtain ⟨⟨⟨rfl, rfl⟩, rfl⟩, rfl⟩ := h; rfl
  | .up a b c d, y, h => by cases y <;> simp only [avEq, Bool.false_eq_true, Bool.and_eq_true, decide_eq_true_eq] at h; obtain ⟨⟨⟨rfl, rfl⟩, rfl⟩, rfl⟩ := h; rfl
  | .fn f c, y, h => by
    cases y <;> simp only [avEq, Bool.false_eq_true, Bool.and_eq_true] at h
    rw [fEq_ok h.1, avEqL_ok _ _ h.2]
  | .iface t x, y, h => by
    cases y <;> simp only [avEq, Bool.false_eq_true, Bool.and_eq_true, decide_eq_true_eq] at h
    rw [h.1, avEq_ok _ _ h.2]
theorem avEqL_ok : ∀ (x y : List AV), avEqL x y = true → x = y
  | [], y, h => by cases y <;> first | rfl | (simp [avEqL] at h)
  | x :: l, y, h => by
    cases y <;> simp only [avEqL, Bool.false_eq_true, Bool.and_eq_true] at h
    rw [avEq_ok _ _ h.1, avEqL_ok _ _ h.2]
theorem avEqR_ok : ∀ (x y : List (List AV)), avEqR x y = true → x = y
  | [], y, h => by cases y <;> first | rfl | (simp [avEqR] at h)
  | x :: l, y, h => by
    cases y <;> simp only [avEqR, Bool.false_eq_true, Bool.and_eq_true] at h
    rw [avEqL_ok _ _ h.1, avEqR_ok _ _ h.2]
end
def enEq : Option Entry → Option Entry → Bool
  | none, none => true
  | some (.var a), some (.var b) => avEqL a b
  | some (.arr n a), some (.arr m b) => decide (n = m) && avEqR a b
  | _, _ => false
theorem enEq_ok {x y : Option Entry} (h : enEq x y = true) : x = y := by
  unfold enEq at h
  split at h
  · rfl
  · rw [avEqL_ok _ _ h]
  · simp only [Bool.and_eq_true, decide_eq_true_eq] at h; rw [h.1, avEqR_ok _ _ h.2]
  · cases h
def chkX (P : Program) (call : FuncId → List AV → Option AV) (op : AOp) (s : St) (dst : Option Nat) (xs : List AV) : Option St :=
  match dst with
  | some d => match execE P call (s.base + d) op xs (lk (del [s.base + d] s.sto)), lk s.env d with
    | some (x, e), some y => if avEq y x && enEq (lk s.sto (s.base + d)) e then some s else none
    | _, _ => none
  | none => none
theorem chkX_ok {op : AOp} (hc : CallOk P call) (h : chkX P call op s dst xs = some s') (hk : K s') : eChk P op s dst K xs := by
  unfold chkX at h
  unfold eChk
  split at h
  · split at h
    · rename_i x e y h1 h2
      split at h
      · rename_i h3
        cases h
        simp only [Bool.and_eq_true] at h3
        exact execE_ok hc h1 ⟨by rw [h2, avEq_ok _ _ h3.1], enEq_ok h3.2, hk⟩
      · cases h
    · cases h
  · cases h
def freshB (σ : List (Nat × Entry)) (base : Nat) : List Nat → Bool
  | [] => true
  | d :: ds => (lk σ (base + d)).isNone && freshB σ base ds
theorem freshB_ok {σ : List (Nat × Entry)} {base : Nat} : ∀ {ds : List Nat}, freshB σ base ds = true → freshP σ base ds
  | [], _ => trivial
  | d :: ds, h => by
    simp only [freshB, Bool.and_eq_true] at h
    exact ⟨isNone_eq h.1, freshB_ok h.2⟩
def startX (ds : List Nat) (s : St) : Option St := if freshB s.sto s.base ds = true then some { s with env := del ds s.env } else none
theorem startX_ok {ds : List Nat} (h : startX ds s = some s') (hk : K s') : freshP s.sto s.base ds ∧ K { s with env := del ds s.env } := by
  unfold startX at h
  split at h
  · rename_i h1; cases h; exact ⟨freshB_ok h1, hk⟩
  · cases h

def execOp (P : Program) (call : FuncId → List AV → Option AV) (ci : CI) (dst : Option Nat) (op : AOp) (xs : List AV) (s : St) : Option St :=
  match op with
  | .store n => storeX n s dst xs
  | .append sz b => appendX sz b s dst xs
  | .copy sz => copyX sz s dst xs
  | .appendU sz b => appendUX sz b s dst xs
  | .mksliceU sz n z ps => mksliceUX sz n z ps s dst xs
  | .callI f => callIX P ci f xs s dst
  | .chk op => chkX P call op s dst xs
  | .start ds => startX ds s
  | .callvI => match xs with
    | .fn (.func f) caps :: ys => callIX P ci f (ys ++ caps) s dst
    | _ => none
  | .nilS neg => match xs with
    | [x] => match nilN x with
      | some (n + 1) => some (s.put dst (.val (.bool neg)))
      | _ => none
    | _ => none
  | op => match execE P call (s.base + dst.getD 0) op xs (lk s.sto) with
    | some (x, e) => some ((s.put dst x).new dst e)
    | none => none
def execOper (P : Program) (call : FuncId → List AV → Option AV) (ci : CI) (o : AOper) (s : St) : Option St :=
  match o.guard with
  | none => execOp P call ci o.dst o.op (o.xs.map (ev s)) s
  | some (g, b) => match s.get g with
    | .val (.bool c) => if c = b then execOp P call ci o.dst o.op (o.xs.map (ev s)) s else some (s.put o.dst (.val undef))
    | .val _ => some (s.put o.dst (.val undef))
    | _ => none
def execOps (P : Program) (call : FuncId → List AV → Option AV) (ci : CI) : List AOper → St → Option St
  | [], s => some s
  | o :: os, s => match execOper P call ci o s with
    | some s' => execOps P call ci os s'
    | none => none
theorem nilX_ok {neg : Bool} (h : (match xs with | [x] => (match nilN x with | some (n + 1) => some (s.put dst (.val (.bool neg))) | _ => none) | _ => none) = some s') (hk : K s') : eNilS neg s dst K xs := by
  unfold eNilS
  split at h
  · split at h
    · rename_i h1; cases h; simp only [h1]; exact ⟨fun h => (by cases h), fun _ => hk⟩
    · cases h
  · cases h
theorem execOp_ok {o : AOper} (hc : CallOk P call) (hi : CallIOk P ci) (h : execOp P call ci o.dst o.op (o.xs.map (ev s)) s = some s') (hk : K s') : awpOp P o s K := by
  obtain ⟨d, op, ys, g⟩ := o
  unfold awpOp
  cases op <;> first
    | exact storeX_ok h hk
    | exact appendX_ok h hk
    | exact copyX_ok h hk
    | exact appendUX_ok h hk
    | exact mksliceUX_ok h hk
    | exact callIX_ok hi h hk
    | exact nilX_ok h hk
    | exact chkX_ok hc h hk
    | exact startX_ok h hk
    | (dsimp only [execOp] at h ⊢
       split at h
       · rename_i h1; rw [h1]; exact callIX_ok hi h hk
       · cases h)
    | (simp only [execOp] at h
       split at h
       · rename_i h1; cases h
         exact execE_ok hc h1 hk
       · cases h)
theorem execOper_ok {o : AOper} (hc : CallOk P call) (hi : CallIOk P ci) (h : execOper P call ci o s = some s') (hk : K s') : awpOper P o s K := by
  unfold execOper at h
  unfold awpOper
  split at h
  · rename_i hg; rw [hg]; exact execOp_ok hc hi h hk
  · rename_i g b hg; rw [hg]; dsimp only
    split at h
    · rename_i c h1; rw [h1]
      split at h
      · rename_i e; subst e
        exact ⟨fun _ => execOp_ok hc hi h hk, fun e => by cases c <;> cases e⟩
      · rename_i e; cases h; exact ⟨fun e2 => absurd e2 e, fun _ => hk⟩
    · rename_i h1; cases h
      split
      · rename_i h2; simp_all
      · exact hk
      · rename_i h2 _; simp_all
    · cases h
theorem execOps_ok (hc : CallOk P call) (hi : CallIOk P ci) : ∀ {os : List AOper} {s s' : St}, execOps P call ci os s = some s' → K s' → awpOps P os s K
  | [], _, _, h, hk => by cases h; exact hk
  | o :: os, s, s', h, hk => by
    simp only [execOps] at h
    split at h
    · rename_i s1 h1; exact execOper_ok hc hi h1 (execOps_ok hc hi h hk)
    · cases h
end

def freezesX : List Nat → St → Option St
  | [], s => some s
  | k0 :: ks, s => match lk s.sto (s.base + k0) with
    | some e => if St.unmet { env := s.env.map fun p => (p.1, frz (s.base + k0) e p.2), sto := (del [s.base + k0] s.sto).map fun p => (p.1, frzE (s.base + k0) e p.2), out := s.out.map fun f => f.map fun p => (p.1, frz (s.base + k0) e p.2), base := s.base } (s.base + k0) = true then
        freezesX ks { env := s.env.map fun p => (p.1, frz (s.base + k0) e p.2), sto := (del [s.base + k0] s.sto).map fun p => (p.1, frzE (s.base + k0) e p.2), out := s.out.map fun f => f.map fun p => (p.1, frz (s.base + k0) e p.2), base := s.base } else none
    | none => none
theorem freezesX_ok {K : St → Prop} : ∀ {ks : List Nat} {s s' : St}, freezesX ks s = some s' → K s' → freezes ks s K
  | [], _, _, h, hk => by cases h; exact hk
  | k :: ks, s, s', h, hk => by
    simp only [freezesX] at h
    simp only [freezes, eFreeze]
    split at h
    · rename_i h1; rw [h1]
      split at h
      · rename_i hu; exact ⟨hu, freezesX_ok h hk⟩
      · cases h
    · cases h

abbrev XR := Option (Exit × St)
/-- One step; 'ih' is the evaluator with less fuel. -/
def stepX (P : Program) (call : FuncId → List AV → Option AV) (ci : CI) (ih : ACode → St → XR) (c : ACode) (s : St) : XR :=
  match c with
  | .skip => some (.normal, s)
  | .region _ FK ops D DK => match freezesX FK s with
    | some s0 => match execOps P call ci ops s0 with
      | some s1 => if unmetD (lk (s1.drop D).sto) ((s1.drop D).nm DK) { (s1.drop D) with sto := del ((s1.drop D).nm DK) (s1.drop D).sto } = true then some (.normal, { (s1.drop D) with sto := del ((s1.drop D).nm DK) (s1.drop D).sto }) else none
      | none => none
    | none => none
  | .seq a b => match ih a s with
    | some (.normal, s') => ih b s'
    | r => r
  | .cond x a b => match ev s x with
    | .val (.bool t) => cond t (ih a s) (ih b s)
    | _ => none
  | .block id a => match ih a s with
    | some (.exit i, s') => if i = id then some (.normal, s') else some (.exit i, s')
    | r => r
  | .loop a => match ih a s with
    | some (.normal, s') => ih (.loop a) s'
    | r => r
  | .exit id => some (.exit id, s)
  | .ret => some (.ret, s)
def exec (P : Program) (call : FuncId → List AV → Option AV) (ci : CI) (n : Nat) : ACode → St → XR :=
  Nat.rec (fun _ _ => none) (fun _ ih => stepX P call ci ih) n

theorem exec_ok {P : Program} {call : FuncId → List AV → Option AV} {ci : CI} (hc : CallOk P call) (hi : CallIOk P ci) : ∀ (n : Nat) (c : ACode) (s s' : St) (e : Exit), exec P call ci n c s = some (e, s') → awp P c s (fun e1 s1 => e1 = e ∧ s1 = s')
  | 0, _, _, _, _, h => by cases h
  | n + 1, c, s, s', e, h => by
    have h : stepX P call ci (exec P call ci n) c s = some (e, s') := h
    cases c with
    | skip => cases h; exact ⟨rfl, rfl⟩
    | region d FK ops D DK =>
      simp only [stepX] at h
      split at h
      · rename_i h1
        split at h
        · rename_i h2
          split at h
          · rename_i h3; cases h
            exact freezesX_ok h1 (execOps_ok hc hi h2 ⟨h3, rfl, rfl⟩)
          · cases h
        · cases h
      · cases h
    | seq a b =>
      simp only [stepX] at h
      simp only [awp]
      split at h
      · rename_i s1 h1
        refine awp_mono ?_ (exec_ok hc hi n a s s1 .normal h1)
        rintro e1 s2 ⟨rfl, rfl⟩
        exact exec_ok hc hi n b _ _ _ h
      · rename_i hne
        refine awp_mono ?_ (exec_ok hc hi n a s s' e h)
        rintro e1 s2 ⟨rfl, rfl⟩
        cases e1 with
        | normal => exact absurd h (hne _)
        | _ => exact ⟨rfl, rfl⟩
    | cond x a b =>
      simp only [stepX] at h
      simp only [awp]
      split at h
      · rename_i t h1; rw [h1]
        cases t with
        | true => exact ⟨fun _ => exec_ok hc hi n a s s' e h, fun e => by cases e⟩
        | false => exact ⟨fun e => (by cases e), fun _ => exec_ok hc hi n b s s' e h⟩
      · cases h
    | block id a =>
      simp only [stepX] at h
      simp only [awp]
      split at h
      · rename_i i s1 h1
        refine awp_mono ?_ (exec_ok hc hi n a s s1 (.exit i) h1)
        rintro e1 s2 ⟨rfl, rfl⟩
        simp only [blockK]
        split at h
        · rename_i hi; cases h; rw [if_pos hi]; exact ⟨rfl, rfl⟩
        · rename_i hi; cases h; rw [if_neg hi]; exact ⟨rfl, rfl⟩
      · rename_i hne
        refine awp_mono ?_ (exec_ok hc hi n a s s' e h)
        rintro e1 s2 ⟨rfl, rfl⟩
        cases e1 with
        | exit i => exact absurd h (hne _ _)
        | _ => exact ⟨rfl, rfl⟩
    | loop a =>
      refine ⟨fun m s0 => m ≤ n + 1 ∧ exec P call ci m (.loop a) s0 = some (e, s'), n + 1, ⟨Nat.le_refl _, h⟩, ?_⟩
      rintro m s0 ⟨hm, hj⟩
      cases m with
      | zero => cases hj
      | succ m =>
        have hj : stepX P call ci (exec P call ci m) (.loop a) s0 = some (e, s') := hj
        simp only [stepX] at hj
        split at hj
        · rename_i s1 h1
          have : m < n + 1 := hm
          refine awp_mono ?_ (exec_ok hc hi m a s0 s1 .normal h1)
          rintro e1 s2 ⟨rfl, rfl⟩
          exact ⟨m, Nat.lt_succ_self m, by omega, hj⟩
        · rename_i hne
          refine awp_mono ?_ (exec_ok hc hi m a s0 s' e hj)
          rintro e1 s2 ⟨rfl, rfl⟩
          cases e1 with
          | normal => exact absurd hj (hne _)
          | _ => exact ⟨rfl, rfl⟩
    | exit id => cases h; exact ⟨rfl, rfl⟩
    | ret => cases h; exact ⟨rfl, rfl⟩
termination_by n => n
decreasing_by all_goals omega

abbrev FTab := FuncId → Option (ACode × List ResA × Nat)
def TabOk (P : Program) (tbl : FTab) : Prop := ∀ f ac ras N, tbl f = some (ac, ras, N) → transl P f = some (bare ac, ras, N)

def callStep (P : Program) (tbl : FTab) (fuel : Nat) (ih : FuncId → List AV → Option AV) (ii : CI) (f : FuncId) (args : List AV) : Option AV :=
  match tbl f with
  | some (ac, ras, N) => if args.length ≤ N then (match exec P ih ii fuel ac ⟨initE 0 args, [], [], 0⟩ with
      | some (.normal, s) => resOf ras s
      | some (.ret, s) => resOf ras s
      | _ => none) else none
  | none => none
/-- Names above all that are there. -/
def above (s : St) : Nat := s.sto.foldl (fun m p => if m ≤ p.1 then p.1 + 1 else m) (s.base + 1000)
def popX (ras : List ResA) (s : St) (s1 : St) : Option (AV × St) :=
  match mapO (rawA s1) ras, s1.out with
  | some xs, e0 :: o0 => some (tup xs, { env := e0, sto := s1.sto, out := o0, base := s.base })
  | _, _ => none
def callIStep (P : Program) (tbl : FTab) (fuel : Nat) (ih : FuncId → List AV → Option AV) (ii : CI) (f : FuncId) (args : List AV) (s : St) : Option (AV × St) :=
  match tbl f with
  | some (ac, ras, N) => if args.length ≤ N then (match exec P ih ii fuel ac { env := initE 0 args, sto := s.sto, out := s.env :: s.out, base := above s } with
      | some (.normal, s1) => popX ras s s1
      | some (.ret, s1) => popX ras s s1
      | _ => none) else none
  | none => none
def callX2 (P : Program) (tbl : FTab) (fuel : Nat) (n : Nat) : (FuncId → List AV → Option AV) × CI :=
  Nat.rec (fun _ _ => none, fun _ _ _ => none) (fun _ ih => (callStep P tbl fuel ih.1 ih.2, callIStep P tbl fuel ih.1 ih.2)) n
def callX (P : Program) (tbl : FTab) (fuel : Nat) (n : Nat) : FuncId → List AV → Option AV := (callX2 P tbl fuel n).1

theorem callX2_ok {P : Program} {tbl : FTab} (ht : TabOk P tbl) (fuel : Nat) : ∀ n, CallOk P (callX2 P tbl fuel n).1 ∧ CallIOk P (callX2 P tbl fuel n).2
  | 0 => ⟨fun _ _ _ h => (by cases h), fun _ _ _ _ _ h => (by cases h)⟩
  | n + 1 => by
    obtain ⟨ih, ii⟩ := callX2_ok ht fuel n
    refine ⟨fun f as r h => ?_, fun f as s r s' h => ?_⟩
    · have h : callStep P tbl fuel (callX2 P tbl fuel n).1 (callX2 P tbl fuel n).2 f as = some r := h
      unfold callStep at h
      split at h
      · rename_i h1
        split at h
        · rename_i hl
          refine sound (ht _ _ _ _ h1) hl ?_
          split at h
          · rename_i h2
            refine awp_mono ?_ (exec_ok ih ii _ _ _ _ _ h2)
            rintro e s ⟨rfl, rfl⟩
            exact ⟨.inl rfl, h⟩
          · rename_i h2
            refine awp_mono ?_ (exec_ok ih ii _ _ _ _ _ h2)
            rintro e s ⟨rfl, rfl⟩
            exact ⟨.inr rfl, h⟩
          · cases h
        · cases h
      · cases h
    · have h : callIStep P tbl fuel (callX2 P tbl fuel n).1 (callX2 P tbl fuel n).2 f as s = some (r, s') := h
      have pop : ∀ {ras : List ResA} {s1 : St}, popX ras s s1 = some (r, s') → ∃ xs e0 o0, mapO (rawA s1) ras = some xs ∧ s1.out = e0 :: o0 ∧ (tup xs = r ∧ ({ env := e0, sto := s1.sto, out := o0, base := s.base } : St) = s') := by
        intro ras s1 hp
        unfold popX at hp
        split at hp
        · rename_i xs e0 o0 h1 h2
          cases hp
          exact ⟨xs, e0, o0, h1, h2, rfl, rfl⟩
        · cases hp
      unfold callIStep at h
      split at h
      · rename_i h1
        split at h
        · rename_i hl
          refine soundI (above s) (ht _ _ _ _ h1) hl ?_
          split at h
          · rename_i h2
            refine awp_mono ?_ (exec_ok ih ii _ _ _ _ _ h2)
            rintro e s2 ⟨rfl, rfl⟩
            exact ⟨.inl rfl, pop h⟩
          · rename_i h2
            refine awp_mono ?_ (exec_ok ih ii _ _ _ _ _ h2)
            rintro e s2 ⟨rfl, rfl⟩
            exact ⟨.inr rfl, pop h⟩
          · cases h
        · cases h
      · cases h

theorem SoundCall.of_run {P : Program} {tbl : FTab} (ht : TabOk P tbl) {f : FuncId} {args : List AV} {r : AV} (fuel n : Nat) (h : callX P tbl fuel n f args = some r) : SoundCall P f args r :=
  (callX2_ok ht fuel n).1 f args r h
end Go.Am
namespace Go.Am
theorem TabOk.nil {P : Program} : TabOk P (lk []) := fun _ _ _ _ h => by cases h
theorem TabOk.cons {P : Program} {f : FuncId} {ac : ACode} {ras : List ResA} {N : Nat} {l : List (Nat × (ACode × List ResA × Nat))} (h : transl P f = some (bare ac, ras, N)) (hl : TabOk P (lk l)) :
    TabOk P (lk ((f, (ac, ras, N)) :: l)) := fun g a r n hg => by
  simp only [lk] at hg
  split at hg
  · rename_i e; subst e; cases hg; exact h
  · exact hl _ _ _ _ hg
end Go.Am
namespace Go.Am
@[simp] theorem ofV_bool {b : Bool} : ofV (.bool b) = .val (.bool b) := rfl
@[simp] theorem ofV_int {k : IntKind} {n : Int} : ofV (.int k n) = .val (.int k n) := rfl
@[simp] theorem ofV_string {s : ByteArray} : ofV (.string s) = .val (.string s) := rfl
end Go.Am
/-! 'simp' reckons only the arguments and the state -/
namespace Go.Am
@[congr] theorem eCall_congr {P : Program} {f : FuncId} {σ : Nat → Option Entry} {xs xs' : List AV} {k : AV → Option Entry → Prop} (h : Unit → xs = xs') : eCall P f σ xs k = eCall P f σ xs' k := by rw [h ()]
@[congr] theorem awpOps_congr {P : Program} {os : List AOper} {s s' : St} {K : St → Prop} (h : Unit → s = s') : awpOps P os s K = awpOps P os s' K := by rw [h ()]
end Go.Am
namespace Go.Am
@[simp] theorem stm_ite {c : Prop} [Decidable c] : stm (if c then Mode.full else Mode.plain) = if c then Mode.full else Mode.plain := by split <;> rfl
end Go.Am
namespace Go.Am
def eIdxA (len esz : Nat) (n : Option Nat) (x y : AV) (k : AV → Option Entry → Prop) : Prop :=
  match x, y with
  | .agg cells, .val (.int _ i) => 0 ≤ i ∧ i < len ∧ optA (partA cells (i.toNat * esz) n) k
  | _, _ => False
@[simp] theorem eIdxA_agg {len esz : Nat} {n : Option Nat} {cells : List AV} {ik : IntKind} {i : Int} {k : AV → Option Entry → Prop} :
    eIdxA len esz n (.agg cells) (.val (.int ik i)) k = (0 ≤ i ∧ i < len ∧ optA (partA cells (i.toNat * esz) n) k) := rfl
@[simp] theorem ops_idxA {P : Program} {s : St} {KS : St → Prop} {os : List AOper} {d : Nat} {len esz : Nat} {n : Option Nat} {x y : Opd} :
    awpOps P (⟨some d, .idxA len esz n, [x, y], none⟩ :: os) s KS = eIdxA len esz n (ev s x) (ev s y) (putC P os s (some d) KS) := by
  show evalE P (s.base + d) (.idxA len esz n) [ev s x, ev s y] (lk s.sto) (putC P os s (some d) KS) = _
  simp only [evalE, eIdxA]
  cases ev s x <;> try rfl
  cases ev s y <;> try rfl
  rename_i v
  cases v <;> rfl
@[simp] theorem partA_none {cells : List AV} {off : Nat} : partA cells off none = cells[off]? := rfl
end Go.Am
