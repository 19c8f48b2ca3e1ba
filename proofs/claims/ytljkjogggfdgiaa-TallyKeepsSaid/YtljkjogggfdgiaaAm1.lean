/-
  The abstract machine, part 1: abstract values, the relation to the model's values, abstract states, the operations' meaning.
-/
import Derived.Calls
import Derived.Orders
import Derived.Below
import Derived.Deep.MidRow
import Derived.KernelRfl
import Derived.IntWalk
namespace Go.Am
open Go.RowKit

/-! ### computations that do not look at the world -/

/-- What a computation yields if it looks at nothing but the program's tables. -/
def semPure {α : Type} (P : Program) : Sem α → Option α
  | .pure a => some a
  | .program k => semPure P (k P)
  | _ => none

theorem semPure_run {α : Type} {P : Program} {s : Sem α} {a : α} (h : semPure P s = some a) (w : World) : s.run P w = .ok a w := by
  induction s with
  | pure b => simp [semPure] at h; subst h; rfl
  | program k ih => simp only [semPure] at h; simp only [Sem.run]; exact ih P h
  | _ => simp [semPure] at h

/-! ### abstract values -/

inductive Mode where
  | plain
  | full
  | own (l : Nat)

inductive AV where
  | undef
  | val (v : Value)
  | agg (cells : List AV)
  | tuple (vs : List AV)
  | list (sz : Nat) (m : Mode) (rows : List (List AV))
  | ro (cells : List AV)
  | ptr (k off : Nat)
  | eptr (k sz i off : Nat)
  | sl (k sz off len : Nat)
  | fn (f : Fn) (caps : List AV)
  | us (l sz off len : Nat)
  | up (l sz i off : Nat)
  | iface (t : TypeId) (x : AV)

abbrev single (v : Value) : Bool := v.oneCell'

/-- 'x' stands for the value 'v' in world 'w'; what it leads to lies in the cells of 'I', which nobody writes any more. -/
inductive R0 (I : Nat → Nat → Prop) (w : World) : AV → Value → Prop where
  | undef (v : Value) : R0 I w .undef v
  | val (v : Value) : R0 I w (.val v) v
  | agg (cells : List AV) (vs : Array Value) (hs : vs.size = cells.length) (h1 : vs.all (·.oneCell') = true)
      (hc : ∀ i c, cells[i]? = some c → R0 I w c (vs.getD i undef)) : R0 I w (.agg cells) (.agg vs)
  | tuple (cells : List AV) (vs : Array Value) (hs : vs.size = cells.length)
      (hc : ∀ i c, cells[i]? = some c → R0 I w c (vs.getD i undef)) : R0 I w (.tuple cells) (.tuple vs)
  | listNil (sz : Nat) (m : Mode) (a : Option Addr) (cap : Nat) (hm : m = .full → cap = 0) (ho : ∀ l, m ≠ .own l) : R0 I w (.list sz m []) (.slice a 0 cap)
  | list (sz : Nat) (m : Mode) (rows : List (List AV)) (b o cap : Nat) (g : Nat → Nat → Value)
      (hcap : rows.length ≤ cap) (hm : m = .full → cap = rows.length) (ho : ∀ l, m ≠ .own l)
      (hrow : ∀ (i : Nat) (r : List AV), rows[i]? = some r → r.length = sz)
      (hcell : ∀ (i : Nat) (r : List AV) j c, rows[i]? = some r → r[j]? = some c → I b (o + i * sz + j) ∧ w.cell? ⟨b, o + i * sz + j, none⟩ = some (g i j) ∧ single (g i j) = true)
      (hc : ∀ (i : Nat) (r : List AV) j c, rows[i]? = some r → r[j]? = some c → R0 I w c (g i j)) :
      R0 I w (.list sz m rows) (.slice (some ⟨b, o, none⟩) rows.length cap)
  | ro (cells : List AV) (b o : Nat) (g : Nat → Value)
      (hcell : ∀ j c, cells[j]? = some c → I b (o + j) ∧ w.cell? ⟨b, o + j, none⟩ = some (g j) ∧ single (g j) = true)
      (hc : ∀ j c, cells[j]? = some c → R0 I w c (g j)) : R0 I w (.ro cells) (.pointer (some ⟨b, o, none⟩))
  | fn (f : Fn) (caps : List AV) (vs : Array Value) (hs : vs.size = caps.length)
      (hc : ∀ i c, caps[i]? = some c → R0 I w c (vs.getD i undef)) : R0 I w (.fn f caps) (.func f #[] vs)
  | iface (t : TypeId) (x : AV) (v : Value) (h : R0 I w x v) : R0 I w (.iface t x) (.iface t v)

theorem R0.mono {I I' : Nat → Nat → Prop} {w w' : World} (hI : ∀ b o, I b o → I' b o)
    (hw : ∀ b o v, I b o → w.cell? ⟨b, o, none⟩ = some v → w'.cell? ⟨b, o, none⟩ = some v) {x : AV} {v : Value}
    (h : R0 I w x v) : R0 I' w' x v := by
  induction h with
  | undef v => exact .undef v
  | val v => exact .val v
  | agg cells vs hs h1 _ ih => exact .agg cells vs hs h1 ih
  | tuple cells vs hs _ ih => exact .tuple cells vs hs ih
  | listNil sz m a cap hm ho => exact .listNil sz m a cap hm ho
  | list sz m rows b o cap g hcap hm ho hrow hcell _ ih =>
    exact .list sz m rows b o cap g hcap hm ho hrow (fun i r j c h1 h2 =>
      ⟨hI _ _ (hcell i r j c h1 h2).1, hw _ _ _ (hcell i r j c h1 h2).1 (hcell i r j c h1 h2).2.1, (hcell i r j c h1 h2).2.2⟩) ih
  | ro cells b o g hcell _ ih =>
    exact .ro cells b o g (fun j c h1 => ⟨hI _ _ (hcell j c h1).1, hw _ _ _ (hcell j c h1).1 (hcell j c h1).2.1, (hcell j c h1).2.2⟩) ih
  | fn f caps vs hs _ ih => exact .fn f caps vs hs ih
  | iface t x v _ ih => exact .iface t x v ih

/-- Where the cells of 'I' lie below 'B', and nothing below 'B' has turned. -/
theorem R0.under {I : Nat → Nat → Prop} {w w' : World} {B : Nat} (hI : ∀ b o, I b o → b < B) (hb : Below B w w') {x : AV} {v : Value}
    (h : R0 I w x v) : R0 I w' x v :=
  h.mono (fun _ _ h => h) (fun b o v hi hv => by rw [hb.cell (p := ⟨b, o, none⟩) (hI _ _ hi)]; exact hv)

/-! ### values that lead into the function's own variables -/

/-- The block of each variable of the function's own; the slice whose spare room is owned. -/
abbrev Blocks := Nat → Option Nat
abbrev Owned := Nat → Option (Option Addr × Nat × Nat × Nat)

inductive R (I : Nat → Nat → Prop) (w : World) (β : Blocks) (lam : Owned) : AV → Value → Prop where
  | base {x : AV} {v : Value} (h : R0 I w x v) : R I w β lam x v
  | ptr (k off b : Nat) (h : β k = some b) : R I w β lam (.ptr k off) (.pointer (some ⟨b, off, none⟩))
  | eptr (k sz i off b : Nat) (h : β k = some b) : R I w β lam (.eptr k sz i off) (.pointer (some ⟨b, i * sz + off, none⟩))
  | sl (k sz off len cap b : Nat) (av : Option Addr) (h : β k = some b) (hc : len ≤ cap) (ha : len ≠ 0 → av = some ⟨b, off * sz, none⟩) : R I w β lam (.sl k sz off len) (.slice av len cap)
  | own (sz l : Nat) (rows : List (List AV)) (a : Option Addr) (cap : Nat) (h : R0 I w (.list sz .plain rows) (.slice a rows.length cap))
      (hl : lam l = some (a, rows.length, cap, sz)) : R I w β lam (.list sz (.own l) rows) (.slice a rows.length cap)
  | fn (f : Fn) (caps : List AV) (vs : Array Value) (hs : vs.size = caps.length) (hn : ∀ sz l rows, AV.list sz (.own l) rows ∉ caps)
      (hc : ∀ i c, caps[i]? = some c → R I w β lam c (vs.getD i undef)) : R I w β lam (.fn f caps) (.func f #[] vs)
  | us (l sz off len cap cp : Nat) (a av : Option Addr) (h : lam l = some (a, 0, cap, sz)) (hc : len ≤ cp) (ho : off + cp ≤ cap)
      (ha : cp ≠ 0 → ∃ b o, a = some ⟨b, o, none⟩ ∧ av = some ⟨b, o + off * sz, none⟩) : R I w β lam (.us l sz off len) (.slice av len cp)
  | up (l sz i off cap b o : Nat) (h : lam l = some (some ⟨b, o, none⟩, 0, cap, sz)) : R I w β lam (.up l sz i off) (.pointer (some ⟨b, o + i * sz + off, none⟩))
  | tuple (cells : List AV) (vs : Array Value) (hs : vs.size = cells.length) (hn : ∀ sz l rows, AV.list sz (.own l) rows ∉ cells)
      (hc : ∀ i c, cells[i]? = some c → R I w β lam c (vs.getD i undef)) : R I w β lam (.tuple cells) (.tuple vs)

theorem R.mono {I I' : Nat → Nat → Prop} {w w' : World} {β β' : Blocks} {lam lam' : Owned} (hI : ∀ b o, I b o → I' b o)
    (hw : ∀ b o v, I b o → w.cell? ⟨b, o, none⟩ = some v → w'.cell? ⟨b, o, none⟩ = some v)
    (hβ : ∀ k b, β k = some b → β' k = some b) (hl : ∀ l q, lam l = some q → lam' l = some q) {x : AV} {v : Value}
    (h : R I w β lam x v) : R I' w' β' lam' x v := by
  induction h with
  | base h => exact .base (h.mono hI hw)
  | ptr k off b h => exact .ptr k off b (hβ _ _ h)
  | eptr k sz i off b h => exact .eptr k sz i off b (hβ _ _ h)
  | sl k sz off len cap b av h hc ha => exact .sl k sz off len cap b av (hβ _ _ h) hc ha
  | own sz l rows a cap h hl' => exact .own sz l rows a cap (h.mono hI hw) (hl _ _ hl')
  | fn f caps vs hs hn _ ih => exact .fn f caps vs hs hn ih
  | us l sz off len cap cp a av h hc ho ha => exact .us l sz off len cap cp a av (hl _ _ h) hc ho ha
  | up l sz i off cap b o h => exact .up l sz i off cap b o (hl _ _ h)
  | tuple cells vs hs hn _ ih => exact .tuple cells vs hs hn ih

/-! ### the function's own variables -/

inductive Entry where
  | var (cells : List AV)
  | arr (sz : Nat) (rows : List (List AV))
  | uarr (sz : Nat) (rows : List (List AV))
def Entry.isU : Entry → Bool
  | .uarr _ _ => true
  | _ => false

/-- Block 'b' holds this entry. -/
def RE (I : Nat → Nat → Prop) (w : World) (β : Blocks) (lam : Owned) (b : Nat) : Entry → Prop
  | .var cells => ∀ j c, cells[j]? = some c → ∃ v, w.cell? ⟨b, j, none⟩ = some v ∧ w.frozen? ⟨b, j, none⟩ = false ∧ single v = true ∧ R I w β lam c v
  | .arr sz rows => (∀ (i : Nat) (r : List AV), rows[i]? = some r → r.length = sz) ∧ ∀ (i : Nat) (r : List AV) j c, rows[i]? = some r → r[j]? = some c →
      ∃ v, w.cell? ⟨b, i * sz + j, none⟩ = some v ∧ w.frozen? ⟨b, i * sz + j, none⟩ = false ∧ single v = true ∧ R0 I w c v
  | .uarr _ _ => False

/-- The array 'l', which lies where its owner's mark says, holds these rows. -/
def RU (I : Nat → Nat → Prop) (w : World) (β : Blocks) (lam : Owned) (l sz : Nat) (rows : List (List AV)) : Prop :=
  ∃ a cap, lam l = some (a, 0, cap, sz) ∧ rows.length ≤ cap ∧ (∀ (i : Nat) (r : List AV), rows[i]? = some r → r.length = sz) ∧
    (rows ≠ [] → ∃ b o, a = some ⟨b, o, none⟩ ∧ ∀ (i : Nat) (r : List AV) j c, rows[i]? = some r → r[j]? = some c →
      ∃ v, w.cell? ⟨b, o + i * sz + j, none⟩ = some v ∧ single v = true ∧ R I w β lam c v)

theorem RE.mono {I I' : Nat → Nat → Prop} {w w' : World} {β β' : Blocks} {lam lam' : Owned} (hI : ∀ b o, I b o → I' b o)
    (hw : ∀ b o v, I b o → w.cell? ⟨b, o, none⟩ = some v → w'.cell? ⟨b, o, none⟩ = some v)
    (hβ : ∀ k b, β k = some b → β' k = some b) (hl : ∀ l q, lam l = some q → lam' l = some q) {b : Nat}
    (hb : w'.heap[b]? = w.heap[b]?) {e : Entry} (h : RE I w β lam b e) : RE I' w' β' lam' b e := by
  have hc : ∀ o, w'.cell? ⟨b, o, none⟩ = w.cell? ⟨b, o, none⟩ := fun o => by simp only [World.cell?, hb]
  have hf : ∀ o, w'.frozen? ⟨b, o, none⟩ = w.frozen? ⟨b, o, none⟩ := fun o => by simp only [World.frozen?, hb]
  cases e with
  | var cells =>
    intro j c hj
    obtain ⟨v, h1, h2, h3, h4⟩ := h j c hj
    exact ⟨v, by rw [hc]; exact h1, by rw [hf]; exact h2, h3, h4.mono hI hw hβ hl⟩
  | arr sz rows =>
    refine ⟨h.1, fun i r j c hi hj => ?_⟩
    obtain ⟨v, h1, h2, h3, h4⟩ := h.2 i r j c hi hj
    exact ⟨v, by rw [hc]; exact h1, by rw [hf]; exact h2, h3, h4.mono hI hw⟩
  | uarr sz rows => exact h

/-- Where the array's own cells have not turned. -/
theorem RU.mono {I I' : Nat → Nat → Prop} {w w' : World} {β β' : Blocks} {lam lam' : Owned} (hI : ∀ b o, I b o → I' b o)
    (hw : ∀ b o v, I b o → w.cell? ⟨b, o, none⟩ = some v → w'.cell? ⟨b, o, none⟩ = some v)
    (hβ : ∀ k b, β k = some b → β' k = some b) (hl : ∀ l q, lam l = some q → lam' l = some q) {l sz : Nat} {rows : List (List AV)}
    (hb : ∀ b o cap q v, lam l = some (some ⟨b, o, none⟩, 0, cap, sz) → q < cap * sz → w.cell? ⟨b, o + q, none⟩ = some v → w'.cell? ⟨b, o + q, none⟩ = some v) (h : RU I w β lam l sz rows) : RU I' w' β' lam' l sz rows := by
  obtain ⟨a, cap, h1, h2, h3, h4⟩ := h
  refine ⟨a, cap, hl _ _ h1, h2, h3, fun hne => ?_⟩
  obtain ⟨b, o, rfl, h5⟩ := h4 hne
  refine ⟨b, o, rfl, fun i r j c hi hj => ?_⟩
  obtain ⟨v, g1, g2, g3⟩ := h5 i r j c hi hj
  have hil : i < rows.length := (List.getElem?_eq_some_iff.1 hi).1
  have hjl : j < sz := by have := (List.getElem?_eq_some_iff.1 hj).1; have := h3 i r hi; omega
  have hm : (i + 1) * sz ≤ cap * sz := Nat.mul_le_mul_right _ (by omega)
  rw [Nat.add_mul] at hm
  refine ⟨v, ?_, g2, g3.mono hI hw hβ hl⟩
  rw [Nat.add_assoc] at g1 ⊢
  exact hb b o cap _ v h1 (by omega) g1

/-! ### what holds between an abstract state and the model's -/

/-- What the function's frame began with: the world, the cells that it may look at, the number of slots; what lies in the slots of the frames behind. -/
structure Frame0 where
  w0 : World
  I0 : Nat → Nat → Prop
  N : Nat
  outs : List (Array Value) := []

/-- What lies in a slot of a frame, counted from the innermost. -/
def Frame0.val (F : Frame0) (a : Act) : Nat × Nat → Option Value
  | (0, t) => a.tmps[t]?
  | (d + 1, t) => (F.outs[d]?).bind fun f => f[t]?

structure Inv (F : Frame0) (e : Nat × Nat → Option AV) (σ : Nat → Option Entry) (I : Nat → Nat → Prop) (β : Blocks) (lam : Owned) (a : Act) (w : World) : Prop where
  defers : a.defers = []
  size : a.tmps.size = F.N
  below : Below F.w0.heap.size F.w0 w
  env : ∀ t x, e t = some x → ∃ v, F.val a t = some v ∧ R I w β lam x v
  sto : ∀ k en, σ k = some en → en.isU = false → ∃ b, β k = some b ∧ RE I w β lam b en
  usto : ∀ l sz rows, σ l = some (.uarr sz rows) → RU I w β lam l sz rows
  bdom : ∀ k b, β k = some b → ∃ en, σ k = some en ∧ en.isU = false
  binj : ∀ k k' b, β k = some b → β k' = some b → k = k'
  bnew : ∀ k b, β k = some b → F.w0.heap.size ≤ b ∧ b < w.heap.size ∧ ∀ o, ¬ I b o
  Isub : ∀ b o, I b o → b < w.heap.size
  I0sub : ∀ b o, F.I0 b o → I b o
  Inew : ∀ b o, I b o → F.I0 b o ∨ F.w0.heap.size ≤ b
  spare : ∀ l a len cap sz, lam l = some (a, len, cap, sz) → ∀ c, len * sz ≤ c → c < cap * sz →
    ∃ b o, a = some ⟨b, o, none⟩ ∧ F.w0.heap.size ≤ b ∧ (∃ v, w.cell? ⟨b, o + c, none⟩ = some v) ∧ w.frozen? ⟨b, o + c, none⟩ = false ∧ ¬ I b (o + c) ∧ ∀ k, β k ≠ some b
  ldis : ∀ l l' b o o' len len' cap cap' sz sz', l ≠ l' → lam l = some (some ⟨b, o, none⟩, len, cap, sz) → lam l' = some (some ⟨b, o', none⟩, len', cap', sz') →
    len * sz < cap * sz → len' * sz' < cap' * sz' → False

end Go.Am
