/-
  The abstract machine, part 1: abstract values, the relation to the model's values, abstract states, the operations' meaning.
-/
import Derived.Calls
import Derived.Orders
import Derived.Below
import Derived.Deep.MidRow
import Derived.KernelRfl
import Derived.IntWalk
namespace Go.Am
open Go.RowKit

/-! ### computations that do not look at the world -/

/-- What a computation yields if it looks at nothing but the program's tables. -/
def semPure {α : Type} (P : Program) : Sem α → Option α
  | .pure a => some a
  | .program k => semPure P (k P)
  | _ => none

theorem semPure_run {α : Type} {P : Program} {s : Sem α} {a : α} (h : semPure P s = some a) (w : World) : s.run P w = .ok a w := by
  induction s with
  | pure b => simp [semPure] at h; subst h; rfl
  | program k ih => simp only [semPure] at h; simp only [Sem.run]; exact ih P h
  | _ => simp [semPure] at h

/-! ### abstract values -/

inductive Mode where
  | plain
  | full
  | own (l : Nat)

inductive AV where
  | undef
  | val (v : Value)
  | agg (cells : List AV)
  | tuple (vs : List AV)
  | list (sz : Nat) (m : Mode) (rows : List (List AV))
  | ro (cells : List AV)
  | ptr (k off : Nat)
  | eptr (k sz i off : Nat)
  | sl (k sz off len : Nat)
  | fn (f : Fn) (caps : List AV)

abbrev single (v : Value) : Bool := v.oneCell'

/-- 'x' stands for the value 'v' in world 'w'; what it leads to lies in the cells of 'I', which nobody writes any more. -/
inductive R0 (I : Nat → Nat → Prop) (w : World) : AV → Value → Prop where
  | undef (v : Value) : R0 I w .undef v
  | val (v : Value) : R0 I w (.val v) v
  | agg (cells : List AV) (vs : Array Value) (hs : vs.size = cells.length) (h1 : vs.all (·.oneCell') = true)
      (hc : ∀ i c, cells[i]? = some c → R0 I w c (vs.getD i undef)) : R0 I w (.agg cells) (.agg vs)
  | tuple (cells : List AV) (vs : Array Value) (hs : vs.size = cells.length)
      (hc : ∀ i c, cells[i]? = some c → R0 I w c (vs.getD i undef)) : R0 I w (.tuple cells) (.tuple vs)
  | listNil (sz : Nat) (m : Mode) (a : Option Addr) (cap : Nat) (hm : m = .full → cap = 0) (ho : ∀ l, m ≠ .own l) : R0 I w (.list sz m []) (.slice a 0 cap)
  | list (sz : Nat) (m : Mode) (rows : List (List AV)) (b o cap : Nat) (g : Nat → Nat → Value)
      (hcap : rows.length ≤ cap) (hm : m = .full → cap = rows.length) (ho : ∀ l, m ≠ .own l)
      (hrow : ∀ (i : Nat) (r : List AV), rows[i]? = some r → r.length = sz)
      (hcell : ∀ (i : Nat) (r : List AV) j c, rows[i]? = some r → r[j]? = some c → I b (o + i * sz + j) ∧ w.cell? ⟨b, o + i * sz + j, none⟩ = some (g i j) ∧ single (g i j) = true)
      (hc : ∀ (i : Nat) (r : List AV) j c, rows[i]? = some r → r[j]? = some c → R0 I w c (g i j)) :
      R0 I w (.list sz m rows) (.slice (some ⟨b, o, none⟩) rows.length cap)
  | ro (cells : List AV) (b o : Nat) (g : Nat → Value)
      (hcell : ∀ j c, cells[j]? = some c → I b (o + j) ∧ w.cell? ⟨b, o + j, none⟩ = some (g j) ∧ single (g j) = true)
      (hc : ∀ j c, cells[j]? = some c → R0 I w c (g j)) : R0 I w (.ro cells) (.pointer (some ⟨b, o, none⟩))
  | fn (f : Fn) (caps : List AV) (vs : Array Value) (hs : vs.size = caps.length)
      (hc : ∀ i c, caps[i]? = some c → R0 I w c (vs.getD i undef)) : R0 I w (.fn f caps) (.func f #[] vs)

theorem R0.mono {I I' : Nat → Nat → Prop} {w w' : World} (hI : ∀ b o, I b o → I' b o)
    (hw : ∀ b o v, I b o → w.cell? ⟨b, o, none⟩ = some v → w'.cell? ⟨b, o, none⟩ = some v) {x : AV} {v : Value}
    (h : R0 I w x v) : R0 I' w' x v := by
  induction h with
  | undef v => exact .undef v
  | val v => exact .val v
  | agg cells vs hs h1 _ ih => exact .agg cells vs hs h1 ih
  | tuple cells vs hs _ ih => exact .tuple cells vs hs ih
  | listNil sz m a cap hm ho => exact .listNil sz m a cap hm ho
  | list sz m rows b o cap g hcap hm ho hrow hcell _ ih =>
    exact .list sz m rows b o cap g hcap hm ho hrow (fun i r j c h1 h2 =>
      ⟨hI _ _ (hcell i r j c h1 h2).1, hw _ _ _ (hcell i r j c h1 h2).1 (hcell i r j c h1 h2).2.1, (hcell i r j c h1 h2).2.2⟩) ih
  | ro cells b o g hcell _ ih =>
    exact .ro cells b o g (fun j c h1 => ⟨hI _ _ (hcell j c h1).1, hw _ _ _ (hcell j c h1).1 (hcell j c h1).2.1, (hcell j c h1).2.2⟩) ih
  | fn f caps vs hs _ ih => exact .fn f caps vs hs ih

/-- Where the cells of 'I' lie below 'B', and nothing below 'B' has turned. -/
theorem R0.under {I : Nat → Nat → Prop} {w w' : World} {B : Nat} (hI : ∀ b o, I b o → b < B) (hb : Below B w w') {x : AV} {v : Value}
    (h : R0 I w x v) : R0 I w' x v :=
  h.mono (fun _ _ h => h) (fun b o v hi hv => by rw [hb.cell (p := ⟨b, o, none⟩) (hI _ _ hi)]; exact hv)

/-! ### values that lead into the function's own variables -/

/-- The block of each variable of the function's own; the slice whose spare room is owned. -/
abbrev Blocks := Nat → Option Nat
abbrev Owned := Nat → Option (Option Addr × Nat × Nat × Nat)

inductive R (I : Nat → Nat → Prop) (w : World) (β : Blocks) (lam : Owned) : AV → Value → Prop where
  | base {x : AV} {v : Value} (h : R0 I w x v) : R I w β lam x v
  | ptr (k off b : Nat) (h : β k = some b) : R I w β lam (.ptr k off) (.pointer (some ⟨b, off, none⟩))
  | eptr (k sz i off b : Nat) (h : β k = some b) : R I w β lam (.eptr k sz i off) (.pointer (some ⟨b, i * sz + off, none⟩))
  | sl (k sz off len cap b : Nat) (av : Option Addr) (h : β k = some b) (hc : len ≤ cap) (ha : len ≠ 0 → av = some ⟨b, off * sz, none⟩) : R I w β lam (.sl k sz off len) (.slice av len cap)
  | own (sz l : Nat) (rows : List (List AV)) (a : Option Addr) (cap : Nat) (h : R0 I w (.list sz .plain rows) (.slice a rows.length cap))
      (hl : lam l = some (a, rows.length, cap, sz)) : R I w β lam (.list sz (.own l) rows) (.slice a rows.length cap)
  | fn (f : Fn) (caps : List AV) (vs : Array Value) (hs : vs.size = caps.length) (hn : ∀ sz l rows, AV.list sz (.own l) rows ∉ caps)
      (hc : ∀ i c, caps[i]? = some c → R I w β lam c (vs.getD i undef)) : R I w β lam (.fn f caps) (.func f #[] vs)

theorem R.mono {I I' : Nat → Nat → Prop} {w w' : World} {β β' : Blocks} {lam lam' : Owned} (hI : ∀ b o, I b o → I' b o)
    (hw : ∀ b o v, I b o → w.cell? ⟨b, o, none⟩ = some v → w'.cell? ⟨b, o, none⟩ = some v)
    (hβ : ∀ k b, β k = some b → β' k = some b) (hl : ∀ l q, lam l = some q → lam' l = some q) {x : AV} {v : Value}
    (h : R I w β lam x v) : R I' w' β' lam' x v := by
  induction h with
  | base h => exact .base (h.mono hI hw)
  | ptr k off b h => exact .ptr k off b (hβ _ _ h)
  | eptr k sz i off b h => exact .eptr k sz i off b (hβ _ _ h)
  | sl k sz off len cap b av h hc ha => exact .sl k sz off len cap b av (hβ _ _ h) hc ha
  | own sz l rows a cap h hl' => exact .own sz l rows a cap (h.mono hI hw) (hl _ _ hl')
  | fn f caps vs hs hn _ ih => exact .fn f caps vs hs hn ih

/-! ### the function's own variables -/

inductive Entry where
  | var (cells : List AV)
  | arr (sz : Nat) (rows : List (List AV))

/-- Block 'b' holds this entry. -/
def RE (I : Nat → Nat → Prop) (w : World) (β : Blocks) (lam : Owned) (b : Nat) : Entry → Prop
  | .var cells => ∀ j c, cells[j]? = some c → ∃ v, w.cell? ⟨b, j, none⟩ = some v ∧ w.frozen? ⟨b, j, none⟩ = false ∧ single v = true ∧ R I w β lam c v
  | .arr sz rows => (∀ (i : Nat) (r : List AV), rows[i]? = some r → r.length = sz) ∧ ∀ (i : Nat) (r : List AV) j c, rows[i]? = some r → r[j]? = some c →
      ∃ v, w.cell? ⟨b, i * sz + j, none⟩ = some v ∧ w.frozen? ⟨b, i * sz + j, none⟩ = false ∧ single v = true ∧ R0 I w c v

theorem RE.mono {I I' : Nat → Nat → Prop} {w w' : World} {β β' : Blocks} {lam lam' : Owned} (hI : ∀ b o, I b o → I' b o)
    (hw : ∀ b o v, I b o → w.cell? ⟨b, o, none⟩ = some v → w'.cell? ⟨b, o, none⟩ = some v)
    (hβ : ∀ k b, β k = some b → β' k = some b) (hl : ∀ l q, lam l = some q → lam' l = some q) {b : Nat}
    (hb : w'.heap[b]? = w.heap[b]?) {e : Entry} (h : RE I w β lam b e) : RE I' w' β' lam' b e := by
  have hc : ∀ o, w'.cell? ⟨b, o, none⟩ = w.cell? ⟨b, o, none⟩ := fun o => by simp only [World.cell?, hb]
  have hf : ∀ o, w'.frozen? ⟨b, o, none⟩ = w.frozen? ⟨b, o, none⟩ := fun o => by simp only [World.frozen?, hb]
  cases e with
  | var cells =>
    intro j c hj
    obtain ⟨v, h1, h2, h3, h4⟩ := h j c hj
    exact ⟨v, by rw [hc]; exact h1, by rw [hf]; exact h2, h3, h4.mono hI hw hβ hl⟩
  | arr sz rows =>
    refine ⟨h.1, fun i r j c hi hj => ?_⟩
    obtain ⟨v, h1, h2, h3, h4⟩ := h.2 i r j c hi hj
    exact ⟨v, by rw [hc]; exact h1, by rw [hf]; exact h2, h3, h4.mono hI hw⟩

end Go.Am
