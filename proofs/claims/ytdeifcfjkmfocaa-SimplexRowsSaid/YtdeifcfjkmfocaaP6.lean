/- What the proof rests on, part 6: Am42. -/
import Derived.Test.YtdeifcfjkmfocaaP5
set_option maxRecDepth 100000
set_option maxHeartbeats 4000000
namespace Go.Am
open Go.RowKit
section
variable {I : Nat → Nat → Prop} {w : World} {β : Blocks} {lam : Owned}
theorem R.own_plain {sz : Nat} {m : Mode} {rows : List (List AV)} {v : Value} (h : R I w β lam (.list sz m rows) v) : R I w β lam (.list sz .plain rows) v := by
 cases h with
 | base h =>
  cases h with
  | listNil sz m a cap hm ho => exact .base (.listNil _ _ _ _ (fun h => by cases h) (fun _ h => by cases h))
  | list sz m rows b o cap g hcap hm ho hrow hcell hc => exact .base (.list _ _ rows b o cap g hcap (fun h => by cases h) (fun _ h => by cases h) hrow hcell hc)
 | own sz l' rows a cap h hl' => exact .base h
theorem R.nil_plain {sz sz' : Nat} {m : Mode} {v : Value} (h : R I w β lam (.list sz m []) v) : R I w β lam (.list sz' .plain []) v := by
 cases h with
 | base h => cases h <;> exact .base (.listNil _ _ _ _ (fun h => by cases h) (fun _ h => by cases h))
 | own sz l' rows a cap h hl' => exact .base (.listNil _ _ _ _ (fun h => by cases h) (fun _ h => by cases h))
end
def weak (x y : AV) : Prop := x = y ∨ (∃ sz m rows, x = .list sz m rows ∧ y = .list sz .plain rows) ∨ ∃ sz sz' m, x = .list sz m [] ∧ y = .list sz' .plain []
theorem weak.refl {x : AV} : weak x x := .inl rfl
theorem weak.list {sz : Nat} {m : Am.Mode} {rows : List (List AV)} : weak (.list sz m rows) (.list sz .plain rows) := .inr (.inl ⟨_, _, _, rfl, rfl⟩)
theorem weak.nil {sz sz' : Nat} {m : Am.Mode} : weak (.list sz m []) (.list sz' .plain []) := .inr (.inr ⟨_, _, _, rfl, rfl⟩)
theorem weak.R {x y : AV} (h : weak x y) {I : Nat → Nat → Prop} {w : World} {β : Blocks} {lam : Owned} {v : Value} (hx : R I w β lam x v) : R I w β lam y v := by
 rcases h with rfl | ⟨sz, m, rows, rfl, rfl⟩ | ⟨sz, sz', m, rfl, rfl⟩
 ·exact hx
 ·exact hx.own_plain
 ·exact hx.nil_plain
theorem St.impW_uarr {s : St} {l sz : Nat} {rows rows' : List (List AV)} (hk : lk s.sto l = some (.uarr sz rows)) (hl : rows'.length = rows.length)
  (h : ∀ (i : Nat) r r', rows[i]? = some r → rows'[i]? = some r' → r'.length = r.length ∧ ∀ (j : Nat) c c', r[j]? = some c → r'[j]? = some c' → weak c c') :
  St.impW s { s with sto := pt s.sto l (.uarr sz rows') } := by
 intro F a w I β lam hI
 show Inv F (St.look { s with sto := pt s.sto l (.uarr sz rows') }) (lk (pt s.sto l (.uarr sz rows'))) I β lam a w
 rw [look_sto]
 exact
  {hI with
   sto := fun k en hk' hu => by
    simp only [lk_pt] at hk'
    split at hk'
    ·simp only [Option.some.injEq] at hk'
     subst hk'
     cases hu
    ·exact hI.sto k en hk' hu
   usto := fun k sz' rows'' hk' => by
    simp only [lk_pt] at hk'
    split at hk'
    ·rename_i e
     subst e
     simp only [Option.some.injEq, Entry.uarr.injEq] at hk'
     obtain ⟨rfl, rfl⟩ := hk'
     obtain ⟨ad, cap, h1, h2, h3, h4⟩ := hI.usto _ _ _ hk
     have get : ∀ (i : Nat) r', rows'[i]? = some r' → ∃ r, rows[i]? = some r := fun i r' hi => by
      have : i < rows.length := by rw [← hl]; exact (List.getElem?_eq_some_iff.1 hi).1
      exact ⟨rows[i], by simp [this]⟩
     refine ⟨ad, cap, h1, by omega, fun i r' hi => ?_, fun hne => ?_⟩
     ·obtain ⟨r, hr⟩ := get i r' hi
      rw [(h i r r' hr hi).1]
      exact h3 i r hr
     ·obtain ⟨b, o, rfl, h5⟩ := h4 (by rintro rfl; exact hne (List.eq_nil_of_length_eq_zero (by simpa using hl)))
      refine ⟨b, o, rfl, fun i r' j c' hi hj => ?_⟩
      obtain ⟨r, hr⟩ := get i r' hi
      obtain ⟨e1, e2⟩ := h i r r' hr hi
      have hjl : j < r.length := by rw [← e1]; exact (List.getElem?_eq_some_iff.1 hj).1
      have hc : r[j]? = some r[j] := by simp [hjl]
      obtain ⟨v, g1, g2, g3⟩ := h5 i r j _ hr hc
      exact ⟨v, g1, g2, (e2 j _ c' hc hj).R g3⟩
    ·exact hI.usto k sz' rows'' hk'
   bdom := fun k' b hb => by
    obtain ⟨en, h1, h2⟩ := hI.bdom k' b hb
    by_cases e : l = k'
    ·subst e; rw [hk] at h1; cases h1; cases h2
    ·exact ⟨en, by simp only [lk_pt, if_neg e]; exact h1, h2⟩ }
theorem St.imp_uarr {s : St} {l sz : Nat} {rows rows' : List (List AV)} (hk : lk s.sto l = some (.uarr sz rows)) (hl : rows'.length = rows.length)
  (h : ∀ (i : Nat) r r', rows[i]? = some r → rows'[i]? = some r' → r'.length = r.length ∧ ∀ (j : Nat) c c', r[j]? = some c → r'[j]? = some c' → weak c c') :
  St.imp s { s with sto := pt s.sto l (.uarr sz rows') } := (St.impW_uarr hk hl h).imp
theorem St.impW_cell_weak {s : St} {k j : Nat} {cells : List AV} {x y : AV} (hk : lk s.sto k = some (.var cells)) (hj : cells[j]? = some x) (h : weak x y) :
  St.impW s { s with sto := pt s.sto k (.var (cells.set j y)) } :=
 St.impW_cell hk hj fun _ _ _ _ _ _ _ _ hx => h.R hx
theorem St.imp_cell_weak {s : St} {k j : Nat} {cells : List AV} {x y : AV} (hk : lk s.sto k = some (.var cells)) (hj : cells[j]? = some x) (h : weak x y) :
  St.imp s { s with sto := pt s.sto k (.var (cells.set j y)) } := (St.impW_cell_weak hk hj h).imp
theorem St.impW_drop {s : St} {l sz : Nat} {rows : List (List AV)} (hk : lk s.sto l = some (.uarr sz rows)) : St.impW s { s with sto := del [l] s.sto } := by
 intro F a w I β lam hI
 have hd : ∀ k e, lk (del [l] s.sto) k = some e → k ≠ l ∧ lk s.sto k = some e := fun k e h => by
  rw [lk_del] at h
  split at h
  ·cases h
  ·rename_i hn; exact ⟨fun e => hn (by simp [e]), h⟩
 have hd' : ∀ k e, k ≠ l → lk s.sto k = some e → lk (del [l] s.sto) k = some e := fun k e hne h => by rw [lk_del, if_neg (by simpa using hne)]; exact h
 exact
  {hI with
   sto := fun k en h hu => hI.sto k en (hd k en h).2 hu
   usto := fun k sz' rows' h => hI.usto k sz' rows' (hd k _ h).2
   bdom := fun k b hb => by
    obtain ⟨en, h1, h2⟩ := hI.bdom k b hb
    exact ⟨en, hd' k en (fun e => by subst e; rw [hk] at h1; cases h1; cases h2) h1, h2⟩ }
end Go.Am
