import Derived.Test.YtagicjnmpoonpaaT10
import Derived.Test.YtagicjnmpoonpaaAm28
namespace Go.Proofs.Ytagicjnmpoonpaa
open Go Go.Am

abbrev tyInt : Ty := .int .i64
abbrev tyBun : Ty := .arr 6 (.int .i64)
theorem bun_of {x : AV} (h : AVTy tyBun x) : ∃ a : List Int, x = bun a ∧ a.length = 6 := by
  obtain ⟨cs, rfl, h⟩ := h
  obtain ⟨a, rfl, h2, _⟩ := TyC_ints h
  exact ⟨a, rfl, h2⟩
theorem buns_of {x : AV} (h : AVTy (.slice tyBun) x) : ∃ l : List (List Int), x = .list 6 .plain (rowsOf l) ∧ (∀ b ∈ l, b.length = 6) ∧ l.length < 4611686018427387904 := by
  obtain ⟨rows, hx, hl, h⟩ := h
  simp only [List.cons.injEq, and_true] at hx
  subst hx
  obtain ⟨l, rfl, h2⟩ := rows_map (fun a : List Int => a.map iv) (fun a => a.length = 6) (fun r hr => by
    obtain ⟨a, rfl, h2, _⟩ := TyC_ints hr
    exact ⟨a, rfl, h2⟩) h
  refine ⟨l, rfl, h2, ?_⟩
  simp [reachBytes] at hl
  omega
theorem int_of {x : AV} (h : AVTy tyInt x) : ∃ n : Int, x = iv n := by
  obtain ⟨n, h, _⟩ := h
  simp only [List.cons.injEq, and_true] at h
  exact ⟨n, h⟩
theorem undersellApplies_contract (xs : List AV) (h : TyAll [tyInt, tyBun, .slice tyBun, .slice tyBun] xs) : SoundCall Try.prog F_law38_UndersellApplies xs (bv true) := by
  obtain ⟨x, y, z, w, rfl, h1, h2, h3, h4⟩ := TyAll_four h
  obtain ⟨p, rfl⟩ := int_of h1
  obtain ⟨s, rfl, hs⟩ := bun_of h2
  obtain ⟨b, rfl, hb, n1⟩ := buns_of h3
  obtain ⟨q, rfl, hq, n2⟩ := buns_of h4
  exact law_applies hs hb hq n1 n2 rfl rfl
end Go.Proofs.Ytagicjnmpoonpaa
