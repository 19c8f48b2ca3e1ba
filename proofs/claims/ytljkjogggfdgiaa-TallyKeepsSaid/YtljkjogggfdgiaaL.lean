import Derived.Test.YtljkjogggfdgiaaT6
import Derived.Test.YtljkjogggfdgiaaAm28
namespace Go.Proofs.Ytljkjogggfdgiaa
open Go Go.Am

abbrev tyBun : Ty := .arr 6 (.int .i64)
theorem bun_of {x : AV} (h : AVTy tyBun x) : ∃ a : List Int, x = bun a ∧ a.length = 6 := by
  obtain ⟨cs, rfl, h⟩ := h
  obtain ⟨a, rfl, h2, _⟩ := TyC_ints h
  exact ⟨a, rfl, h2⟩
theorem buns_of {x : AV} (h : AVTy (.slice tyBun) x) : ∃ l : List (List Int), x = .list 6 .plain (rowsOf l) ∧ (∀ b ∈ l, b.length = 6) ∧ l.length < 4611686018427387904 := by
  obtain ⟨rows, hx, hl, h⟩ := h
  simp only [List.cons.injEq, and_true] at hx
  subst hx
  obtain ⟨l, rfl, h2⟩ := rows_map (fun a : List Int => a.map iv) (fun a => a.length = 6) (fun r hr => by
    obtain ⟨a, rfl, h2, _⟩ := TyC_ints hr
    exact ⟨a, rfl, h2⟩) h
  refine ⟨l, rfl, h2, ?_⟩
  simp [reachBytes] at hl
  omega
theorem tallySums_contract (xs : List AV) (h : TyAll [tyBun, .slice tyBun] xs) : SoundCall Try.prog F_law35_TallySums xs (bv true) := by
  obtain ⟨x, y, rfl, h1, h2⟩ := TyAll_two h
  obtain ⟨a, rfl, ha⟩ := bun_of h1
  obtain ⟨l, rfl, hl, hn⟩ := buns_of h2
  exact law_sums ha hl hn
theorem tallyChanges_contract (xs : List AV) (h : TyAll [.slice tyBun, .slice tyBun] xs) : SoundCall Try.prog F_law35_TallyChanges xs (bv true) := by
  obtain ⟨x, y, rfl, h1, h2⟩ := TyAll_two h
  obtain ⟨a, rfl, ha, _⟩ := buns_of h1
  obtain ⟨b, rfl, hb, _⟩ := buns_of h2
  exact law_changes ha hb
theorem tallyBalances_contract (xs : List AV) (h : TyAll [tyBun, .slice tyBun] xs) : SoundCall Try.prog F_law35_TallyBalances xs (bv true) := by
  obtain ⟨x, y, rfl, h1, h2⟩ := TyAll_two h
  obtain ⟨a, rfl, ha⟩ := bun_of h1
  obtain ⟨l, rfl, hl, hn⟩ := buns_of h2
  exact law_balances ha hl hn
end Go.Proofs.Ytljkjogggfdgiaa
