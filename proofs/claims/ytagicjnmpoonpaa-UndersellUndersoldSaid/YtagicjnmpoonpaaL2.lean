import Derived.Test.YtagicjnmpoonpaaT12
import Derived.Test.YtagicjnmpoonpaaL
namespace Go.Proofs.Ytagicjnmpoonpaa
open Go Go.Am

theorem undersellUndersold_contract (xs : List AV) (h : TyAll [tyBun, .slice tyBun, .slice tyBun] xs) : SoundCall Try.prog F_law38_UndersellUndersold xs (bv true) := by
  obtain ⟨y, z, w, rfl, h2, h3, h4⟩ := TyAll_three h
  obtain ⟨s, rfl, hs⟩ := bun_of h2
  obtain ⟨b, rfl, hb, n1⟩ := buns_of h3
  obtain ⟨q, rfl, hq, n2⟩ := buns_of h4
  exact law_undersold hs hb hq n1 n2 rfl rfl
theorem undersellKeeps_contract (xs : List AV) (h : TyAll [tyInt, tyBun, .slice tyBun, .slice tyBun] xs) : SoundCall Try.prog F_law38_UndersellKeeps xs (bv true) := by
  obtain ⟨x, y, z, w, rfl, h1, h2, h3, h4⟩ := TyAll_four h
  obtain ⟨p, rfl⟩ := int_of h1
  obtain ⟨s, rfl, hs⟩ := bun_of h2
  obtain ⟨b, rfl, hb, n1⟩ := buns_of h3
  obtain ⟨q, rfl, hq, n2⟩ := buns_of h4
  exact law_keeps hs hb hq n1 n2 rfl rfl
end Go.Proofs.Ytagicjnmpoonpaa
