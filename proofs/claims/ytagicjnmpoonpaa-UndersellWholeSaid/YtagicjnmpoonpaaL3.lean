import Derived.Test.YtagicjnmpoonpaaT13
import Derived.Test.YtagicjnmpoonpaaL
namespace Go.Proofs.Ytagicjnmpoonpaa
open Go Go.Am

theorem undersellWhole_contract (xs : List AV) (h : TyAll [tyBun, .slice tyBun, tyInt, tyBun] xs) : SoundCall Try.prog F_law38_UndersellWhole xs (bv true) := by
  obtain ⟨x, y, z, w, rfl, h1, h2, h3, h4⟩ := TyAll_four h
  obtain ⟨s, rfl, hs⟩ := bun_of h1
  obtain ⟨b, rfl, hb, n1⟩ := buns_of h2
  obtain ⟨i, rfl⟩ := int_of h3
  obtain ⟨w, rfl, hw⟩ := bun_of h4
  exact law_whole hs hb hw n1
end Go.Proofs.Ytagicjnmpoonpaa
