import Derived.Test.YtagicjnmpoonpaaT15
import Derived.Test.YtagicjnmpoonpaaL
namespace Go.Proofs.Ytagicjnmpoonpaa
open Go Go.Am

theorem undersellBetween_contract (xs : List AV) (h : TyAll [tyInt, tyBun, .slice tyBun, .slice tyBun] xs) : SoundCall Try.prog F_law38_UndersellBetween xs (bv true) := by
  obtain ⟨x, y, z, w, rfl, h1, h2, h3, h4⟩ := TyAll_four h
  obtain ⟨p, rfl⟩ := int_of h1
  obtain ⟨s, rfl, hs⟩ := bun_of h2
  obtain ⟨b, rfl, hb, n1⟩ := buns_of h3
  obtain ⟨q, rfl, hq, n2⟩ := buns_of h4
  exact law_between hs hb hq n1 n2
end Go.Proofs.Ytagicjnmpoonpaa
