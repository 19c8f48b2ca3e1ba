import Derived.Test.YtljkjogggfdgiaaT8
import Derived.Test.YtljkjogggfdgiaaT9
import Derived.Test.YtljkjogggfdgiaaL
namespace Go.Proofs.Ytljkjogggfdgiaa
open Go Go.Am

theorem tallyOrder_contract (xs : List AV) (h : TyAll [.slice tyBun, .slice tyBun] xs) : SoundCall Try.prog F_law35_TallyOrder xs (bv true) := by
  obtain ⟨x, y, rfl, h1, h2⟩ := TyAll_two h
  obtain ⟨a, rfl, ha, hna⟩ := buns_of h1
  obtain ⟨b, rfl, hb, hnb⟩ := buns_of h2
  exact law_order ha hb hna hnb
theorem tallyKeeps_contract (xs : List AV) (h : TyAll [.slice tyBun, .slice tyBun] xs) : SoundCall Try.prog F_law35_TallyKeeps xs (bv true) := by
  obtain ⟨x, y, rfl, h1, h2⟩ := TyAll_two h
  obtain ⟨a, rfl, ha, hna⟩ := buns_of h1
  obtain ⟨b, rfl, hb, hnb⟩ := buns_of h2
  exact law_keeps ha hb hna hnb
end Go.Proofs.Ytljkjogggfdgiaa
