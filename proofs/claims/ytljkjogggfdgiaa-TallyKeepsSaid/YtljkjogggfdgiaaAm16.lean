/-
  The abstract machine, part 16: one operation after the other; what is dropped and frozen.
-/
import Derived.Test.YtljkjogggfdgiaaAm32
namespace Go.Am
open Go.RowKit

/-- What an operation of the first kind yields is one value. -/
def Yields (P : Program) (d : Nat) (op : AOp) (xs : List AV) (σ : Nat → Option Entry) (x : AV) (en : Option Entry) : Prop :=
  evalE P d op xs σ fun x' en' => x' = x ∧ en' = en

theorem optV_post {r : Option Value} {k : AV → Option Entry → Prop} (h : optV r k) : ∃ x, k x none ∧ optV r fun x' en' => x' = x ∧ en' = none := by
  cases r with
  | none => exact h.elim
  | some v => exact ⟨_, h, rfl, rfl⟩

theorem optA_post {r : Option AV} {k : AV → Option Entry → Prop} (h : optA r k) : ∃ x, k x none ∧ optA r fun x' en' => x' = x ∧ en' = none := by
  cases r with
  | none => exact h.elim
  | some v => exact ⟨_, h, rfl, rfl⟩

theorem bnds_post {n : Nat} {lo hi mx : Bool} {xs : List AV} {kk : Nat → Nat → Bool → Prop} (h : bnds n lo hi mx xs kk) :
    ∃ l h' f, kk l h' f ∧ bnds n lo hi mx xs fun l1 h1 f1 => l1 = l ∧ h1 = h' ∧ f1 = f := by
  unfold bnds at h ⊢
  split at h
  · exact ⟨_, _, _, h, rfl, rfl, rfl⟩
  · exact ⟨_, _, _, h.2.2, h.1, h.2.1, rfl, rfl, rfl⟩
  · exact ⟨_, _, _, h.2.2, h.1, h.2.1, rfl, rfl, rfl⟩
  · exact ⟨_, _, _, h.2.2.2, h.1, h.2.1, h.2.2.1, rfl, rfl, rfl⟩
  · exact ⟨_, _, _, h.2.2.2, h.1, h.2.1, h.2.2.1, rfl, rfl, rfl⟩
  · exact ⟨_, _, _, h.2.2.2.2, h.1, h.2.1, h.2.2.1, h.2.2.2.1, rfl, rfl, rfl⟩
  · exact h.elim

theorem bnds_mono {n : Nat} {lo hi mx : Bool} {xs : List AV} {kk kk' : Nat → Nat → Bool → Prop} (hm : ∀ l h f, kk l h f → kk' l h f) (h : bnds n lo hi mx xs kk) : bnds n lo hi mx xs kk' := by
  unfold bnds at h ⊢
  split at h
  · exact hm _ _ _ h
  · exact ⟨h.1, h.2.1, hm _ _ _ h.2.2⟩
  · exact ⟨h.1, h.2.1, hm _ _ _ h.2.2⟩
  · exact ⟨h.1, h.2.1, h.2.2.1, hm _ _ _ h.2.2.2⟩
  · exact ⟨h.1, h.2.1, h.2.2.1, hm _ _ _ h.2.2.2⟩
  · exact ⟨h.1, h.2.1, h.2.2.1, h.2.2.2.1, hm _ _ _ h.2.2.2.2⟩
  · exact h.elim

theorem eCall_post {P : Program} {f : FuncId} {σ : Nat → Option Entry} {xs : List AV} {k : AV → Option Entry → Prop} (h : eCall P f σ xs k) : ∃ x, k x none ∧ eCall P f σ xs fun x' en' => x' = x ∧ en' = none := by
  unfold eCall at h ⊢
  split at h
  · rename_i args heq
    obtain ⟨r, h1, h2, h3⟩ := h
    exact ⟨r, h3, ⟨r, h1, h2, rfl, rfl⟩⟩
  · exact h.elim

theorem evalE_post {P : Program} {d : Nat} {op : AOp} {xs : List AV} {σ : Nat → Option Entry} {k : AV → Option Entry → Prop} (h : evalE P d op xs σ k) :
    ∃ x en, k x en ∧ (en ≠ none → σ d = none ∧ isUO en = false) ∧ Yields P d op xs σ x en := by
  unfold Yields at *
  cases op <;> simp only [evalE] at h ⊢
  case mov =>
    split at h
    · exact ⟨_, none, h, fun h => absurd rfl h, by simp_all⟩
    · exact h.elim
  case pick =>
    split at h
    · rename_i t a b
      cases t with
      | true => exact ⟨_, none, h.1 rfl, fun h => absurd rfl h, by simp⟩
      | false => exact ⟨_, none, h.2 rfl, fun h => absurd rfl h, by simp⟩
    · exact h.elim
  case alloc cells => exact ⟨_, _, h.2, fun _ => ⟨h.1, rfl⟩, by simp_all⟩
  case box =>
    split at h
    · split at h
      · rename_i cs hcs
        exact ⟨_, _, h.2, fun _ => ⟨h.1, rfl⟩, by simp_all⟩
      · exact h.elim
    · exact h.elim
  case build zero places =>
    split at h
    · rename_i cs hcs
      exact ⟨_, none, h, fun h => absurd rfl h, by simp_all⟩
    · exact h.elim
  case mkslice sz n zero places =>
    split at h
    · rename_i cs hcs
      exact ⟨_, none, h.2.2, fun h => absurd rfl h, by simp_all⟩
    · exact h.elim
  case load n =>
    unfold eLoad at h ⊢
    split at h
    · split at h
      · rename_i j off cells hs
        obtain ⟨x, h1, h2⟩ := optA_post h
        exact ⟨_, none, h1, fun h => absurd rfl h, by simp_all⟩
      · exact h.elim
    · split at h
      · rename_i j sz i off sz' rows hs
        obtain ⟨h0, h⟩ := h
        split at h
        · rename_i r hr
          obtain ⟨x, h1, h2⟩ := optA_post h
          exact ⟨_, none, h1, fun h => absurd rfl h, by simp_all⟩
        · exact h.elim
      · exact h.elim
    · obtain ⟨x, h1, h2⟩ := optA_post h
      exact ⟨_, none, h1, fun h => absurd rfl h, by simp_all⟩
    · split at h
      · rename_i l sz i off sz' rows hs
        obtain ⟨h0, h⟩ := h
        split at h
        · rename_i r hr
          obtain ⟨x, h1, h2⟩ := optA_post h
          exact ⟨_, none, h1, fun h => absurd rfl h, by simp_all⟩
        · exact h.elim
      · exact h.elim
    · exact h.elim
  case nilChk =>
    split at h
    · exact ⟨_, none, h, fun h => absurd rfl h, by simp_all⟩
    · exact ⟨_, none, h, fun h => absurd rfl h, by simp_all⟩
    · exact ⟨_, none, h, fun h => absurd rfl h, by simp_all⟩
    · exact ⟨_, none, h, fun h => absurd rfl h, by simp_all⟩
    · exact ⟨_, none, h, fun h => absurd rfl h, by simp_all⟩
    · exact h.elim
  case bin op t x y =>
    unfold eBin at h ⊢
    split at h
    · split at h
      · obtain ⟨x, h1, h2⟩ := optV_post h
        exact ⟨_, none, h1, fun h => absurd rfl h, by simp_all⟩
      · exact h.elim
    · exact h.elim
  case un op =>
    split at h
    · obtain ⟨x, h1, h2⟩ := optV_post h
      exact ⟨_, none, h1, fun h => absurd rfl h, by simp_all⟩
    · exact h.elim
  case conv s t =>
    split at h
    · obtain ⟨x, h1, h2⟩ := optV_post h
      exact ⟨_, none, h1, fun h => absurd rfl h, by simp_all⟩
    · exact h.elim
  case idxV t =>
    split at h
    · split at h
      · obtain ⟨x, h1, h2⟩ := optV_post h
        exact ⟨_, none, h1, fun h => absurd rfl h, by simp_all⟩
      · exact h.elim
    · exact h.elim
  case sliceV t lo hi mx =>
    split at h
    · obtain ⟨l, h', f, ⟨hm, h1⟩, h2⟩ := bnds_post h
      refine ⟨_, none, h1, fun h => absurd rfl h, bnds_mono ?_ h2⟩
      rintro _ _ _ ⟨rfl, rfl, rfl⟩
      simp_all
    · exact h.elim
  case mm b ts t =>
    split at h
    · obtain ⟨x, h1, h2⟩ := optV_post h
      exact ⟨_, none, h1, fun h => absurd rfl h, by simp_all⟩
    · exact h.elim
  case field off n =>
    split at h
    · obtain ⟨x, h1, h2⟩ := optA_post h
      exact ⟨_, none, h1, fun h => absurd rfl h, by simp_all⟩
    · exact h.elim
  case faddr off =>
    split at h
    · exact ⟨_, none, h, fun h => absurd rfl h, by simp_all⟩
    · exact ⟨_, none, h, fun h => absurd rfl h, by simp_all⟩
    · exact ⟨_, none, h, fun h => absurd rfl h, by simp_all⟩
    · exact ⟨_, none, h, fun h => absurd rfl h, by simp_all⟩
    · exact h.elim
  case iaddrA len esz =>
    unfold eIaddrA at h ⊢
    split at h
    · exact ⟨_, none, h.2.2, fun h => absurd rfl h, by simp_all⟩
    · exact ⟨_, none, h.2.2, fun h => absurd rfl h, by simp_all⟩
    · exact ⟨_, none, h.2.2, fun h => absurd rfl h, by simp_all⟩
    · exact ⟨_, none, h.2.2, fun h => absurd rfl h, by simp_all⟩
    · exact h.elim
  case iaddrS sz =>
    unfold eIaddrS at h ⊢
    split at h
    · obtain ⟨h1, h2, h3, h⟩ := h
      split at h
      · exact ⟨_, none, h, fun h => absurd rfl h, by simp_all⟩
      · exact h.elim
    · exact ⟨_, none, h.2.2.2, fun h => absurd rfl h, by simp_all⟩
    · exact ⟨_, none, h.2.2.2, fun h => absurd rfl h, by simp_all⟩
    · exact h.elim
  case idxA len esz n =>
    split at h
    · obtain ⟨h1, h2, h⟩ := h
      obtain ⟨x, h3, h4⟩ := optA_post h
      exact ⟨_, none, h3, fun h => absurd rfl h, by simp_all⟩
    · exact h.elim
  case slice sz lo hi mx =>
    unfold eSlice at h ⊢
    split at h
    · obtain ⟨h0, h⟩ := h
      obtain ⟨l, h', f, h1, h2⟩ := bnds_post h
      refine ⟨_, none, h1, fun h => absurd rfl h, h0, bnds_mono ?_ h2⟩
      rintro _ _ _ ⟨rfl, rfl, rfl⟩
      simp_all
    · obtain ⟨h0, h⟩ := h
      obtain ⟨l, h', f, h1, h2⟩ := bnds_post h
      refine ⟨_, none, h1, fun h => absurd rfl h, h0, bnds_mono ?_ h2⟩
      rintro _ _ _ ⟨rfl, rfl, rfl⟩
      simp_all
    · obtain ⟨h0, h⟩ := h
      obtain ⟨l, h', f, h1, h2⟩ := bnds_post h
      refine ⟨_, none, h1, fun h => absurd rfl h, h0, bnds_mono ?_ h2⟩
      rintro _ _ _ ⟨rfl, rfl, rfl⟩
      simp_all
    · exact h.elim
  case mk sz bytes zero =>
    unfold eMk at h ⊢
    split at h
    · obtain ⟨h1, h2, h3, h4, h5, h6, h7, h⟩ := h
      exact ⟨_, _, h, fun _ => ⟨h7, rfl⟩, by simp_all⟩
    · exact h.elim
  case len str =>
    unfold eLen at h ⊢
    split at h
    rotate_left
    · exact h.elim
    unfold eLen1 at h ⊢
    split at h
    · exact ⟨_, none, h.2, fun h => absurd rfl h, by simp_all⟩
    · exact ⟨_, none, h.2, fun h => absurd rfl h, by simp_all⟩
    · exact ⟨_, none, h.2, fun h => absurd rfl h, by simp_all⟩
    · exact ⟨_, none, h.2, fun h => absurd rfl h, by simp_all⟩
    · exact h.elim
  case extract i =>
    split at h
    · obtain ⟨x, h1, h2⟩ := optA_post h
      exact ⟨_, none, h1, fun h => absurd rfl h, by simp_all⟩
    · exact h.elim
  case mkfn f => exact ⟨_, none, h, fun h => absurd rfl h, by simp_all⟩
  case call f =>
    obtain ⟨x, h1, h2⟩ := eCall_post h
    exact ⟨_, none, h1, fun h => absurd rfl h, by simp_all⟩
  case callv =>
    split at h
    · obtain ⟨h0, h⟩ := h
      obtain ⟨x, h1, h2⟩ := eCall_post h
      exact ⟨_, none, h1, fun h => absurd rfl h, by simp_all⟩
    · exact h.elim

end Go.Am
