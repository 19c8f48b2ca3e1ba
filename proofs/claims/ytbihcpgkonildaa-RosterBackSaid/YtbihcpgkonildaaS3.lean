import Derived.Test.YtbihcpgkonildaaS2
import Derived.Test.YtbihcpgkonildaaAmD
namespace Go.Proofs.Ytbihcpgkonildaa
open Go Go.Am Go.RowKit

/-- The rows of a list of integers. -/
abbrev irows (l : List Int) : List (List AV) := l.map fun x => [iv x]

theorem R0_row {I : Nat → Nat → Prop} {W : World} {b : Nat} {v : Value} {l : List Int} (h : W.ownsRow b 3 1 v l.length (l.map (Value.int .i64))) :
    R0 (fun c _ => (I c 0 ∨ b ≤ c) ∧ c < W.heap.size) W (.list 1 .plain (irows l)) v := by
  rcases h.2 with ⟨rfl, h0⟩ | ⟨g, cap, cur, rfl, hb, hg, hcap, _, hsz, htk⟩
  · have : l = [] := List.eq_nil_of_length_eq_zero h0
    subst this
    exact .listNil 1 .plain none 0 (by simp) (by simp)
  · have hlt : g < W.heap.size := (Array.getElem?_eq_some_iff.1 hg).1
    have e : (Value.slice (some ⟨g, 0, none⟩) l.length cap) = .slice (some ⟨g, 0, none⟩) (irows l).length cap := by simp
    rw [e]
    refine .list 1 .plain (irows l) g 0 cap (fun i _ => (l[i]?.map (Value.int .i64)).getD undef) (by simp; exact hcap) (by simp) (by simp) ?_ ?_ ?_
    · intro i r hr
      simp only [List.getElem?_map, Option.map_eq_some_iff] at hr
      obtain ⟨x, _, rfl⟩ := hr
      rfl
    · intro i r j c hr hc
      simp only [List.getElem?_map, Option.map_eq_some_iff] at hr
      obtain ⟨x, hx, rfl⟩ := hr
      obtain ⟨hj, rfl⟩ : j = 0 ∧ c = iv x := by
        rcases j with _ | j
        · exact ⟨rfl, by simpa using hc.symm⟩
        · simp at hc
      subst hj
      have hi : i < l.length := (List.getElem?_eq_some_iff.1 hx).1
      refine ⟨⟨.inr hb, hlt⟩, ?_, ?_⟩
      · have e1 : (cur.toList.take (l.length * 1))[i]? = some (Value.int .i64 x) := by rw [htk]; simp [hx]
        rw [List.getElem?_take, if_pos (by omega)] at e1
        simp only [World.cell?, hg, Nat.zero_add, Nat.mul_one, Nat.add_zero, hx, Option.map_some, Option.getD_some]
        simpa using e1
      · simp only [hx, Option.map_some, Option.getD_some]; rfl
    · intro i r j c hr hc
      simp only [List.getElem?_map, Option.map_eq_some_iff] at hr
      obtain ⟨x, hx, rfl⟩ := hr
      rcases j with _ | j
      · simp at hc
        subst hc
        simp only [hx, Option.map_some, Option.getD_some]
        exact .val _
      · simp at hc

theorem sets_sound (m k : Int) : SoundCall Try.prog F_law09_sets [iv m, iv k] (.tuple [.list 1 .plain (irows (upTo (min (setsN m) k.toNat))), bv true]) := by
  intro I vs w hI hs hR
  have e0 := (hR 0 _ rfl).val_eq
  have e1 := (hR 1 _ rfl).val_eq
  have hvs : vs = #[.int .i64 m, .int .i64 k] := by
    apply Array.ext
    · simpa using hs
    · intro i h1 h2
      have : i = 0 ∨ i = 1 := by simp at h2; omega
      rcases this with rfl | rfl
      · simpa [h1] using e0
      · simpa [h1] using e1
  subst hvs
  refine (callsIn_wide (n := 3)).1 ((sets2_in _ 3 trivial trivial trivial rfl (Nat.le_refl _) m k w).mono ?_)
  rintro e W ⟨v, rfl, hrow, hB⟩
  refine ⟨_, rfl, hB, ?_⟩
  refine .tuple _ _ (by simp) ?_
  intro i c hc
  rcases i with _ | _ | i
  · simp at hc
    subst hc
    have hrow' : W.ownsRow w.heap.size 3 1 v (upTo (min (setsN m) k.toNat)).length ((upTo (min (setsN m) k.toNat)).map (Value.int .i64)) := by rw [upTo_len]; exact hrow
    have := R0_row (I := fun _ _ => False) hrow'
    exact this.mono (fun b o h => ⟨.inr (h.1.resolve_left id), h.2⟩) (fun b o v _ h => h)
  · simp at hc
    subst hc
    exact .val _
  · simp at hc
end Go.Proofs.Ytbihcpgkonildaa
