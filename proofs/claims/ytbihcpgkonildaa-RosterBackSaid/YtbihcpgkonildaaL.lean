import Derived.Test.YtbihcpgkonildaaT10
import Derived.Test.YtbihcpgkonildaaAmD
namespace Go.Proofs.Ytbihcpgkonildaa
open Go Go.Am

abbrev tyInt : Ty := .int .i64
abbrev tyBid : Ty := .st [.str, .int .i64, .int .i64, .int .i64]
theorem bid_of {r : List AV} (h : TyC tyBid r) : ∃ b : Bid, r = brow b ∧ True := by
  obtain ⟨a1, b1, rfl, ⟨s, rfl, _⟩, a2, b2, rfl, ⟨n2, rfl, _⟩, a3, b3, rfl, ⟨n3, rfl, _⟩, a4, b4, rfl, ⟨n4, rfl, _⟩, rfl⟩ := h
  exact ⟨⟨s, n2, n3, n4⟩, rfl, trivial⟩
theorem bids_of {x : AV} (h : AVTy (.slice tyBid) x) : ∃ l : List Bid, x = .list 4 .plain (brows l) ∧ l.length < 4611686018427387904 := by
  obtain ⟨rows, hx, hl, h⟩ := h
  simp only [List.cons.injEq, and_true] at hx
  subst hx
  obtain ⟨l, rfl, _⟩ := rows_map brow (fun _ => True) (fun r hr => bid_of hr) h
  refine ⟨l, rfl, ?_⟩
  simp [reachBytes] at hl
  omega
theorem strs_of {x : AV} (h : AVTy (.slice .str) x) : ∃ l : List ByteArray, x = .list 1 .plain (srows l) := by
  obtain ⟨rows, hx, hl, h⟩ := h
  simp only [List.cons.injEq, and_true] at hx
  subst hx
  obtain ⟨l, rfl, _⟩ := rows_map (fun s : ByteArray => [sv s]) (fun _ => True) (fun r hr => by
    obtain ⟨s, rfl, _⟩ := hr
    exact ⟨s, rfl, trivial⟩) h
  exact ⟨l, rfl⟩
theorem int_of {x : AV} (h : AVTy tyInt x) : ∃ n : Int, x = iv n := by
  obtain ⟨n, h, _⟩ := h
  simp only [List.cons.injEq, and_true] at h
  exact ⟨n, h⟩
theorem str_of {x : AV} (h : AVTy .str x) : ∃ s : ByteArray, x = sv s := by
  obtain ⟨s, h, _⟩ := h
  simp only [List.cons.injEq, and_true] at h
  exact ⟨s, h⟩
theorem rosterSets_contract (xs : List AV) (h : TyAll [tyInt, tyInt] xs) : SoundCall Try.prog F_law09_RosterSets xs (bv true) := by
  obtain ⟨x, y, rfl, h1, h2⟩ := TyAll_two h
  obtain ⟨n, rfl⟩ := int_of h1
  obtain ⟨k, rfl⟩ := int_of h2
  exact law_sets n k
theorem rosterChecks_contract (xs : List AV) (h : TyAll [.slice tyBid] xs) : SoundCall Try.prog F_law09_RosterChecks xs (bv true) := by
  obtain ⟨x, rfl, h1⟩ := TyAll_one h
  obtain ⟨l, rfl, hn⟩ := bids_of h1
  exact law_checks hn
theorem rosterFinds_contract (xs : List AV) (h : TyAll [.slice tyBid, .str, tyInt] xs) : SoundCall Try.prog F_law09_RosterFinds xs (bv true) := by
  obtain ⟨x, y, z, rfl, h1, h2, h3⟩ := TyAll_three h
  obtain ⟨l, rfl, hn⟩ := bids_of h1
  obtain ⟨s, rfl⟩ := str_of h2
  obtain ⟨c, rfl⟩ := int_of h3
  exact law_finds hn
theorem rosterNames_contract (xs : List AV) (h : TyAll [.slice tyBid, tyInt, .slice .str] xs) : SoundCall Try.prog F_law09_RosterNames xs (bv true) := by
  obtain ⟨x, y, z, rfl, h1, h2, h3⟩ := TyAll_three h
  obtain ⟨l, rfl, hn⟩ := bids_of h1
  obtain ⟨c, rfl⟩ := int_of h2
  obtain ⟨s, rfl⟩ := strs_of h3
  exact law_names hn
theorem rosterBack_contract (xs : List AV) (h : TyAll [.slice tyBid, tyInt] xs) : SoundCall Try.prog F_law09_RosterBack xs (bv true) := by
  obtain ⟨x, y, rfl, h1, h2⟩ := TyAll_two h
  obtain ⟨l, rfl, hn⟩ := bids_of h1
  obtain ⟨c, rfl⟩ := int_of h2
  exact law_back hn
end Go.Proofs.Ytbihcpgkonildaa
