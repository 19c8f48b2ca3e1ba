import Derived.Test.YtagicjnmpoonpaaT5
namespace Go.Proofs.Ytagicjnmpoonpaa
open Go Go.Am

theorem rowsRf_int {l : List (List Int)} : rowsRf (rowsOf l) = true := by simp [rowsRf, rf]
theorem rowsSt_int {l : List (List Int)} : rowsSt (rowsOf l) = rowsOf l := by simp [rowsSt, strip_iv]
theorem rowsDg_int {k : Nat} {l : List (List Int)} : rowsDg k (rowsOf l) = rowsOf l := by
  simp [rowsDg]

theorem cloneI {s : St} {m : Am.Mode} {b : List (List Int)} {K : AV → St → Prop} (B : Nat) (hn : b.length ≤ 1099511627776) (hf : lk s.sto (B + 7) = none)
    (he : (s.env.map fun p => (p.1, dg (B + 7) p.2)) = s.env) (hs : (s.sto.map fun p => (p.1, dgE (B + 7) p.2)) = s.sto) (ho : (s.out.map fun f => f.map fun p => (p.1, dg (B + 7) p.2)) = s.out) (hm : stm m = m)
    (h1 : K (.us (B + 7) 6 0 b.length) ⟨s.env, pt s.sto (B + 7) (.uarr 6 (rowsOf b)), s.out, s.base⟩) (h2 : b = [] → K (.list 0 .full []) s) :
    CallI Try.prog F_slices_Cloneasl_api_Bundle_api_Bundle_ [.list 6 m (rowsOf b)] s K := by
  simp only [dgE] at hs
  refine soundI' B t_slices_Cloneasl_api_Bundle_api_Bundle_ (by simp) ?_
  simp [c_slices_Cloneasl_api_Bundle_api_Bundle_, r_slices_Cloneasl_api_Bundle_api_Bundle_, he, hs, ho, hf, rowsDg_int]
  refine ⟨fun h => ⟨h2 h, by omega, by omega, h1⟩, fun _ => ⟨by omega, by omega, h1⟩⟩
end Go.Proofs.Ytagicjnmpoonpaa
