/-
  The abstract machine, part 8: slice expressions, lengths, calls; all the operations that change nothing that was there.
-/
import Derived.Test.YtljkjogggfdgiaaAm7
namespace Go.Am
open Go.RowKit

section
variable {P : Program} {I : Nat → Nat → Prop} {w : World} {β : Blocks} {lam : Owned} {o : Oper} {a : Act} {K : Act → World → Prop}
  {Q : Exit → Act → World → Prop} {d : Nat} {k : AV → Option Entry → Prop}

theorem run_bound {ik : IntKind} {i : Int} {y : Nat} {code : BoundsCode} (h0 : 0 ≤ i) (h1 : i ≤ y) :
    (Instr.sliceBound (.int ik i) y code).run P w = .ok i.toNat w := by
  simp [Instr.sliceBound, asIntOf, h0, h1]

def BndRes (P : Program) (w : World) (n cap : Nat) (isSlice : Bool) (lo hi mx : Option Value) (kk : Nat → Nat → Bool → Prop) : Prop :=
  ∃ l h' f m, kk l h' f ∧ l ≤ h' ∧ h' ≤ n ∧ h' ≤ m ∧ m ≤ cap ∧ (f = true → m = h') ∧
    (Instr.sliceBounds isSlice n cap lo hi mx).run P w = .ok (l, h', m) w

/-- The bounds of a slice expression, as the model reckons them. -/
theorem bnds_run {n cap : Nat} {lo hi mx : Option Operand} {e : Opd → AV} {kk : Nat → Nat → Bool → Prop} (isSlice : Bool)
    (h : bnds n lo.isSome hi.isSome mx.isSome ((optL lo ++ optL hi ++ optL mx).map e) kk) (hc : n ≤ cap)
    (hR : ∀ x, lo = some x ∨ hi = some x ∨ mx = some x → R I w β lam (e (trOpd x)) (a.eval x)) :
    BndRes P w n cap isSlice (lo.map a.eval) (hi.map a.eval) (mx.map a.eval) kk := by
  unfold bnds at h
  cases lo with
  | none =>
    cases hi with
    | none =>
      cases mx with
      | none =>
        simp [optL] at h
        exact ⟨0, n, false, cap, h, Nat.zero_le _, Nat.le_refl _, hc, Nat.le_refl _, by simp, by simp [Instr.sliceBounds]⟩
      | some z => simp [optL] at h
    | some y =>
      have hy := hR y (.inr (.inl rfl))
      cases mx with
      | none =>
        clear hR
        simp [optL] at h
        split at h <;> simp_all
        rename_i ik j _
        have hv := hy.val_eq
        obtain ⟨h0, h1, h2⟩ := h
        refine ⟨0, j.toNat, false, cap, h2, Nat.zero_le _, by omega, by omega, Nat.le_refl _, by simp, ?_⟩
        simp [Instr.sliceBounds, hv, run_bound (P := P) (w := w) h0 (show j ≤ cap by omega)]
      | some z =>
        have hz := hR z (.inr (.inr rfl))
        clear hR
        simp [optL] at h
        split at h <;> simp_all
        rename_i ik j ik' m _
        have hv := hy.val_eq
        have hv' := hz.val_eq
        obtain ⟨h0, rfl, h1, h2⟩ := h
        refine ⟨0, j.toNat, true, j.toNat, h2, Nat.zero_le _, by omega, Nat.le_refl _, by omega, by simp, ?_⟩
        simp [Instr.sliceBounds, hv, hv', run_bound (P := P) (w := w) h0 (show j ≤ cap by omega), run_bound (P := P) (w := w) h0 (show j ≤ j.toNat by omega)]
  | some x =>
    have hx := hR x (.inl rfl)
    cases hi with
    | none =>
      cases mx with
      | none =>
        clear hR
        simp [optL] at h
        split at h <;> simp_all
        rename_i ik j _
        have hv := hx.val_eq
        obtain ⟨h0, h1, h2⟩ := h
        refine ⟨j.toNat, n, false, cap, h2, by omega, Nat.le_refl _, hc, Nat.le_refl _, by simp, ?_⟩
        simp [Instr.sliceBounds, hv, run_bound (P := P) (w := w) h0 h1]
      | some z => simp [optL] at h
    | some y =>
      have hy := hR y (.inr (.inl rfl))
      cases mx with
      | none =>
        clear hR
        simp [optL] at h
        split at h <;> simp_all
        rename_i ik j ik' m _
        have hv := hx.val_eq
        have hv' := hy.val_eq
        obtain ⟨h0, h1, h2, h3⟩ := h
        refine ⟨j.toNat, m.toNat, false, cap, h3, by omega, by omega, by omega, Nat.le_refl _, by simp, ?_⟩
        simp [Instr.sliceBounds, hv, hv', run_bound (P := P) (w := w) (show 0 ≤ m by omega) (show m ≤ cap by omega), run_bound (P := P) (w := w) h0 (show j ≤ m.toNat by omega)]
      | some z =>
        have hz := hR z (.inr (.inr rfl))
        clear hR
        simp [optL] at h
        split at h <;> simp_all
        rename_i ik j ik' m ik'' q _
        have hv := hx.val_eq
        have hv' := hy.val_eq
        have hv'' := hz.val_eq
        obtain ⟨h0, h1, rfl, h2, h3⟩ := h
        refine ⟨j.toNat, m.toNat, true, m.toNat, h3, by omega, by omega, Nat.le_refl _, by omega, by simp, ?_⟩
        simp [Instr.sliceBounds, hv, hv', hv'', run_bound (P := P) (w := w) (show 0 ≤ m by omega) (show m ≤ cap by omega), run_bound (P := P) (w := w) (show 0 ≤ m by omega) (show m ≤ m.toNat by omega), run_bound (P := P) (w := w) h0 (show j ≤ m.toNat by omega)]

theorem sim_slice {t e : TypeId} {sz : Nat} {x : Operand} {lo hi mx : Option Operand} {f : Opd → AV} {X : AV} (ho : o.op = .slice t x lo hi mx) (he : elT P t = some e) (hsz : szT P e = some sz)
    (hx : R I w β lam X (a.eval x)) (hR : ∀ y, lo = some y ∨ hi = some y ∨ mx = some y → R I w β lam (f (trOpd y)) (a.eval y))
    (h : eSlice sz lo.isSome hi.isSome mx.isSome (X :: (optL lo ++ optL hi ++ optL mx).map f) k) (hk : Keeps w I β lam d k a o.dst K) : o.wp P a w K Q := by
  have hu : P.underlying t = some (.slice e) := by
    unfold elT at he
    split at he <;> simp_all
  have run : ∀ (av : Option Addr) (len cap l h' m : Nat), a.eval x = .slice av len cap →
      (Instr.sliceBounds true len cap (lo.map a.eval) (hi.map a.eval) (mx.map a.eval)).run P w = .ok (l, h', m) w →
      (execOp a.eval o).run P w = .ok (.value (.slice (if m = l then av else av.map (·.add (l * sz))) (h' - l) (m - l))) w := by
    intro av len cap l h' m hv hb
    simp [execOp, ho, hv, Instr.sliceAt, Instr.slice, run_underlying hu, hb, run_cast hsz]
  unfold eSlice at h
  split at h
  · rename_i sz' md rows xs heq
    simp only [List.cons.injEq] at heq
    obtain ⟨rfl, rfl⟩ := heq
    obtain ⟨hs, h⟩ := h
    obtain ⟨av, cap, hv, hcap, hfull, hne⟩ := hx.list_inv
    obtain ⟨l, h', fl, m, hkk, h1, h2, h3, h4, h5, hb⟩ := bnds_run (P := P) (I := I) (w := w) (β := β) (lam := lam) (a := a) true h hcap hR
    refine same_val (run _ _ _ _ _ _ hv hb) ?_ hkk hk
    have hlen : ((rows.take h').drop l).length = h' - l := by simp; omega
    by_cases hz : h' - l = 0
    · have hnil : (rows.take h').drop l = [] := List.eq_nil_of_length_eq_zero (by omega)
      rw [hnil, hz]
      refine .base (.listNil _ _ _ _ (fun hf => ?_) (by split <;> simp))
      cases fl with
      | true => have := h5 rfl; omega
      | false => simp at hf
    · have hrne : rows ≠ [] := by intro e; subst e; simp at h2; omega
      obtain ⟨b, q, rfl, hrow, hc⟩ := hne hrne
      have hs' : sz' = sz := hs.resolve_left hrne
      subst hs'
      rw [if_neg (show ¬ m = l by omega)]
      simp only [Option.map_some, addr_add]
      rw [← hlen]
      have hget : ∀ (i : Nat) (r : List AV), ((rows.take h').drop l)[i]? = some r → rows[l + i]? = some r := by
        intro i r hi
        rw [List.getElem?_drop, List.getElem?_take] at hi
        split at hi
        · exact hi
        · cases hi
      refine .base (R0.mk_list (by rw [hlen]; omega) (fun hf => ?_) (by split <;> simp) (fun i r hi => hrow _ _ (hget i r hi)) (fun i r j c hi hj => ?_))
      · cases fl with
        | true => have := h5 rfl; omega
        | false => simp at hf
      · have := hc (l + i) r j c (hget i r hi) hj
        rw [Nat.add_mul] at this
        have e : q + (l * sz' + i * sz') + j = q + l * sz' + i * sz' + j := by omega
        rw [e] at this
        exact this
  · rename_i j sz' off len xs heq
    simp only [List.cons.injEq] at heq
    obtain ⟨rfl, rfl⟩ := heq
    obtain ⟨rfl, h⟩ := h
    obtain ⟨b, cap, av, hb', hv, hcap, hav⟩ := hx.sl_inv
    obtain ⟨l, h', fl, m, hkk, h1, h2, h3, h4, h5, hb⟩ := bnds_run (P := P) (I := I) (w := w) (β := β) (lam := lam) (a := a) true h hcap hR
    refine same_val (run _ _ _ _ _ _ hv hb) (.sl _ _ _ _ _ b _ hb' (by omega) fun hne => ?_) hkk hk
    rw [if_neg (by omega), hav (by omega)]
    simp only [Option.map_some, addr_add]
    rw [Nat.add_mul]
  · rename_i j sz' off len xs heq
    simp only [List.cons.injEq] at heq
    obtain ⟨rfl, rfl⟩ := heq
    obtain ⟨rfl, h⟩ := h
    obtain ⟨cap0, cp, av0, av, hl, hv, hlc, hoc, hav⟩ := hx.us_inv
    obtain ⟨l, h', fl, m, hkk, h1, h2, h3, h4, h5, hb⟩ := bnds_run (P := P) (I := I) (w := w) (β := β) (lam := lam) (a := a) true h hlc hR
    refine same_val (run _ _ _ _ _ _ hv hb) (.us _ _ _ _ cap0 _ av0 _ hl (by omega) (by omega) fun hne => ?_) hkk hk
    obtain ⟨b, q, rfl, rfl⟩ := hav (by omega)
    refine ⟨b, q, rfl, ?_⟩
    rw [if_neg (by omega)]
    simp only [Option.map_some, addr_add]
    rw [Nat.add_mul, Nat.add_assoc]
  · exact h.elim

end
end Go.Am
