/-
  The abstract machine, part 32: a slice held against nil.
-/
import Derived.Test.YtljkjogggfdgiaaAm31
namespace Go.Am
open Go.RowKit

section
variable {P : Program} {F : Frame0} {I : Nat → Nat → Prop} {w : World} {β : Blocks} {lam : Owned} {a : Act} {o : Oper} {Q : Exit → Act → World → Prop}

theorem nilQ_inv {op : BinOp} {t : TypeId} {y : Operand} {neg : Bool} (h : nilQ P op t y = some neg) :
    y = .const (.slice none 0 0) ∧ (∃ e, P.underlying t = some (.slice e)) ∧ ((op = .eql ∧ neg = false) ∨ (op = .neq ∧ neg = true)) := by
  unfold nilQ at h
  split at h
  · rename_i e he
    simp only [Option.some.injEq] at h
    exact ⟨rfl, ⟨e, he⟩, .inl ⟨rfl, h.symm⟩⟩
  · rename_i e he
    simp only [Option.some.injEq] at h
    exact ⟨rfl, ⟨e, he⟩, .inr ⟨rfl, h.symm⟩⟩
  · cases h

theorem run_nilS {t e : TypeId} {av : Option Addr} {n c : Nat} (hu : P.underlying t = some (.slice e)) : (Op.equal t (.slice av n c) (.slice none 0 0)).run P w = .ok av.isNone w := by
  have : ∀ d : Nat, (Op.equalIn (d + 1) t (.slice av n c) (.slice none 0 0)).run P w = .ok av.isNone w := fun d => by
    cases av <;> simp [Op.equalIn, run_underlying hu]
  exact this 9999

theorem nilN_R {x : AV} {v : Value} {n : Nat} (hx : R I w β lam x v) (hn : nilN x = some n) : ∃ av cap, v = .slice av n cap ∧ (n ≠ 0 → av.isNone = false) := by
  cases x <;> simp only [nilN, reduceCtorEq, Option.some.injEq] at hn
  · subst hn
    obtain ⟨av, cap, hv, _, _, h⟩ := hx.list_inv
    refine ⟨av, cap, hv, fun h0 => ?_⟩
    obtain ⟨b, q, rfl, _⟩ := h (by intro e; subst e; exact h0 rfl)
    rfl
  · subst hn
    obtain ⟨b, cap, av, _, hv, _, h⟩ := hx.sl_inv
    exact ⟨av, cap, hv, fun h0 => by rw [h h0]; rfl⟩
  · subst hn
    obtain ⟨cap, cp, a, av, _, hv, hle, _, h⟩ := hx.us_inv
    refine ⟨av, cp, hv, fun h0 => ?_⟩
    obtain ⟨b, q, _, rfl⟩ := h (by omega)
    rfl

theorem sim_nilS {op : BinOp} {t t' : TypeId} {x y : Operand} {neg : Bool} {X : AV} {s : St} {K : St → Prop} {Kr : Act → World → Prop} (ho : o.op = .binOp op t x y t') (hq : nilQ P op t y = some neg)
    (h : Inv F s.look (lk s.sto) I β lam a w) (hd : dstOk F.N o.dst = true) (hx : R I w β lam X (a.eval x)) (hst : eNilS neg s o.dst K [X])
    (hk : ∀ s' a' w', K s' → Holds F s' a' w' → Kr a' w') : o.wp P a w Kr Q := by
  obtain ⟨rfl, ⟨e, hu⟩, hop⟩ := nilQ_inv hq
  simp only [eNilS] at hst
  split at hst
  rotate_left
  · exact hst.elim
  rename_i n hn
  obtain ⟨av, cap, hv, hne⟩ := nilN_R hx hn
  have fin : ∀ b, K (s.put o.dst (.val (.bool b))) → (execOp a.eval o).run P w = .ok (.value (.bool b)) w → o.wp P a w Kr Q := by
    intro b hK hr
    refine wp_val hr (hk _ _ _ hK ⟨I, β, lam, ?_⟩)
    rw [look_put]
    have : (s.put o.dst (.val (.bool b))).sto = s.sto := by cases o.dst <;> rfl
    rw [this]
    exact h.put hd (R_val _)
  rcases hop with ⟨rfl, rfl⟩ | ⟨rfl, rfl⟩
  · have hr : (execOp a.eval o).run P w = .ok (.value (.bool av.isNone)) w := by
      have e1 : binOp .eql t (.slice av n cap) (.slice none 0 0) = (do pure (.bool (← Op.equal t (.slice av n cap) (.slice none 0 0)))) := rfl
      have e2 : (eqGuard .eql t x (.const (.slice none 0 0)) (.slice av n cap) (.slice none 0 0)).run P w = .ok () w := rfl
      simp only [execOp, ho, hv, (show a.eval (.const (.slice none 0 0)) = .slice none 0 0 from rfl), e1, Sem.run_bind, e2, Result.andThen_ok, run_nilS hu, Sem.run_pure]
    by_cases h0 : n = 0
    · have := hst.1 h0
      cases hb : av.isNone with
      | true => exact fin _ this.1 (by rw [hr, hb])
      | false => exact fin _ this.2 (by rw [hr, hb])
    · exact fin _ (hst.2 h0) (by rw [hr, hne h0])
  · have hr : (execOp a.eval o).run P w = .ok (.value (.bool (!av.isNone))) w := by
      have e1 : binOp .neq t (.slice av n cap) (.slice none 0 0) = (do pure (.bool (!(← Op.equal t (.slice av n cap) (.slice none 0 0))))) := rfl
      have e2 : (eqGuard .neq t x (.const (.slice none 0 0)) (.slice av n cap) (.slice none 0 0)).run P w = .ok () w := rfl
      simp only [execOp, ho, hv, (show a.eval (.const (.slice none 0 0)) = .slice none 0 0 from rfl), e1, Sem.run_bind, e2, Result.andThen_ok, run_nilS hu, Sem.run_pure]
    by_cases h0 : n = 0
    · have := hst.1 h0
      cases hb : av.isNone with
      | true => exact fin _ this.2 (by rw [hr, hb]; rfl)
      | false => exact fin _ this.1 (by rw [hr, hb]; rfl)
    · exact fin _ (hst.2 h0) (by rw [hr, hne h0]; rfl)

end
end Go.Am
