/-
  The abstract machine, part 18: a region whose order is the text's; which orders a region allows.
-/
import Derived.Test.YtljkjogggfdgiaaAm17
namespace Go.Am
open Go.RowKit

section
variable {P : Program} {F : Frame0} {w : World} {a : Act} {o : Oper} {Q : Exit → Act → World → Prop} {s : St}

theorem holds_freezes : ∀ (ks : List Nat) {s : St} {K : St → Prop}, Holds F s a w → freezes ks s K → ∃ s', K s' ∧ Holds F s' a w := by
  intro ks
  induction ks with
  | nil => intro s K h hf; exact ⟨s, hf, h⟩
  | cons k ks ih =>
    intro s K h hf
    obtain ⟨s', h1, h2⟩ := holds_freeze h hf
    exact ih h2 h1

/-- A slot that a guard looks at. -/
theorem guard_run {ops : Array Oper} {e : Nat × Nat → Option AV} {σ : Nat → Option Entry} {I : Nat → Nat → Prop} {β : Blocks} {lam : Owned} {g : Option (Nat × Bool)} (hg : trGuard ops o.guard = some g) (hI : Inv F e σ I β lam a w) :
    (g = none → Region.wanted o (yielded ops a.tmps) = true) ∧
    (∀ d b c, g = some (d, b) → e (0, d) = some (.val (.bool c)) → Region.wanted o (yielded ops a.tmps) = (c == b)) ∧
    (∀ d b v, g = some (d, b) → e (0, d) = some (.val v) → (∀ c, v ≠ .bool c) → Region.wanted o (yielded ops a.tmps) = false) := by
  unfold trGuard at hg
  split at hg
  · rename_i ho
    simp only [Option.some.injEq] at hg
    subst hg
    refine ⟨fun _ => by simp [Region.wanted, ho], ?_, ?_⟩
    · intro d b c h; cases h
    · intro d b v h; cases h
  · rename_i j b ho
    split at hg
    · rename_i d hd
      simp only [Option.some.injEq] at hg
      subst hg
      refine ⟨(fun h => by cases h), ?_, ?_⟩
      · intro d' b' c h hc
        cases h
        obtain ⟨v, h1, h2⟩ := hI.env _ _ hc
        have := h2.val_eq
        subst this
        simp only [Frame0.val] at h1
        simp only [Region.wanted, ho, yielded, hd, Option.bind_some, h1]
        cases c <;> cases b <;> rfl
      · intro d' b' v h hc hv
        cases h
        obtain ⟨u, h1, h2⟩ := hI.env _ _ hc
        have := h2.val_eq
        subst this
        simp only [Frame0.val] at h1
        simp only [Region.wanted, ho, yielded, hd, Option.bind_some, h1]
        split
        · rename_i c hc'; simp only [Option.some.injEq] at hc'; exact absurd hc' (hv c)
        · simp
    · cases hg

theorem get_some {n : Nat} {x : AV} (h : s.get n = x) (hx : x ≠ .undef) : lk s.env n = some x := by
  unfold St.get at h
  cases hl : lk s.env n with
  | none => rw [hl] at h; exact absurd h.symm hx
  | some y => rw [hl] at h; simp at h; rw [h]

theorem oper_run {draw : Bool} {ao : AOper} {ops : Array Oper} {K : St → Prop} {Kr : Act → World → Prop} (htr : trOper P F.N ops o = some (bareO draw ao)) (hH : Holds F s a w) (h : awpOper P ao s K)
    (hk : ∀ s' a' w', K s' → Holds F s' a' w' → Kr a' w') : if Region.wanted o (yielded ops a.tmps) then o.wp P a w Kr Q else Kr (a.put o.dst undef) w := by
  obtain ⟨_, hg, hdst, hdok⟩ := trOper_inv htr
  have hg : trGuard ops o.guard = some ao.guard := hg
  obtain ⟨I, β, lam, hI⟩ := hH
  obtain ⟨g1, g2, g3⟩ := guard_run hg hI
  have skip : K (s.put ao.dst (.val undef)) → Kr (a.put o.dst undef) w := by
    intro hK
    refine hk _ _ _ hK ⟨I, β, lam, ?_⟩
    have := hI.put hdok (x := .val undef) (v := undef) (R_val _)
    have hdst' : ao.dst = o.dst := hdst
    rw [hdst', look_put]
    have e2 : (s.put o.dst (.val undef)).sto = s.sto := by cases o.dst <;> rfl
    rw [e2]
    exact this
  unfold awpOper at h
  split at h
  · rename_i hn
    rw [g1 hn]
    exact op_run htr ⟨I, β, lam, hI⟩ h hk
  · rename_i d b hgd
    split at h
    · rename_i c hc
      rw [g2 d b c hgd (get_some hc (by simp))]
      by_cases e : c = b
      · subst e
        simp only [beq_self_eq_true, if_true]
        exact op_run htr ⟨I, β, lam, hI⟩ (h.1 rfl) hk
      · have : (c == b) = false := by simpa using e
        rw [this]
        simp only [Bool.false_eq_true, if_false]
        exact skip (h.2 (by cases c <;> cases b <;> simp_all))
    · rename_i v hnb hv
      rw [g3 d b v hgd (get_some hv (by simp)) (fun c e => by subst e; exact hnb c rfl)]
      simp only [Bool.false_eq_true, if_false]
      exact skip h
    · exact h.elim

theorem seq_region {draw : Bool} (ops : Array Oper) : ∀ (rl : List Oper) (l : List AOper) {s : St} {a : Act} {w : World} {K : St → Prop}, trOpers P F.N ops rl = some (l.map (bareO draw)) → Holds F s a w → awpOps P l s K →
    (∀ s' a' w', K s' → Holds F s' a' w' → Q .normal a' w') → wpList P ops Q rl a w := by
  intro rl
  induction rl with
  | nil =>
    intro l s a w K htr hH h hk
    simp only [trOpers, Option.some.injEq] at htr
    have htr := List.map_eq_nil_iff.1 htr.symm
    subst htr
    exact hk _ _ _ h hH
  | cons o rl ih =>
    intro l s a w K htr hH h hk
    simp only [trOpers] at htr
    split at htr
    · rename_i x y hx hy
      simp only [Option.some.injEq] at htr
      obtain ⟨x', l', rfl, e1, e2⟩ := List.map_eq_cons_iff.1 htr.symm
      rw [← e1] at hx
      rw [← e2] at hy
      simp only [awpOps] at h
      refine wpList_step fun Kr hKr => ?_
      exact oper_run hx hH h fun s' a' w' hK hH' => hKr _ _ (ih _ hy hH' hK hk)
    · cases htr

/-! ### which orders a region allows -/

theorem before_size (ops : Array Oper) : (Region.before ops).size = ops.size := by
  unfold Region.before
  rw [← Array.foldl_toList]
  have : ∀ (l : List Oper) (acc : Array Nat), (l.foldl (fun acc o => acc.push (o.after.foldl (fun s e => if Region.binds .any e then s ||| 2 ^ e.on ||| acc.getD e.on 0 else s) 0)) acc).size = acc.size + l.length := by
    intro l
    induction l with
    | nil => intro acc; simp
    | cons o l ih => intro acc; simp only [List.foldl_cons]; rw [ih]; simp; omega
  rw [this]
  simp

def maskOf (acc : Array Nat) (o : Oper) : Nat := o.after.foldl (fun s e => if Region.binds .any e then s ||| 2 ^ e.on ||| acc.getD e.on 0 else s) 0

theorem mask_bit {acc : Array Nat} {o : Oper} {j : Nat} (h : (maskOf acc o).testBit j = true) : ∃ e ∈ o.after.toList, Region.binds .any e = true ∧ (e.on = j ∨ (acc.getD e.on 0).testBit j = true) := by
  unfold maskOf at h
  rw [← Array.foldl_toList] at h
  have : ∀ (l : List Edge) (s : Nat), (l.foldl (fun s e => if Region.binds .any e then s ||| 2 ^ e.on ||| acc.getD e.on 0 else s) s).testBit j = true →
      s.testBit j = true ∨ ∃ e ∈ l, Region.binds .any e = true ∧ (e.on = j ∨ (acc.getD e.on 0).testBit j = true) := by
    intro l
    induction l with
    | nil => intro s h; exact .inl h
    | cons e l ih =>
      intro s h
      simp only [List.foldl_cons] at h
      rcases ih _ h with h | ⟨e', he', h⟩
      · split at h
        · rename_i hb
          rw [Nat.testBit_or, Nat.testBit_or, Bool.or_eq_true, Bool.or_eq_true] at h
          rcases h with (h | h) | h
          · exact .inl h
          · refine .inr ⟨e, by simp, hb, .inl ?_⟩
            rw [Nat.testBit_two_pow] at h
            simpa using h
          · exact .inr ⟨e, by simp, hb, .inr h⟩
        · exact .inl h
      · exact .inr ⟨e', by simp [he'], h⟩
  rcases this _ _ h with h | h
  · simp at h
  · exact h

theorem before_spec (ops : Array Oper) {i : Nat} {o : Oper} (hi : ops[i]? = some o) {j : Nat} (h : ((Region.before ops).getD i 0).testBit j = true) :
    ∃ e ∈ o.after.toList, Region.binds .any e = true ∧ (e.on = j ∨ (e.on < i ∧ ((Region.before ops).getD e.on 0).testBit j = true)) := by
  have key : ∀ (l : List Oper) (acc : Array Nat), let R := l.foldl (fun acc o => acc.push (maskOf acc o)) acc
      (∀ k, k < acc.size → R.getD k 0 = acc.getD k 0) ∧
      ∀ k o, l[k]? = some o → ∃ acc' : Array Nat, acc'.size = acc.size + k ∧ R.getD (acc.size + k) 0 = maskOf acc' o ∧ ∀ q, q < acc'.size → acc'.getD q 0 = R.getD q 0 := by
    intro l
    induction l with
    | nil => intro acc; exact ⟨fun _ _ => rfl, fun k o h => by simp at h⟩
    | cons x l ih =>
      intro acc
      simp only [List.foldl_cons]
      obtain ⟨h1, h2⟩ := ih (acc.push (maskOf acc x))
      have hp : ∀ k, k < acc.size → (acc.push (maskOf acc x)).getD k 0 = acc.getD k 0 := fun k hk => by
        simp [Array.getElem?_push, Nat.ne_of_lt hk]
      refine ⟨fun k hk => by rw [h1 k (by simp; omega), hp k hk], fun k o hk => ?_⟩
      cases k with
      | zero =>
        simp at hk
        subst hk
        refine ⟨acc, by simp, ?_, fun q hq => ?_⟩
        · rw [Nat.add_zero, h1 acc.size (by simp)]
          simp
        · rw [h1 q (by simp; omega), hp q hq]
      | succ k =>
        simp at hk
        obtain ⟨acc', e1, e2, e3⟩ := h2 k o hk
        refine ⟨acc', by rw [e1]; simp; omega, ?_, e3⟩
        rw [← e2]
        congr 1
        simp
        omega
  have hR : Region.before ops = ops.toList.foldl (fun acc o => acc.push (maskOf acc o)) #[] := by
    unfold Region.before
    rw [← Array.foldl_toList]
    rfl
  obtain ⟨_, h2⟩ := key ops.toList #[]
  rw [← hR] at h2
  obtain ⟨acc', e1, e2, e3⟩ := h2 i o (by simpa using hi)
  simp only [List.size_toArray, List.length_nil, Nat.zero_add] at e1 e2
  rw [e2] at h
  obtain ⟨e, he, hb, hj⟩ := mask_bit h
  refine ⟨e, he, hb, hj.imp id fun hj => ?_⟩
  by_cases hlt : e.on < i
  · refine ⟨hlt, ?_⟩
    rw [← e3 e.on (by omega)]
    exact hj
  · exfalso
    have : acc'.getD e.on 0 = 0 := by
      have : acc'.size ≤ e.on := by omega
      simp [this]
    rw [this] at hj
    simp at hj

/-- Listed: it has come up already. -/
def Ld (L : Array Bool) (j : Nat) : Prop := L.getD j false = true

def Closed (ops : Array Oper) (L : Array Bool) : Prop := ∀ (i : Nat) (o : Oper), ops[i]? = some o → Ld L i → ∀ e ∈ o.after.toList, Region.binds .any e = true → Ld L e.on

theorem waits_spec {ops : Array Oper} {L : Array Bool} (hc : Closed ops L) {i : Nat} {o : Oper} (hi : ops[i]? = some o) (hr : ∀ e ∈ o.after.toList, Region.binds .any e = true → Ld L e.on) {j : Nat}
    (h : ((Region.before ops).getD i 0).testBit j = true) : Ld L j := by
  have : ∀ (n i : Nat) (o : Oper), i ≤ n → ops[i]? = some o → (∀ e ∈ o.after.toList, Region.binds .any e = true → Ld L e.on) → ((Region.before ops).getD i 0).testBit j = true → Ld L j := by
    intro n
    induction n with
    | zero =>
      intro i o hin hi hr h
      obtain ⟨e, he, hb, hj⟩ := before_spec ops hi h
      rcases hj with rfl | ⟨hlt, _⟩
      · exact hr e he hb
      · omega
    | succ n ih =>
      intro i o hin hi hr h
      obtain ⟨e, he, hb, hj⟩ := before_spec ops hi h
      rcases hj with rfl | ⟨hlt, hj⟩
      · exact hr e he hb
      · have hle : e.on < ops.size := by
          have := (Array.getElem?_eq_some_iff.1 hi).1
          omega
        exact ih e.on ops[e.on] (by omega) (by simp [hle]) (hc e.on _ (by simp [hle]) (hr e he hb)) hj
  exact this i i o (Nat.le_refl _) hi hr h

theorem waits_all {ops : Array Oper} {i : Nat} (h : waits ops i = true) {j : Nat} (hj : j < i) : ((Region.before ops).getD i 0).testBit j = true := by
  unfold waits at h
  have h' : Nat.land ((Region.before ops).getD i 0) (2 ^ i - 1) = 2 ^ i - 1 := by simpa using h
  have : (Nat.land ((Region.before ops).getD i 0) (2 ^ i - 1)).testBit j = true := by
    rw [h', Nat.testBit_two_pow_sub_one]
    simpa using hj
  have h2 : (((Region.before ops).getD i 0) &&& (2 ^ i - 1)).testBit j = true := this
  rw [Nat.testBit_and, Bool.and_eq_true] at h2
  exact h2.1

theorem prefixLen_le (ops : Array Oper) : ∀ n, prefixLen ops n ≤ n := by
  intro n
  induction n with
  | zero => simp [prefixLen]
  | succ n ih =>
    simp only [prefixLen]
    split
    · omega
    · omega

theorem prefixLen_waits (ops : Array Oper) : ∀ n i, prefixLen ops n ≤ i → i < n → waits ops i = true := by
  intro n
  induction n with
  | zero => intro i _ h; omega
  | succ n ih =>
    intro i h1 h2
    simp only [prefixLen] at h1
    split at h1
    · rename_i hw
      by_cases e : i = n
      · subst e; exact hw
      · exact ih i h1 (by omega)
    · omega

theorem ready_iff {ops : Array Oper} {L : Array Bool} {i : Nat} : i ∈ Region.ready .any ops L ↔ ∃ o, ops[i]? = some o ∧ L.getD i true = false ∧ ∀ e ∈ o.after.toList, Region.binds .any e = true → Ld L e.on := by
  unfold Region.ready
  simp only [List.mem_filter, List.mem_range, Bool.and_eq_true, Bool.not_eq_true']
  constructor
  · rintro ⟨h1, h2, h3⟩
    cases ho : ops[i]? with
    | none => simp [ho] at h3
    | some o =>
      refine ⟨o, rfl, h2, fun e he hb => ?_⟩
      simp only [ho, Option.map_some, Option.getD_some] at h3
      have := Array.all_eq_true'.1 h3 e (by simpa using he)
      simp only [hb, Bool.not_true, Bool.false_or] at this
      exact this
  · rintro ⟨o, ho, h2, h3⟩
    refine ⟨(Array.getElem?_eq_some_iff.1 ho).1, h2, ?_⟩
    simp only [ho, Option.map_some, Option.getD_some]
    refine Array.all_eq_true'.2 fun e he => ?_
    cases hb : Region.binds .any e with
    | false => rfl
    | true =>
      have := h3 e (by simpa using he) hb
      simpa [Ld] using this

end
end Go.Am
