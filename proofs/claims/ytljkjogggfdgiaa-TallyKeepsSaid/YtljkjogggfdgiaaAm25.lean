/-
  The abstract machine, part 25: when are two values equal that are made of numbers, truth values and strings?
-/
import Derived.Test.YtljkjogggfdgiaaAm24
namespace Go.Am

theorem semPure_bind {α β : Type} (P : Program) (s : Sem α) (f : α → Sem β) : semPure P (s >>= f) = (semPure P s).bind fun a => semPure P (f a) := by
  induction s with
  | pure a => simp [bind, Sem.bind, semPure]
  | program k ih => simp only [bind, Sem.bind, semPure] at *; exact ih P
  | _ => rfl
theorem semPure_pure {α : Type} (P : Program) (a : α) : semPure P (pure a : Sem α) = some a := rfl
theorem pure_underlying {P : Program} {t : TypeId} : semPure P (underlying t) = P.underlying t := by
  simp only [underlying, semPure_bind]
  simp only [program, semPure]
  simp only [Option.bind]
  cases P.underlying t <;> rfl
theorem pure_typeInfo {P : Program} {t : TypeId} : semPure P (typeInfo t) = P.info? t := by
  simp only [typeInfo, semPure_bind]
  simp only [program, semPure]
  simp only [Option.bind]
  cases P.info? t <;> rfl
theorem pure_sizeOf {P : Program} {t : TypeId} : semPure P (sizeOf t) = szT P t := by
  simp only [sizeOf, semPure_bind, pure_typeInfo, szT]
  cases P.info? t <;> rfl
theorem pure_isAgg {P : Program} {t : TypeId} {d : TypeDesc} (h : P.underlying t = some d) : semPure P (isAgg t) = some (agT P t) := by
  simp only [isAgg, semPure_bind, pure_underlying, h, Option.bind, agT]
  cases d <;> rfl

inductive Kd where
  | b
  | i (k : IntKind)
  | s
def Kd.fit : Kd → Value → Bool
  | .b, .bool _ => true
  | .i k, .int k' _ => decide (k = k')
  | .s, .string _ => true
  | _, _ => false
def fitL : List Kd → List Value → Bool
  | [], [] => true
  | k :: ks, v :: vs => k.fit v && fitL ks vs
  | _, _ => false
def eq1 : Value → Value → Bool
  | .bool a, .bool b => a == b
  | .int _ a, .int _ b => a == b
  | .string a, .string b => a == b
  | _, _ => false
def eqL : List Value → List Value → Bool
  | [], [] => true
  | x :: xs, y :: ys => eq1 x y && eqL xs ys
  | _, _ => false
def kdFs (P : Program) (kd : TypeId → Option (List Kd)) : Nat → List Field → Option (List Kd)
  | _, [] => some []
  | off, f :: fs =>
    if f.name = "_" ∨ f.offset ≠ off then none
    else
      match kd f.type with
      | some ks => if szT P f.type = some ks.length then (kdFs P kd (off + ks.length) fs).map (ks ++ ·) else none
      | none => none
def kds (P : Program) : Nat → TypeId → Option (List Kd)
  | 0, _ => none
  | d + 1, t =>
    match P.underlying t with
    | some .bool => some [.b]
    | some (.int k) => some [.i k]
    | some .string => some [.s]
    | some (.array n e) =>
      match kds P d e with
      | some ks => if szT P e = some ks.length then some (List.replicate n ks).flatten else none
      | none => none
    | some (.struct fs) => if P.stoodInHeld t = true then none else kdFs P (kds P d) 0 fs.toList
    | _ => none

theorem fitL_len : ∀ {ks : List Kd} {xs : List Value}, fitL ks xs = true → xs.length = ks.length
  | [], [], _ => rfl
  | [], _ :: _, h => by cases h
  | _ :: _, [], h => by cases h
  | k :: ks, x :: xs, h => by simp only [fitL, Bool.and_eq_true] at h; simp [fitL_len h.2]
theorem fitL_app : ∀ {ks ls : List Kd} {xs : List Value}, fitL (ks ++ ls) xs = true → fitL ks (xs.take ks.length) = true ∧ fitL ls (xs.drop ks.length) = true
  | [], _, _, h => by simpa [fitL] using h
  | k :: ks, ls, [], h => by cases h
  | k :: ks, ls, x :: xs, h => by
    simp only [List.cons_append, fitL, Bool.and_eq_true] at h
    have := fitL_app h.2
    simp [fitL, h.1, this.1, this.2]
theorem eqL_app : ∀ {n : Nat} {xs ys : List Value}, xs.length = ys.length → eqL xs ys = (eqL (xs.take n) (ys.take n) && eqL (xs.drop n) (ys.drop n))
  | 0, _, _, _ => by simp [eqL]
  | _ + 1, [], [], _ => by simp [eqL]
  | _ + 1, [], _ :: _, h => by cases h
  | _ + 1, _ :: _, [], h => by cases h
  | n + 1, x :: xs, y :: ys, h => by
    simp only [List.length_cons, Nat.add_right_cancel_iff] at h
    simp only [eqL, List.take_succ_cons, List.drop_succ_cons, Bool.and_assoc]
    rw [eqL_app (n := n) h]

/-- A value of the type, of its cells. -/
def valOf (P : Program) (t : TypeId) (xs : List Value) : Value := if agT P t = true then .agg xs.toArray else xs.headD undef

theorem kds_one {P : Program} {d : Nat} {t : TypeId} {ks : List Kd} (h : kds P d t = some ks) : (∃ u, P.underlying t = some u) ∧ (agT P t = false → ks.length = 1) := by
  cases d with
  | zero => cases h
  | succ d =>
    simp only [kds] at h
    split at h <;> rename_i hu
    · exact ⟨⟨_, hu⟩, fun _ => by cases h; rfl⟩
    · exact ⟨⟨_, hu⟩, fun _ => by cases h; rfl⟩
    · exact ⟨⟨_, hu⟩, fun _ => by cases h; rfl⟩
    · exact ⟨⟨_, hu⟩, fun ha => by simp [agT, hu] at ha⟩
    · exact ⟨⟨_, hu⟩, fun ha => by simp [agT, hu] at ha⟩
    · cases h

theorem pure_part {P : Program} {d : Nat} {t : TypeId} {ks : List Kd} {xs : List Value} {off : Nat} (h : kds P d t = some ks) (hz : szT P t = some ks.length)
    (hl : off + ks.length ≤ xs.length) : semPure P (part t xs.toArray off) = some (valOf P t ((xs.drop off).take ks.length)) := by
  obtain ⟨⟨u, hu⟩, h1⟩ := kds_one h
  simp only [part, semPure_bind, pure_isAgg hu, Option.bind_some]
  by_cases ha : agT P t = true
  · simp only [ha, if_true, semPure_bind, pure_sizeOf, hz, Option.bind_some, semPure_pure, valOf]
    congr 2
    apply Array.ext'
    simp
  · have h2 := h1 (by simpa using ha)
    rw [if_neg ha]
    have h3 : off < xs.length := by omega
    simp only [List.getElem?_toArray, List.getElem?_eq_getElem h3, semPure_pure, valOf, if_neg ha, h2]
    rw [List.drop_eq_getElem_cons h3]
    rfl

/-- The loop over the parts. -/
theorem pure_loop {P : Program} {α : Type} (f : α → Sem Bool) : ∀ (l : List α) (g : List α → Bool), g [] = true → (∀ a m, (∃ h, h ++ a :: m = l) → ∃ b, semPure P (f a) = some b ∧ g (a :: m) = (b && g m)) →
    semPure P (forIn l ((none, ()) : Option Bool × Unit) fun a _ => do
      let b ← f a
      if (!b) = true then pure (ForInStep.done (some false, ())) else pure (ForInStep.yield (none, ()))) = some (if g l = true then (none, ()) else (some false, ()))
  | [], g, h0, _ => by simp [h0, semPure_pure]
  | a :: l, g, h0, h => by
    obtain ⟨b, hb, hg⟩ := h a l ⟨[], rfl⟩
    have ih := pure_loop f l g h0 (fun x m ⟨p, hp⟩ => h x m ⟨a :: p, by simp [hp]⟩)
    rw [List.forIn_cons]
    simp only [semPure_bind, hb, Option.bind_some]
    cases b with
    | false => simp [hg, semPure_pure]
    | true =>
      simp only [hg, Bool.true_and, Bool.not_true, Bool.false_eq_true, if_false, semPure_pure, Option.bind_some]
      exact ih

theorem rep_fl {n : Nat} {α : Type} {l : List α} : (List.replicate n l).flatten.length = n * l.length := by
  induction n with
  | zero => simp
  | succ n ih => simp [List.replicate_succ, ih, Nat.succ_mul, Nat.add_comm]

theorem kdFs_in {P : Program} {d : Nat} : ∀ {fs : List Field} {off : Nat} {ks : List Kd} {xs ys : List Value}, kdFs P (kds P d) off fs = some ks → xs.length = off + ks.length → ys.length = off + ks.length →
    fitL ks (xs.drop off) = true → fitL ks (ys.drop off) = true →
    (∀ (t : TypeId) (ks : List Kd) (xs ys : List Value), kds P d t = some ks → fitL ks xs = true → fitL ks ys = true → semPure P (Op.equalIn d t (valOf P t xs) (valOf P t ys)) = some (eqL xs ys)) →
    semPure P (forIn fs ((none, ()) : Option Bool × Unit) fun f _ =>
      if f.name ≠ "_" then do
        let x ← part f.type xs.toArray f.offset
        let y ← part f.type ys.toArray f.offset
        let b ← Op.equalIn d f.type x y
        if (!b) = true then pure (ForInStep.done (some false, ())) else pure (ForInStep.yield (none, ()))
      else pure (ForInStep.yield (none, ()))) = some (if eqL (xs.drop off) (ys.drop off) = true then (none, ()) else (some false, ()))
  | [], off, ks, xs, ys, h, hx, hy, _, _, _ => by
    simp only [kdFs, Option.some.injEq] at h
    subst h
    simp only [List.length_nil, Nat.add_zero] at hx hy
    rw [List.drop_of_length_le (by omega), List.drop_of_length_le (by omega)]
    simp [semPure_pure, eqL]
  | f :: fs, off, ks, xs, ys, h, hx, hy, h1, h2, IH => by
    simp only [kdFs] at h
    split at h
    · cases h
    rename_i hn
    simp only [not_or, Decidable.not_not, ne_eq] at hn
    split at h
    rotate_left
    · cases h
    rename_i ls hk
    split at h
    rotate_left
    · cases h
    rename_i hz
    cases hr : kdFs P (kds P d) (off + ls.length) fs with
    | none => simp [hr] at h
    | some ms =>
      simp only [hr, Option.map_some, Option.some.injEq] at h
      subst h
      simp only [List.length_append] at hx hy
      have a1 := fitL_app h1
      have a2 := fitL_app h2
      rw [List.drop_drop] at a1 a2
      have ih := kdFs_in hr (xs := xs) (ys := ys) (by omega) (by omega) a1.2 a2.2 IH
      rw [List.forIn_cons]
      have p1 := pure_part (xs := xs) (off := off) hk hz (by omega)
      have p2 := pure_part (xs := ys) (off := off) hk hz (by omega)
      have p3 := IH _ _ _ _ hk a1.1 a2.1
      rw [if_pos hn.1, hn.2]
      simp only [semPure_bind, p1, p2, p3, Option.bind_some]
      rw [eqL_app (n := ls.length) (xs := xs.drop off) (ys := ys.drop off) (by simp; omega), List.drop_drop, List.drop_drop]
      cases eqL ((xs.drop off).take ls.length) ((ys.drop off).take ls.length) with
      | false => simp [semPure_pure]
      | true =>
        simp only [Bool.true_and, Bool.not_true, Bool.false_eq_true, if_false, semPure_pure, Option.bind_some]
        exact ih

theorem fitL_piece {ls : List Kd} : ∀ {n : Nat} {xs : List Value} {a : Nat}, fitL (List.replicate n ls).flatten xs = true → a < n → fitL ls ((xs.drop (a * ls.length)).take ls.length) = true
  | 0, _, _, _, h => by omega
  | n + 1, xs, 0, h, _ => by
    simp only [List.replicate_succ, List.flatten_cons] at h
    simpa using (fitL_app h).1
  | n + 1, xs, a + 1, h, ha => by
    simp only [List.replicate_succ, List.flatten_cons] at h
    have := fitL_piece (fitL_app h).2 (a := a) (by omega)
    rw [List.drop_drop] at this
    rw [Nat.succ_mul, Nat.add_comm (a * ls.length)]
    exact this

theorem pure_equalIn {P : Program} : ∀ (d : Nat) (t : TypeId) (ks : List Kd) (xs ys : List Value), kds P d t = some ks → fitL ks xs = true → fitL ks ys = true →
    semPure P (Op.equalIn d t (valOf P t xs) (valOf P t ys)) = some (eqL xs ys)
  | 0, _, _, _, _, h, _, _ => by cases h
  | d + 1, t, ks, xs, ys, h, hx, hy => by
    have lx := fitL_len hx
    have ly := fitL_len hy
    simp only [kds] at h
    split at h <;> rename_i hu
    · cases h
      match xs, ys, hx, hy with
      | [.bool a], [.bool b], _, _ => simp [valOf, agT, hu, Op.equalIn, semPure_bind, pure_underlying, semPure_pure, eqL, eq1]
    · cases h
      match xs, ys, hx, hy with
      | [.int k a], [.int k' b], hx, hy =>
        simp only [fitL, Kd.fit, decide_eq_true_eq, Bool.and_true] at hx hy
        subst hx; subst hy
        simp [valOf, agT, hu, Op.equalIn, semPure_bind, pure_underlying, semPure_pure, eqL, eq1]
    · cases h
      match xs, ys, hx, hy with
      | [.string a], [.string b], _, _ => simp [valOf, agT, hu, Op.equalIn, semPure_bind, pure_underlying, semPure_pure, eqL, eq1]
    · rename_i n e
      split at h
      rotate_left
      · cases h
      rename_i ls hk
      split at h
      rotate_left
      · cases h
      rename_i hz
      cases h
      rw [rep_fl] at lx ly
      simp only [valOf, agT, hu, if_true, Op.equalIn, semPure_bind, pure_underlying, Option.bind_some, pure_sizeOf, hz]
      have hloop := pure_loop (P := P) (fun i => do
          let x ← part e xs.toArray (i * ls.length)
          let y ← part e ys.toArray (i * ls.length)
          Op.equalIn d e x y) (List.range' 0 n) (fun m => eqL (xs.drop ((n - m.length) * ls.length)) (ys.drop ((n - m.length) * ls.length)))
        (by
          simp only [List.length_nil, Nat.sub_zero]
          rw [List.drop_of_length_le (by omega), List.drop_of_length_le (by omega)]; rfl)
        (by
          rintro a m ⟨p, hp⟩
          have hlen : p.length + (m.length + 1) = n := by
            have := congrArg List.length hp
            simpa using this
          have ha : a = p.length := by
            have := congrArg (·[p.length]?) hp
            simp only [List.getElem?_append_right (Nat.le_refl _), Nat.sub_self, List.getElem?_cons_zero] at this
            rw [List.getElem?_range' (by omega)] at this
            simpa using this
          have hmul : a * ls.length + ls.length ≤ n * ls.length := by
            rw [← Nat.succ_mul]; exact Nat.mul_le_mul_right _ (by omega)
          have e1 : n - (a :: m).length = a := by simp only [List.length_cons]; omega
          have e2 : (n - m.length) * ls.length = a * ls.length + ls.length := by
            have : n - m.length = a + 1 := by omega
            rw [this, Nat.succ_mul]
          have f1 := fitL_piece hx (a := a) (by omega)
          have f2 := fitL_piece hy (a := a) (by omega)
          have p1 := pure_part (xs := xs) (off := a * ls.length) hk hz (by omega)
          have p2 := pure_part (xs := ys) (off := a * ls.length) hk hz (by omega)
          refine ⟨_, by simp only [semPure_bind, p1, p2, Option.bind_some]; exact pure_equalIn d _ _ _ _ hk f1 f2, ?_⟩
          simp only [e1, e2]
          rw [eqL_app (n := ls.length) (by simp; omega), List.drop_drop, List.drop_drop])
      simp only [List.length_range', Nat.sub_self, Nat.zero_mul, List.drop_zero] at hloop
      simp only [bind_assoc] at hloop
      rw [Std.Legacy.Range.forIn_eq_forIn_range']
      simp only [Std.Legacy.Range.size, Nat.sub_zero, Nat.add_sub_cancel, Nat.div_one, semPure_bind] at hloop ⊢
      rw [hloop]
      cases eqL xs ys <;> simp [semPure_pure]
    · rename_i fs
      split at h
      · cases h
      rename_i hs
      simp only [valOf, agT, hu, if_true, Op.equalIn, semPure_bind, pure_underlying, Option.bind_some]
      simp only [program, semPure, Option.bind_some, hs]
      have := kdFs_in (xs := xs) (ys := ys) h (by omega) (by omega) (by simpa using hx) (by simpa using hy) (pure_equalIn d)
      simp only [Bool.false_eq_true, if_false]
      rw [← Array.forIn_toList, semPure_bind, this]
      simp only [List.drop_zero, Option.bind_some]
      cases eqL xs ys <;> rfl
    · cases h
end Go.Am
