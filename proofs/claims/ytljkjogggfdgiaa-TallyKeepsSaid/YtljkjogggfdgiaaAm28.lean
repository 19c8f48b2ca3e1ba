/-
  The abstract machine, part 28: arguments that can be read as data stand for abstract values; from a contract to a row's statement.
-/
import Derived.Test.YtljkjogggfdgiaaAm27
import Derived.OpenShut
import Derived.SizedLaws
import Derived.Carry
import Derived.ProofKit
namespace Go.Am
open Go.RowKit Go.ChangeShapes Go.WideShapes

inductive Ty where
  | bool
  | int (k : IntKind)
  | str
  | slice (e : Ty)
  | arr (n : Nat) (e : Ty)
  | st (fs : List Ty)

mutual
def Ty.sz : Ty → Nat
  | .bool => 1
  | .int _ => 1
  | .str => 1
  | .slice _ => 1
  | .arr n e => n * e.sz
  | .st fs => Ty.szs fs
def Ty.szs : List Ty → Nat
  | [] => 0
  | t :: ts => t.sz + Ty.szs ts
end

def fieldsTy (P : Program) (f : TypeId → Option Ty) : Nat → List Field → Option (List Ty)
  | _, [] => some []
  | off, g :: gs => match f g.type with
    | some τ => if g.offset = off ∧ P.cellsOf g.type = τ.sz then (fieldsTy P f (off + τ.sz) gs).map (τ :: ·) else none
    | none => none
def tyOf (P : Program) : Nat → TypeId → Option Ty
  | 0, _ => none
  | m + 1, t => match P.underlying t with
    | some .bool => some .bool
    | some (.int k) => some (.int k)
    | some .string => some .str
    | some (.slice e) => match tyOf P m e with
      | some τ => if 0 < τ.sz ∧ P.cellsOf e = τ.sz ∧ 0 < P.bytesOf e then some (.slice τ) else none
      | none => none
    | some (.array n e) => match tyOf P m e with
      | some τ => if P.cellsOf e = τ.sz ∧ P.cellsOf t = n * τ.sz then some (.arr n τ) else none
      | none => none
    | some (.struct fs) => match fieldsTy P (tyOf P m) 0 fs.toList with
      | some τs => if P.cellsOf t = Ty.szs τs then some (.st τs) else none
      | none => none
    | _ => none

mutual
/-- The cells of a value of this type. -/
def TyC : Ty → List AV → Prop
  | .bool, cs => ∃ b, cs = [.val (.bool b)]
  | .int k, cs => ∃ n, cs = [.val (.int k n)] ∧ (Lit.int k n).wf = true
  | .str, cs => ∃ s : ByteArray, cs = [.val (.string s)] ∧ s.size ≤ reachBytes
  | .slice e, cs => ∃ rows : List (List AV), cs = [.list e.sz .plain rows] ∧ rows.length ≤ reachBytes ∧ ∀ r ∈ rows, TyC e r
  | .arr n e, cs => ∃ rows : List (List AV), cs = rows.flatten ∧ rows.length = n ∧ ∀ r ∈ rows, TyC e r
  | .st fs, cs => TyCs fs cs
def TyCs : List Ty → List AV → Prop
  | [], cs => cs = []
  | τ :: τs, cs => ∃ a b, cs = a ++ b ∧ TyC τ a ∧ TyCs τs b
end

theorem flatten_len {α : Type} {n : Nat} : ∀ {rows : List (List α)}, (∀ r ∈ rows, r.length = n) → rows.flatten.length = rows.length * n
  | [], _ => by simp
  | r :: rows, h => by
    simp only [List.flatten_cons, List.length_append, List.length_cons, Nat.succ_mul]
    rw [flatten_len (rows := rows) (fun r hr => h r (by simp [hr])), h r (by simp)]
    omega

mutual
theorem TyC_len : ∀ {τ : Ty} {cs : List AV}, TyC τ cs → cs.length = τ.sz
  | .bool, _, h => by obtain ⟨b, rfl⟩ := h; rfl
  | .int _, _, h => by obtain ⟨b, rfl, _⟩ := h; rfl
  | .str, _, h => by obtain ⟨b, rfl, _⟩ := h; rfl
  | .slice _, _, h => by obtain ⟨b, rfl, _⟩ := h; rfl
  | .arr n e, _, h => by
    obtain ⟨rows, rfl, rfl, h⟩ := h
    rw [flatten_len (fun r hr => TyC_len (h r hr))]; rfl
  | .st fs, _, h => TyCs_len (show TyCs fs _ from h)
theorem TyCs_len : ∀ {τs : List Ty} {cs : List AV}, TyCs τs cs → cs.length = Ty.szs τs
  | [], _, h => by rw [show _ = [] from h]; rfl
  | τ :: τs, _, h => by
    obtain ⟨a, b, rfl, h1, h2⟩ := h
    rw [List.length_append, TyC_len h1, TyCs_len h2]; rfl
end

section
variable {H : Type} {enc : TypeId × Value → H} {P : Program} {w : World}

abbrev PI (ps : List MemPlace) : Nat → Nat → Prop := fun b o => MemPlace.cell b o ∈ ps

/-- 'xs' are the abstract values of the cells 'cs', which lie in 'ps'. -/
def Stand (w : World) (ps : List MemPlace) (xs : List AV) (cs : List Value) : Prop :=
  xs.length = cs.length ∧ ∀ (i : Nat) x, xs[i]? = some x → R0 (PI ps) w x (cs.getD i undef) ∧ single (cs.getD i undef) = true

theorem Stand.mono {ps qs : List MemPlace} {xs : List AV} {cs : List Value} (h : Stand w ps xs cs) (hs : ∀ p ∈ ps, p ∈ qs) : Stand w qs xs cs :=
  ⟨h.1, fun i x hx => ⟨(h.2 i x hx).1.mono (fun _ _ hp => hs _ hp) (fun _ _ _ _ h => h), (h.2 i x hx).2⟩⟩
theorem Stand.append {ps : List MemPlace} {xs ys : List AV} {cs ds : List Value} (h : Stand w ps xs cs) (k : Stand w ps ys ds) : Stand w ps (xs ++ ys) (cs ++ ds) := by
  refine ⟨by simp [h.1, k.1], fun i x hx => ?_⟩
  by_cases hi : i < xs.length
  · rw [List.getElem?_append_left hi] at hx
    have : (cs ++ ds).getD i undef = cs.getD i undef := by simp only [List.getD]; rw [List.getElem?_append_left (by rw [← h.1]; exact hi)]
    rw [this]; exact h.2 i x hx
  · rw [List.getElem?_append_right (by omega)] at hx
    have : (cs ++ ds).getD i undef = ds.getD (i - xs.length) undef := by simp only [List.getD]; rw [List.getElem?_append_right (by rw [← h.1]; omega), h.1]
    rw [this]; exact k.2 _ x hx
theorem Stand.one {ps : List MemPlace} {x : AV} {v : Value} (h : R0 (PI ps) w x v) (hs : single v = true) : Stand w ps [x] [v] := by
  refine ⟨rfl, fun i y hy => ?_⟩
  cases i with
  | zero => simp at hy; subst hy; exact ⟨h, hs⟩
  | succ i => simp at hy
theorem Stand.nil {ps : List MemPlace} : Stand w ps [] [] := ⟨rfl, fun i x h => by simp at h⟩

theorem stand_flat {ps : List MemPlace} {n : Nat} : ∀ {rows : List (List AV)} {cs : List Value}, cs.length = rows.length * n →
    (∀ i r, rows[i]? = some r → Stand w ps r ((cs.drop (i * n)).take n)) → Stand w ps rows.flatten cs
  | [], cs, hl, _ => by
    have : cs = [] := List.eq_nil_of_length_eq_zero (by simpa using hl)
    subst this
    exact Stand.nil
  | r :: rows, cs, hl, h => by
    simp only [List.length_cons, Nat.succ_mul] at hl
    have h0 := h 0 r rfl
    simp only [Nat.zero_mul, List.drop_zero] at h0
    have ih := stand_flat (ps := ps) (n := n) (rows := rows) (cs := cs.drop n) (by simp; omega) (fun i q hq => by
      have := h (i + 1) q (by simpa using hq)
      rw [List.drop_drop]
      rwa [Nat.succ_mul, Nat.add_comm] at this)
    have := h0.append ih
    rwa [List.take_append_drop] at this

theorem cells_of {base : Nat} {a : Addr} {n : Nat} {cs : List Value} (h : w.cells? base a n = some cs) : cs.length = n ∧ ∀ i, i < n → w.cell? (a.add i) = cs[i]? := by
  unfold World.cells? at h
  split at h
  · refine ⟨by simpa using mapM_some_length h, fun i hi => mapM_some_get h i i (by simp [hi])⟩
  · cases h

/-- The weights of the parts are among those of the whole. -/
abbrev Sized (P : Program) (t : TypeId) (d : DataW H) : Prop := (d.weights P t).all (· ≤ reachBytes) = true
theorem sized_all {P : Program} {e : TypeId} : ∀ {ds : List (DataW H)}, (DataW.weightsAll P e ds).all (· ≤ reachBytes) = true → ∀ d ∈ ds, Sized P e d
  | [], _, _, h => by cases h
  | d :: ds, h, q, hq => by
    simp only [DataW.weightsAll, List.all_append, Bool.and_eq_true] at h
    rcases List.mem_cons.1 hq with rfl | hq
    · exact h.1
    · exact sized_all h.2 q hq
theorem sized_each {P : Program} : ∀ {ts : List TypeId} {ds : List (DataW H)}, (DataW.weightsEach P ts ds).all (· ≤ reachBytes) = true → ∀ (i : Nat) t d, ts[i]? = some t → ds[i]? = some d → Sized P t d
  | [], _, _, i, t, d, h1, _ => by simp at h1
  | t :: ts, [], _, i, _, _, _, h2 => by simp at h2
  | t :: ts, d :: ds, h, i, t', d', h1, h2 => by
    simp only [DataW.weightsEach, List.all_append, Bool.and_eq_true] at h
    cases i with
    | zero => simp at h1 h2; subst h1; subst h2; exact h.1
    | succ i => simp at h1 h2; exact sized_each h.2 i _ _ h1 h2

theorem choose_list {α β : Type} {Q : Nat → α → β → Prop} : ∀ {l : List α} (k : Nat), (∀ i a, l[i]? = some a → ∃ b, Q (k + i) a b) → ∃ m : List β, m.length = l.length ∧ ∀ i a b, l[i]? = some a → m[i]? = some b → Q (k + i) a b
  | [], _, _ => ⟨[], rfl, fun i a b h => by simp at h⟩
  | a :: l, k, h => by
    obtain ⟨b, hb⟩ := h 0 a rfl
    obtain ⟨m, h1, h2⟩ := choose_list (l := l) (k + 1) (fun i a ha => by
      have := h (i + 1) a (by simpa using ha)
      rwa [show k + 1 + i = k + (i + 1) by omega])
    refine ⟨b :: m, by simp [h1], fun i a' b' ha hb' => ?_⟩
    cases i with
    | zero => simp at ha hb'; subst ha; subst hb'; exact hb
    | succ i =>
      simp at ha hb'
      have := h2 i a' b' ha hb'
      rwa [show k + 1 + i = k + (i + 1) by omega] at this

theorem stand_fields {ps : List MemPlace} {n : Nat} {f : TypeId → Option Ty} {cs : List Value} : ∀ {fs : List Field} {τs : List Ty} {off : Nat} {xs : List (DataW H × List MemPlace)}, fieldsTy P f off fs = some τs → xs.length = fs.length → cs.length = off + Ty.szs τs →
    (∀ (i : Nat) (g : Field) x, fs[i]? = some g → xs[i]? = some x → (∀ p ∈ x.2, p ∈ ps) ∧ ∀ τ, f g.type = some τ → ∃ ys, TyC τ ys ∧ Stand w x.2 ys ((cs.drop g.offset).take (P.cellsOf g.type))) →
    ∃ ys, TyCs τs ys ∧ Stand w ps ys (cs.drop off)
  | [], τs, off, xs, h, _, hl, _ => by
    simp only [fieldsTy, Option.some.injEq] at h
    subst h
    simp only [Ty.szs, Nat.add_zero] at hl
    rw [List.drop_of_length_le (by omega)]
    exact ⟨[], rfl, Stand.nil⟩
  | g :: fs, τs, off, xs, h, hx, hl, hf => by
    simp only [fieldsTy] at h
    split at h
    · rename_i τ hτ
      split at h
      · rename_i hc
        cases hr : fieldsTy P f (off + τ.sz) fs with
        | none => simp [hr] at h
        | some τr =>
          simp only [hr, Option.map_some, Option.some.injEq] at h
          subst h
          cases xs with
          | nil => simp at hx
          | cons x xs =>
            simp only [Ty.szs] at hl
            obtain ⟨h1, h2⟩ := hf 0 g x rfl rfl
            obtain ⟨ys, hy1, hy2⟩ := h2 τ hτ
            obtain ⟨zs, hz1, hz2⟩ := stand_fields (ps := ps) (n := n) hr (by simpa using hx) (by omega) (fun i g' x' hg hx' => hf (i + 1) g' x' (by simpa using hg) (by simpa using hx'))
            refine ⟨ys ++ zs, ⟨ys, zs, rfl, hy1, hz1⟩, ?_⟩
            have := (hy2.mono h1).append hz2
            rw [hc.1, hc.2, ← List.drop_drop] at this
            rwa [List.take_append_drop] at this
      · cases h
    · cases h

set_option maxHeartbeats 1000000 in
theorem stand_of {held : Bool} : ∀ (n m : Nat) (t : TypeId) (τ : Ty) (cs : List Value) (d : DataW H) (ps : List MemPlace), tyOf P m t = some τ →
    DataW.trod enc P w 0 (fun _ => true) held n t cs = some (d, ps) → Sized P t d → ∃ xs, TyC τ xs ∧ Stand w ps xs cs
  | 0, _, _, _, _, _, _, _, h, _ => by simp [DataW.trod] at h
  | n + 1, 0, _, _, _, _, _, h, _, _ => by cases h
  | n + 1, m + 1, t, τ, cs, d, ps, hτ, h, hw => by
    simp only [tyOf] at hτ
    split at hτ <;> rename_i hu
    · cases hτ
      obtain ⟨b, rfl, hx⟩ := DataW.trod_bool hu h
      exact ⟨[.val (.bool b)], ⟨b, rfl⟩, Stand.one (.val _) rfl⟩
    · cases hτ
      obtain ⟨k, rfl, hx, hwf⟩ := DataW.trod_int hu h
      exact ⟨[.val (.int _ k)], ⟨k, rfl, hwf⟩, Stand.one (.val _) rfl⟩
    · cases hτ
      obtain ⟨s, rfl, hx, _⟩ := DataW.trod_string hu h
      simp only [Prod.mk.injEq] at hx
      obtain ⟨rfl, rfl⟩ := hx
      refine ⟨[.val (.string s)], ⟨s, rfl, ?_⟩, Stand.one (.val _) rfl⟩
      simp [Sized, DataW.weights] at hw
      exact hw
    · rename_i e
      split at hτ
      · rename_i σ hσ
        split at hτ
        · rename_i hc
          cases hτ
          rcases DataW.trod_slice hu h with ⟨rfl, hx⟩ | ⟨a, len, cap, elems, rest, n', hn, rfl, hx, _, hlc, hcm, hlen, hel, _, _⟩
          · exact ⟨[.list σ.sz .plain []], ⟨[], rfl, by simp, by simp⟩, Stand.one (.listNil _ _ _ _ (fun h => by cases h) (fun _ h => by cases h)) rfl⟩
          · cases hn
            simp only [Prod.mk.injEq] at hx
            obtain ⟨rfl, rfl⟩ := hx
            simp only [Sized, DataW.weights, hu, List.all_cons, List.all_append, Bool.and_eq_true, decide_eq_true_eq] at hw
            obtain ⟨hw1, hw2, _⟩ := hw
            have hsz := sized_all hw2
            obtain ⟨rows, hr1, hr2⟩ := choose_list (l := elems) (Q := fun i y r => TyC σ r ∧ ∃ c, w.cells? 0 (a.add (i * P.cellsOf e)) (P.cellsOf e) = some c ∧ Stand w y.2 r c) 0 (fun i y hy => by
              have hi : i < len := by have := (List.getElem?_eq_some_iff.1 hy).1; omega
              have := hel i hi
              rw [hy, Option.bind_eq_some_iff] at this
              obtain ⟨c, hc1, hc2⟩ := this
              obtain ⟨xs, hx1, hx2⟩ := stand_of n m e σ c y.1 y.2 hσ hc2 (hsz y.1 (List.mem_map.2 ⟨y, List.mem_of_getElem? hy, rfl⟩))
              exact ⟨xs, hx1, c, by rw [Nat.zero_add]; exact hc1, hx2⟩)
            simp only [Nat.zero_add] at hr2
            have hlr : rows.length = len := by omega
            refine ⟨[.list σ.sz .plain rows], ⟨rows, rfl, ?_, fun r hr => ?_⟩, Stand.one ?_ rfl⟩
            · have h1 : (elems.length + rest.length) * P.bytesOf e ≤ reachBytes := by simpa using hw1
              have h2 : elems.length + rest.length ≤ (elems.length + rest.length) * P.bytesOf e := Nat.le_mul_of_pos_right _ hc.2.2
              omega
            · obtain ⟨i, hi⟩ := List.mem_iff_getElem?.1 hr
              have hil : i < elems.length := by have := (List.getElem?_eq_some_iff.1 hi).1; omega
              exact (hr2 i elems[i] r (by simp [hil]) hi).1
            · by_cases h0 : len = 0
              · have : rows = [] := List.eq_nil_of_length_eq_zero (by omega)
                subst this
                subst h0
                exact .listNil _ _ _ _ (fun h => by cases h) (fun _ h => by cases h)
              · have get : ∀ (i : Nat) (r : List AV), rows[i]? = some r → ∃ y c, elems[i]? = some y ∧ TyC σ r ∧ w.cells? 0 (a.add (i * P.cellsOf e)) (P.cellsOf e) = some c ∧ Stand w y.2 r c := fun i r hi => by
                  have hil : i < elems.length := by have := (List.getElem?_eq_some_iff.1 hi).1; omega
                  obtain ⟨g1, c, g2, g3⟩ := hr2 i elems[i] r (by simp [hil]) hi
                  exact ⟨elems[i], c, by simp [hil], g1, g2, g3⟩
                obtain ⟨b, o, spot⟩ := a
                have hspot : spot = none := by
                  obtain ⟨y, c, g1, g2, g3, g4⟩ := get 0 rows[0] (List.getElem?_eq_getElem (by omega))
                  have g5 := (cells_of g3).2 0 (by omega)
                  have g6 := (cells_of g3).1
                  rw [List.getElem?_eq_getElem (by omega)] at g5
                  simpa [Addr.add] using World.cell?_spot g5
                subst hspot
                have hget : ∀ (i : Nat) (r : List AV) (j : Nat) (x : AV), rows[i]? = some r → r[j]? = some x → ∃ y v, elems[i]? = some y ∧ i < len ∧ j < σ.sz ∧ w.cell? ⟨b, o + i * σ.sz + j, none⟩ = some v ∧ R0 (PI y.2) w x v ∧ single v = true := fun i r j x hi hj => by
                  obtain ⟨y, c, g1, g2, g3, g4⟩ := get i r hi
                  obtain ⟨g5, g6⟩ := cells_of g3
                  have hjl : j < σ.sz := by have := (List.getElem?_eq_some_iff.1 hj).1; have := TyC_len g2; omega
                  have g7 := g6 j (by omega)
                  have hjc : j < c.length := by omega
                  rw [List.getElem?_eq_getElem hjc] at g7
                  obtain ⟨k1, k2⟩ := g4.2 j x hj
                  have : c.getD j undef = c[j] := by simp [hjc]
                  rw [this] at k1 k2
                  refine ⟨y, c[j], g1, ?_, hjl, ?_, k1, k2⟩
                  · have := (List.getElem?_eq_some_iff.1 hi).1; omega
                  · rw [← g7, hc.2.1, addr_add, addr_add]
                rw [← hlr]
                refine .list _ _ _ _ _ _ (fun i j => ((w.cell? ⟨b, o + i * σ.sz + j, none⟩).getD undef)) (by omega) (fun h => by cases h) (fun _ h => by cases h) (fun i r hi => ?_) (fun i r j x hi hj => ?_) (fun i r j x hi hj => ?_)
                · obtain ⟨_, _, _, g2, _⟩ := get i r hi
                  exact TyC_len g2
                · obtain ⟨y, v, g1, gi, gj, g2, g3, g4⟩ := hget i r j x hi hj
                  rw [g2]
                  refine ⟨?_, rfl, g4⟩
                  refine List.mem_append_left _ (MemPlace.mem_row.2 ⟨i * σ.sz + j, ?_, ?_⟩)
                  · rw [hc.2.1]
                    have h1 : i + 1 ≤ elems.length + rest.length := by omega
                    have h2 := Nat.mul_le_mul_right σ.sz h1
                    rw [Nat.succ_mul] at h2
                    omega
                  · simp only [MemPlace.cell.injEq, true_and]; omega
                · obtain ⟨y, v, g1, gi, gj, g2, g3, g4⟩ := hget i r j x hi hj
                  rw [g2]
                  refine g3.mono (fun b' o' hp => ?_) (fun _ _ _ _ h => h)
                  exact List.mem_append_right _ (List.mem_flatMap.2 ⟨y, List.mem_append_left _ (List.mem_of_getElem? g1), hp⟩)
        · cases hτ
      · cases hτ
    · rename_i k e
      split at hτ
      · rename_i σ hσ
        split at hτ
        · rename_i hc
          cases hτ
          obtain ⟨xs, n', hn, hx, hcl, hxl, hel⟩ := DataW.trod_array hu h
          cases hn
          simp only [Prod.mk.injEq] at hx
          obtain ⟨rfl, rfl⟩ := hx
          simp only [Sized, DataW.weights, hu] at hw
          have hsz := sized_all hw
          obtain ⟨rows, hr1, hr2⟩ := choose_list (l := xs) (Q := fun i y r => TyC σ r ∧ Stand w y.2 r ((cs.drop (i * P.cellsOf e)).take (P.cellsOf e))) 0 (fun i y hy => by
            have hi : i < k := by have := (List.getElem?_eq_some_iff.1 hy).1; omega
            have := hel i hi
            rw [hy] at this
            rw [Nat.zero_add]
            exact stand_of n m e σ _ y.1 y.2 hσ this (hsz y.1 (List.mem_map.2 ⟨y, List.mem_of_getElem? hy, rfl⟩)))
          simp only [Nat.zero_add] at hr2
          refine ⟨rows.flatten, ⟨rows, rfl, by omega, fun r hr => ?_⟩, ?_⟩
          · obtain ⟨i, hi⟩ := List.mem_iff_getElem?.1 hr
            have hil : i < xs.length := by have := (List.getElem?_eq_some_iff.1 hi).1; omega
            exact (hr2 i xs[i] r (by simp [hil]) hi).1
          · refine stand_flat (n := σ.sz) (by rw [hcl, hc.2, hr1, hxl]) (fun i r hi => ?_)
            have hil : i < xs.length := by have := (List.getElem?_eq_some_iff.1 hi).1; omega
            have := (hr2 i xs[i] r (by simp [hil]) hi).2
            rw [hc.1] at this
            exact this.mono (fun p hp => List.mem_flatMap.2 ⟨xs[i], List.getElem_mem _, hp⟩)
        · cases hτ
      · cases hτ
    · rename_i fs
      split at hτ
      · rename_i τs hσ
        split at hτ
        · rename_i hc
          cases hτ
          obtain ⟨xs, n', hn, hx, hcl, hxl, hel⟩ := DataW.trod_struct hu h
          cases hn
          simp only [Prod.mk.injEq] at hx
          obtain ⟨rfl, rfl⟩ := hx
          simp only [Sized, DataW.weights, hu] at hw
          have := stand_fields (P := P) (w := w) (ps := xs.flatMap (·.2)) (n := n) (cs := cs) hσ (by simpa using hxl) (by rw [hcl, hc]; omega) (fun i g x hg hx => by
            have hg' : fs[i]? = some g := by simpa using hg
            have h1 := hel i g hg'
            rw [hx] at h1
            refine ⟨fun p hp => List.mem_flatMap.2 ⟨x, List.mem_of_getElem? hx, hp⟩, fun τ hτ => ?_⟩
            exact stand_of n m g.type τ _ x.1 x.2 hτ h1 (sized_each hw i g.type x.1 (by simp [hg']) (by simp [hx])))
          obtain ⟨ys, h1, h2⟩ := this
          exact ⟨ys, h1, by simpa using h2⟩
        · cases hτ
      · cases hτ
    · cases hτ
end
end Go.Am

namespace Go.Am
open Go.RowKit Go.ChangeShapes Go.WideShapes

/-- A value of this type. -/
def AVTy : Ty → AV → Prop
  | .arr n e, x => ∃ cs, x = .agg cs ∧ TyC (.arr n e) cs
  | .st fs, x => ∃ cs, x = .agg cs ∧ TyC (.st fs) cs
  | τ, x => TyC τ [x]
def TyAll : List Ty → List AV → Prop
  | [], [] => True
  | τ :: τs, x :: xs => AVTy τ x ∧ TyAll τs xs
  | _, _ => False

section
variable {H : Type} {enc : TypeId × Value → H} {P : Program} {W : World}

theorem stand_agg {ps : List MemPlace} {xs : List AV} {cs : Array Value} (h : Stand W ps xs cs.toList) : R0 (PI ps) W (.agg xs) (.agg cs) := by
  obtain ⟨h1, h2⟩ := h
  simp only [Array.length_toList] at h1
  have hg : ∀ i, cs.toList.getD i undef = cs.getD i undef := fun i => by simp [List.getD, Array.getD_eq_getD_getElem?]
  refine .agg _ _ h1.symm ?_ (fun i x hx => ?_)
  · rw [Array.all_eq_true]
    intro i hi
    obtain ⟨_, h4⟩ := h2 i xs[i] (by simp [h1, hi])
    rw [hg] at h4
    simpa [hi] using h4
  · obtain ⟨h3, _⟩ := h2 i x hx
    rw [hg] at h3
    exact h3

theorem arg_stand {m : Nat} {t : TypeId} {τ : Ty} {v : Value} {d : DataW H} {ps : List MemPlace} {r : Reach} {base : Nat} (hτ : tyOf P m t = some τ) (hok : Value.okWide P W r base t v)
    (h : DataW.Trod enc P W 0 (fun _ => true) true t v d ps) (hw : Sized P t d) : ∃ x, AVTy τ x ∧ R0 (PI ps) W x v := by
  obtain ⟨n, hn⟩ := h
  obtain ⟨xs, h1, h2⟩ := stand_of n m t τ _ d ps hτ hn hw
  have one : v.cells = #[v] → (∃ x, xs = [x]) → ∃ x, TyC τ [x] ∧ R0 (PI ps) W x v := by
    rintro hv ⟨x, rfl⟩
    obtain ⟨h3, _⟩ := h2.2 0 x rfl
    rw [hv] at h3
    exact ⟨x, h1, h3⟩
  cases m with
  | zero => cases hτ
  | succ m =>
    simp only [tyOf] at hτ
    split at hτ <;> rename_i hu
    · cases hτ
      obtain ⟨b, rfl⟩ := h1
      refine one ?_ ⟨_, rfl⟩
      simp only [Value.okWide, hu, Cell.okWide, Cell.ok] at hok
      cases v <;> first | rfl | exact hok.elim
    · cases hτ
      obtain ⟨b, rfl, hb⟩ := h1
      have := one ?_ ⟨_, rfl⟩
      · exact this
      simp only [Value.okWide, hu, Cell.okWide, Cell.ok] at hok
      cases v <;> first | rfl | exact hok.elim
    · cases hτ
      obtain ⟨b, rfl, hb⟩ := h1
      have := one ?_ ⟨_, rfl⟩
      · exact this
      simp only [Value.okWide, hu, Cell.okWide, Cell.ok] at hok
      cases v <;> first | rfl | exact hok.elim
    · split at hτ
      · split at hτ
        · cases hτ
          obtain ⟨rows, rfl, hb⟩ := h1
          have := one ?_ ⟨_, rfl⟩
          · exact this
          simp only [Value.okWide, hu, Cell.okWide, Cell.ok] at hok
          cases v <;> first | rfl | exact hok.elim
        · cases hτ
      · cases hτ
    · split at hτ
      · split at hτ
        · cases hτ
          simp only [Value.okWide, hu] at hok
          obtain ⟨cs, rfl, _⟩ := hok
          exact ⟨.agg xs, ⟨xs, rfl, h1⟩, stand_agg h2⟩
        · cases hτ
      · cases hτ
    · split at hτ
      · split at hτ
        · cases hτ
          simp only [Value.okWide, hu] at hok
          obtain ⟨cs, rfl, _⟩ := hok
          exact ⟨.agg xs, ⟨xs, rfl, h1⟩, stand_agg h2⟩
        · cases hτ
      · cases hτ
    · cases hτ

theorem args_stand {m : Nat} {r : Reach} {base : Nat} : ∀ {ts : List TypeId} {τs : List Ty} {vs : List Value} {ds : List (DataW H)} {ps : List MemPlace}, mapO (tyOf P m) ts = some τs →
    (∀ (j : Nat) t v, ts[j]? = some t → vs[j]? = some v → Value.okWide P W r base t v) → DataW.TrodAll enc P W 0 (fun _ => true) true ts vs ds ps →
    (∀ (j : Nat) t d, ts[j]? = some t → ds[j]? = some d → Sized P t d) →
    ∃ xs, TyAll τs xs ∧ xs.length = vs.length ∧ ds.length = ts.length ∧ ∀ (i : Nat) x, xs[i]? = some x → R0 (PI ps) W x (vs.getD i undef)
  | [], τs, vs, ds, ps, h, _, hA, _ => by
    simp only [mapO, Option.some.injEq] at h
    subst h
    match vs, ds, hA with
    | [], [], _ => exact ⟨[], trivial, rfl, rfl, fun i x hx => by simp at hx⟩
  | t :: ts, τs, vs, ds, ps, h, hv, hA, hs => by
    simp only [mapO] at h
    split at h
    · rename_i τ hτ
      cases hr : mapO (tyOf P m) ts with
      | none => simp [hr] at h
      | some σs =>
        simp only [hr, Option.map_some, Option.some.injEq] at h
        subst h
        match vs, ds, hA with
        | v :: vs, d :: ds, ⟨p, q, h1, h2, e⟩ =>
          obtain ⟨x, a1, a2⟩ := arg_stand hτ (hv 0 t v rfl rfl) h1 (hs 0 t d rfl rfl)
          obtain ⟨xs, b1, b2, b3, b4⟩ := args_stand hr (fun j t' v' ht hv' => hv (j + 1) t' v' (by simpa using ht) (by simpa using hv')) h2 (fun j t' d' ht hd => hs (j + 1) t' d' (by simpa using ht) (by simpa using hd))
          subst e
          refine ⟨x :: xs, ⟨a1, b1⟩, by simp [b2], by simp [b3], fun i y hy => ?_⟩
          cases i with
          | zero =>
            simp at hy
            subst hy
            simp only [List.getD_cons_zero]
            exact a2.mono (fun _ _ hp => List.mem_append_left _ hp) (fun _ _ _ _ h => h)
          | succ i =>
            simp at hy
            simp only [List.getD_cons_succ]
            exact (b4 i y hy).mono (fun _ _ hp => List.mem_append_right _ hp) (fun _ _ _ _ h => h)
    · cases h

theorem trodAll_below {W' : World} (hl : laidOutB P = true) (hb : Below W.heap.size W W') : ∀ {ts : List TypeId} {vs : List Value} {ds : List (DataW H)} {ps : List MemPlace},
    (∀ t ∈ ts, P.readableRec t = true ∧ t < P.types.size) → DataW.TrodAll enc P W 0 (fun _ => true) true ts vs ds ps → (∀ x ∈ ps, x.block < W.heap.size) →
    DataW.TrodAll enc P W' 0 (fun b => decide (b < W.heap.size)) true ts vs ds ps
  | [], [], [], _, _, h, _ => h
  | t :: ts, v :: vs, d :: ds, _, ht, ⟨p, q, h1, h2, e⟩, hlt => by
    subst e
    exact ⟨p, q, Below.trod hl (ht t (by simp)).1 (ht t (by simp)).2 h1 hb (fun x hx => hlt x (List.mem_append_left _ hx)),
      trodAll_below hl hb (fun t h => ht t (by simp [h])) h2 (fun x hx => hlt x (List.mem_append_right _ hx)), rfl⟩

/-- What a law's contract gives. -/
theorem law_calls {f : FuncId} {fn : Func} {s : ChangeSpec} {tb : TypeId} {τs : List Ty} (hl : laidOutB P = true) (hty : mapO (tyOf P 20) fn.params.toList = some τs)
    (hread : (fn.params.toList.all fun t => P.readableRec t && decide (t < P.types.size)) = true) (hres : fn.resultTypes = #[tb]) (hub : P.underlying tb = some .bool) (hvars : s.vars = [])
    (hfn : ∀ ds : List (DataW H), ds.length = fn.params.toList.length → (s.fn H (ds ++ [])).results = [.lit (.bool true)] ∧ (s.fn H (ds ++ [])).args = ds ∧ (s.fn H (ds ++ [])).vars = [])
    (hcall : ∀ xs, TyAll τs xs → SoundCall P f xs (bv true)) {base : Nat} {args : Array Value} {ds gs : List (DataW H)} {before : List MemPlace}
    (hval : ∀ (j : Nat) t v, fn.params[j]? = some t → args[j]? = some v → Value.okWide P W .any base t v)
    (hW : DataW.Whole enc P fn.params.toList s.vars false W args.toList ds gs before)
    (hsz : (DataW.weightsEach P (fn.params.toList ++ s.plain.varTypes P) (ds ++ gs)).all (· ≤ reachBytes) = true) :
    Calls P f args W fun e W' => ∃ v, e = .returned v ∧ s.post enc P fn false true false false W args v W' := by
  have hW' := hW
  obtain ⟨p, q, hA, hV, rfl, _, _⟩ := hW
  rw [hvars] at hV
  obtain ⟨rfl, rfl⟩ := trodVars_none hV
  have hsz' : ∀ (j : Nat) t d, fn.params.toList[j]? = some t → ds[j]? = some d → Sized P t d := fun j t d ht hd => by
    refine sized_each hsz j t d ?_ ?_
    · rw [List.getElem?_append_left (List.getElem?_eq_some_iff.1 ht).1]; exact ht
    · rw [List.getElem?_append_left (List.getElem?_eq_some_iff.1 hd).1]; exact hd
  obtain ⟨xs, h1, h2, h3, h4⟩ := args_stand (r := .any) (base := base) hty (fun j t v ht hv => hval j t v (by simpa using ht) (by simpa using hv)) hA hsz'
  have hlt : ∀ x ∈ p, x.block < W.heap.size := fun x hx => by simpa using hW'.lt x (List.mem_append_left _ hx)
  refine (hcall xs h1 (PI p) args W (fun b o hb => hlt _ hb) (by simp [h2]) (fun i x hx => ?_)).mono fun e W' ⟨v, he, hb, hR⟩ => ?_
  · have := h4 i x hx
    have e : args.toList.getD i undef = args.getD i undef := by simp [List.getD, Array.getD_eq_getD_getElem?]
    rwa [e] at this
  · have hv : v = .bool true := R0.val_eq hR
    subst hv
    obtain ⟨f1, f2, f3⟩ := hfn ds h3
    have hread' : ∀ t ∈ fn.params.toList, P.readableRec t = true ∧ t < P.types.size := fun t ht => by
      have := List.all_eq_true.1 hread t ht
      simpa using this
    refine ⟨_, he, ds, [], p ++ [], [] ++ [], p, [], hW', ?_, ?_, ?_, hb.frame _, fun h => by cases h⟩
    · rw [f1, hres]
      exact trodAll_mk1 (shut_bool hub _)
    · rw [f2]; exact trodAll_below hl hb hread' hA hlt
    · rw [f3, hvars]; rfl
end
end Go.Am

namespace Go.Am
/-- Rows of numbers of one kind. -/
theorem ints_rows {k : IntKind} : ∀ {rows : List (List AV)}, (∀ r ∈ rows, TyC (.int k) r) → ∃ a : List Int, rows = a.map (fun n => [.val (.int k n)]) ∧ ∀ n ∈ a, (Lit.int k n).wf = true
  | [], _ => ⟨[], rfl, by simp⟩
  | r :: rows, h => by
    obtain ⟨a, rfl, h2⟩ := ints_rows (rows := rows) (fun r hr => h r (by simp [hr]))
    obtain ⟨n, rfl, h3⟩ := h r (by simp)
    exact ⟨n :: a, rfl, by simpa using ⟨h3, h2⟩⟩
theorem flatten_ones {α β : Type} (f : α → β) : ∀ (a : List α), (a.map (fun n => [f n])).flatten = a.map f
  | [] => rfl
  | x :: a => by simp [flatten_ones f a]
theorem TyC_ints {k : IntKind} {n : Nat} {cs : List AV} (h : TyC (.arr n (.int k)) cs) : ∃ a : List Int, cs = a.map (fun n => .val (.int k n)) ∧ a.length = n ∧ ∀ n ∈ a, (Lit.int k n).wf = true := by
  obtain ⟨rows, rfl, rfl, h⟩ := h
  obtain ⟨a, rfl, h2⟩ := ints_rows h
  exact ⟨a, flatten_ones _ a, by simp, h2⟩
/-- Rows, one by one. -/
theorem rows_map {α : Type} {τ : Ty} (f : α → List AV) (Q : α → Prop) (one : ∀ r, TyC τ r → ∃ x, r = f x ∧ Q x) : ∀ {rows : List (List AV)}, (∀ r ∈ rows, TyC τ r) → ∃ a : List α, rows = a.map f ∧ ∀ x ∈ a, Q x
  | [], _ => ⟨[], rfl, by simp⟩
  | r :: rows, h => by
    obtain ⟨a, rfl, h2⟩ := rows_map f Q one (rows := rows) (fun r hr => h r (by simp [hr]))
    obtain ⟨x, rfl, h3⟩ := one r (h r (by simp))
    exact ⟨x :: a, rfl, by simpa using ⟨h3, h2⟩⟩
theorem TyAll_one {a : Ty} {xs : List AV} (h : TyAll [a] xs) : ∃ x, xs = [x] ∧ AVTy a x := by
  match xs, h with
  | [x], h => exact ⟨x, rfl, h.1⟩
theorem TyAll_two {a b : Ty} {xs : List AV} (h : TyAll [a, b] xs) : ∃ x y, xs = [x, y] ∧ AVTy a x ∧ AVTy b y := by
  match xs, h with
  | [x, y], h => exact ⟨x, y, rfl, h.1, h.2.1⟩
theorem TyAll_three {a b c : Ty} {xs : List AV} (h : TyAll [a, b, c] xs) : ∃ x y z, xs = [x, y, z] ∧ AVTy a x ∧ AVTy b y ∧ AVTy c z := by
  match xs, h with
  | [x, y, z], h => exact ⟨x, y, z, rfl, h.1, h.2.1, h.2.2.1⟩
theorem TyAll_four {a b c d : Ty} {xs : List AV} (h : TyAll [a, b, c, d] xs) : ∃ x y z u, xs = [x, y, z, u] ∧ AVTy a x ∧ AVTy b y ∧ AVTy c z ∧ AVTy d u := by
  match xs, h with
  | [x, y, z, u], h => exact ⟨x, y, z, u, rfl, h.1, h.2.1, h.2.2.1, h.2.2.2.1⟩
end Go.Am
namespace Go.Am
theorem AV.imp_nil {sz sz' : Nat} {m' : Mode} (hm : m' = .plain) : AV.imp (.list sz .full []) (.list sz' m' []) := fun I w v h => by
  subst hm
  cases h with
  | listNil _ _ a cap hm ho => exact .listNil _ _ _ _ (by simp) (by simp)
  | list _ _ _ b o cap g h1 h2 h3 h4 h5 h6 =>
    exact .listNil _ _ _ _ (by simp) (by simp)
theorem AV.imp_tuple2 {x x' y : AV} (h : AV.imp x x') : AV.imp (.tuple [x, y]) (.tuple [x', y]) := fun I w v hv => by
  cases hv with
  | tuple cells vs hs hc =>
    refine .tuple _ _ (by simpa using hs) fun i c hi => ?_
    match i, hi with
    | 0, hi => simp at hi; subst hi; exact h _ _ _ (hc 0 x rfl)
    | 1, hi => simp at hi; subst hi; exact hc 1 y rfl
    | i + 2, hi => simp at hi
end Go.Am
namespace Go.Am
attribute [simp] del_nil
@[simp] theorem unmetD_nil {σ : Nat → Option Entry} {s : St} : unmetD σ [] s = true := rfl
@[simp] theorem eAppendU_new {sz by_ d n sz' : Nat} {m : Mode} {rows : List (List AV)} {s : St} {K : St → Prop} :
    eAppendU sz by_ s (some d) K [.list n .full [], .list sz' m rows] = ((rows = [] ∨ sz' = sz) ∧ 0 < sz ∧ rows.length * by_ ≤ 140737488355328 ∧ rows.length ≤ 9223372036854775807 ∧ lk s.sto (s.base + d) = none ∧
      K (((s.dg (s.base + d)).put (some d) (.us (s.base + d) sz 0 rows.length)).new (some d) (some (.uarr sz (rowsDg (s.base + d) rows))))) := by
  simp [eAppendU, addRowsU, addRows]
@[simp] theorem eAppendU_more {sz by_ d l sz1 off len sz' : Nat} {m : Mode} {rows1 rows : List (List AV)} {s : St} {K : St → Prop} (h : lk s.sto l = some (.uarr sz rows1)) :
    eAppendU sz by_ s (some d) K [.us l sz1 off len, .list sz' m rows] = ((rows = [] ∨ sz' = sz) ∧ 0 < sz ∧ (len + rows.length) * by_ ≤ 140737488355328 ∧ len + rows.length ≤ 9223372036854775807 ∧ sz1 = sz ∧ off = 0 ∧ len = rows1.length ∧
      K ({ (s.dg l) with sto := pt (s.dg l).sto l (.uarr sz (rowsDg l (rows1 ++ rows))) }.put (some d) (.us l sz 0 (len + rows.length)))) := by
  simp [eAppendU, addRowsU, addRows, h]
theorem rowsRf_of {rows : List (List AV)} (h : ∀ r ∈ rows, r.all rf = true) : rowsRf rows = true := List.all_eq_true.mpr h
@[simp] theorem new_some {s : St} {d : Nat} {e : Entry} : s.new (some d) (some e) = ⟨s.env, pt s.sto (s.base + d) e, s.out, s.base⟩ := rfl
attribute [simp] rawA tup
end Go.Am
namespace Go.Am
/-- The end of a callee that may write. -/
def retI (ras : List ResA) (b : Nat) (K : AV → St → Prop) : Exit → St → Prop := fun e s' => (e = .normal ∨ e = .ret) ∧ ∃ xs e0 o0, mapO (rawA s') ras = some xs ∧ s'.out = e0 :: o0 ∧ K (tup xs) { env := e0, sto := s'.sto, out := o0, base := b }
@[simp] theorem retI_ret {ras : List ResA} {b : Nat} {K : AV → St → Prop} {env e0 : List (Nat × AV)} {sto : List (Nat × Entry)} {o0 : List (List (Nat × AV))} {B : Nat} :
    retI ras b K .ret ⟨env, sto, e0 :: o0, B⟩ = ∃ xs, mapO (rawA ⟨env, sto, e0 :: o0, B⟩) ras = some xs ∧ K (tup xs) ⟨e0, sto, o0, b⟩ := by
  simp only [retI, eq_iff_iff]
  constructor
  · rintro ⟨_, xs, e1, o1, h1, h2, h3⟩
    cases h2
    exact ⟨xs, h1, h3⟩
  · rintro ⟨xs, h1, h2⟩
    exact ⟨.inr trivial, xs, _, _, h1, rfl, h2⟩
@[simp] theorem retI_normal {ras : List ResA} {b : Nat} {K : AV → St → Prop} {env e0 : List (Nat × AV)} {sto : List (Nat × Entry)} {o0 : List (List (Nat × AV))} {B : Nat} :
    retI ras b K .normal ⟨env, sto, e0 :: o0, B⟩ = ∃ xs, mapO (rawA ⟨env, sto, e0 :: o0, B⟩) ras = some xs ∧ K (tup xs) ⟨e0, sto, o0, b⟩ := by
  simp only [retI, eq_iff_iff]
  constructor
  · rintro ⟨_, xs, e1, o1, h1, h2, h3⟩
    cases h2
    exact ⟨xs, h1, h3⟩
  · rintro ⟨xs, h1, h2⟩
    exact ⟨.inl trivial, xs, _, _, h1, rfl, h2⟩
theorem soundI' {P : Program} {f : FuncId} {ac : ACode} {ras : List ResA} {N : Nat} {args : List AV} {s : St} {K : AV → St → Prop} (B : Nat) (ht : transl P f = some (bare ac, ras, N)) (hn : args.length ≤ N)
    (h : awp P ac ⟨initE 0 args, s.sto, s.env :: s.out, B⟩ (retI ras s.base K)) : CallI P f args s K := soundI B ht hn h
end Go.Am
namespace Go.Am
@[simp] theorem eAppend_full {sz by_ d sz1 sz' : Nat} {m : Mode} {rows1 rows : List (List AV)} {s : St} {K : St → Prop} :
    eAppend sz by_ s (some d) K [.list sz1 .full rows1, .list sz' m rows] = ((rows = [] ∨ sz' = sz) ∧ 0 < sz ∧ (rows1.length + rows.length) * by_ ≤ 140737488355328 ∧ rows1.length + rows.length ≤ 9223372036854775807 ∧
      (rows1 = [] ∨ sz1 = sz) ∧ lk s.sto (s.base + d) = none ∧ K ((s.dg (s.base + d)).put (some d) (.list sz (.own (s.base + d)) (rows1 ++ rows)))) := by
  simp [eAppend, addRows]
@[simp] theorem eAppend_own {sz by_ d l sz1 sz' : Nat} {m : Mode} {rows1 rows : List (List AV)} {s : St} {K : St → Prop} :
    eAppend sz by_ s (some d) K [.list sz1 (.own l) rows1, .list sz' m rows] = ((rows = [] ∨ sz' = sz) ∧ 0 < sz ∧ (rows1.length + rows.length) * by_ ≤ 140737488355328 ∧ rows1.length + rows.length ≤ 9223372036854775807 ∧
      sz1 = sz ∧ lk s.sto l = none ∧ K ((s.dg l).put (some d) (.list sz (.own l) (rows1 ++ rows)))) := by
  simp [eAppend, addRows]
@[simp] theorem dg_own {l k sz : Nat} {rows : List (List AV)} : dg l (.list sz (.own k) rows) = if k = l then .list sz .plain rows else .list sz (.own k) rows := rfl
end Go.Am
namespace Go.Am
@[simp] theorem dg_iv {l : Nat} : dg l ∘ iv = iv := rfl
end Go.Am
