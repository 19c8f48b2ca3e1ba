/-
  The abstract machine, part 14: append, continued.
-/
import Derived.Test.YtljkjogggfdgiaaAm13
namespace Go.Am
open Go.RowKit

section
variable {P : Program} {F : Frame0} {e : Nat × Nat → Option AV} {σ : Nat → Option Entry} {I : Nat → Nat → Prop} {w : World} {β : Blocks} {lam : Owned} {a : Act} {o : Oper}
  {Q : Exit → Act → World → Prop}

theorem R.own_inv {sz l : Nat} {rows : List (List AV)} {v : Value} (h : R I w β lam (.list sz (.own l) rows) v) :
    ∃ av cap, v = .slice av rows.length cap ∧ lam l = some (av, rows.length, cap, sz) ∧ R0 I w (.list sz .plain rows) v := by
  cases h with
  | base h =>
    cases h with
    | listNil _ _ _ _ _ ho => exact absurd rfl (ho l)
    | list _ _ _ _ _ _ _ _ _ ho => exact absurd rfl (ho l)
  | own _ _ _ a cap h hl => exact ⟨a, cap, rfl, hl, h⟩

theorem own_of {sz l n cap : Nat} {rows : List (List AV)} {av : Option Addr} (h : R0 I w (.list sz .plain rows) (.slice av n cap)) (hn : n = rows.length)
    (hl : lam l = some (av, n, cap, sz)) : R I w β lam (.list sz (.own l) rows) (.slice av n cap) := by
  subst hn
  exact .own _ _ _ _ _ h hl

theorem RowsIn.append {sz : Nat} {r1 r2 : List (List AV)} {A B : List Value} (h1 : RowsIn I w sz r1 A.toArray) (h2 : RowsIn I w sz r2 B.toArray) : RowsIn I w sz (r1 ++ r2) (A ++ B).toArray := by
  have hA : A.length = r1.length * sz := by simpa using h1.1
  have hB : B.length = r2.length * sz := by simpa using h2.1
  refine ⟨by simp [hA, hB, Nat.add_mul], fun i r hi => ?_, fun i r j c hi hj => ?_⟩
  · rw [List.getElem?_append] at hi
    split at hi
    · exact h1.2.1 _ _ hi
    · exact h2.2.1 _ _ hi
  · rw [List.getElem?_append] at hi
    split at hi
    · rename_i hlt
      have hg := h1.get hi hj
      have := h1.2.2 i r j c hi hj
      have e : (A ++ B).toArray.getD (i * sz + j) undef = A.toArray.getD (i * sz + j) undef := by
        have : i * sz + j < A.length := by simpa using hg
        simp [List.getElem?_append, this]
      rw [e]
      exact this
    · rename_i hlt
      have := h2.2.2 _ r j c hi hj
      have e : (A ++ B).toArray.getD (i * sz + j) undef = B.toArray.getD ((i - r1.length) * sz + j) undef := by
        have h3 : r1.length * sz ≤ i * sz := Nat.mul_le_mul_right _ (by omega)
        have h4 : ¬ i * sz + j < A.length := by omega
        have h5 : i * sz + j - A.length = (i - r1.length) * sz + j := by rw [hA, Nat.sub_mul]; omega
        simp [List.getElem?_append, h4, h5]
      rw [e]
      exact this

/-- A slice that lies in memory as the cells 'A' do. -/
theorem R0.of_rows {I' : Nat → Nat → Prop} {w' : World} {sz : Nat} {rows : List (List AV)} {A : Array Value} {b q cap : Nat} (h : RowsIn I w sz rows A) (hcap : rows.length ≤ cap)
    (hI : ∀ m, m < rows.length * sz → I' b (q + m)) (hc : ∀ m, m < A.size → w'.cell? ⟨b, q + m, none⟩ = some (A.getD m Go.undef))
    (hm : ∀ x v, R0 I w x v → R0 I' w' x v) : R0 I' w' (.list sz .plain rows) (.slice (some ⟨b, q, none⟩) rows.length cap) := by
  refine R0.mk_list hcap (by simp) (by simp) h.2.1 fun i r j c hi hj => ?_
  have hlt := h.get hi hj
  obtain ⟨h1, h2⟩ := h.2.2 i r j c hi hj
  refine ⟨A.getD (i * sz + j) Go.undef, ?_, ?_, h2, hm _ _ h1⟩
  · rw [Nat.add_assoc]
    exact hI _ (by rw [← h.1]; exact hlt)
  · rw [Nat.add_assoc]
    exact hc _ hlt

theorem run_append_zero {t u ty e : TypeId} {i : TypeInfo} {x : Value} {base : Option Addr} {sLen sCap : Nat} (ht : P.underlying t = some (.slice e)) (hi : P.info? e = some i)
    (hs : Src P i.size u x 0 [] w) (hroom : sLen ≤ sCap) :
    (Builtin.append_ #[t, u] ty #[.slice base sLen sCap, x]).run P w = .ok (.slice base sLen sCap) w := by
  rcases hs.kind with ⟨e', hk⟩ | hk <;> cases base <;>
    simp [Builtin.append_, run_underlying ht, run_underlying hk, sizeOf, typeInfo, hi, hs.len, hroom, hs.cells, storeCells]

/-- What an append leaves. -/
def AppRes (P : Program) (F : Frame0) (e : Nat × Nat → Option AV) (σ : Nat → Option Entry) (β : Blocks) (lam : Owned) (a : Act) (w : World) (t u ty : TypeId) (s x : Value) (l sz : Nat) (rows : List (List AV)) : Prop :=
  ∃ v w' I' q, (Builtin.append_ #[t, u] ty #[s, x]).run P w = .ok v w' ∧
    Inv F (fun t => (e t).map (dg l)) (fun k => (σ k).map (dgE l)) I' β (fun l' => if l' = l then some q else lam l') a w' ∧
    R I' w' β (fun l' => if l' = l then some q else lam l') (.list sz (.own l) rows) v

theorem app_zero {t u ty e' : TypeId} {i : TypeInfo} {x : Value} {av : Option Addr} {cap sz l : Nat} {rows : List (List AV)} (ht : P.underlying t = some (.slice e')) (hi : P.info? e' = some i) (hsz : i.size = sz)
    (h : Inv F e σ I β lam a w) (hσl : σ l = none) (hs : Src P sz u x 0 [] w) (hcap : rows.length ≤ cap) (hR : R0 I w (.list sz .plain rows) (.slice av rows.length cap))
    (hl : lam l = some (av, rows.length, cap, sz) ∨ cap = rows.length) : AppRes P F e σ β lam a w t u ty (.slice av rows.length cap) x l sz rows := by
  subst hsz
  refine ⟨_, w, I, (av, rows.length, cap, i.size), run_append_zero ht hi hs hcap, ?_, .own _ _ _ _ _ hR (by simp)⟩
  refine h.owner l hσl (Below.refl _ _) (fun _ _ h => h) (fun _ _ h => .inl h) (fun _ _ _ _ h => h) (fun _ _ _ => rfl) (fun c h1 h2 => ?_) (fun l' av' len' cap' sz' hne hl' c h1 h2 b o ha => ⟨rfl, fun _ h => h, fun o' hq hlt => ?_⟩)
  · rcases hl with hl | hl
    · exact h.spare l _ _ _ _ hl c h1 h2
    · subst hl; simp only at h1 h2; omega
  · rcases hl with hl | hl
    · simp only at hq
      subst hq ha
      exact h.ldis l l' b o' o _ _ _ _ _ _ (fun e => hne e.symm) hl hl' hlt (Nat.lt_of_le_of_lt h1 h2)
    · subst hl; exact Nat.lt_irrefl _ hlt

theorem app_room {t u ty e' : TypeId} {i : TypeInfo} {x : Value} {av : Option Addr} {cap sz l : Nat} {rows rows2 : List (List AV)} {news : List Value} (ht : P.underlying t = some (.slice e')) (hi : P.info? e' = some i) (hsz : i.size = sz)
    (h : Inv F e σ I β lam a w) (hσl : σ l = none) (hs : Src P sz u x rows2.length news w) (hn : RowsIn I w sz rows2 news.toArray) (h0 : 0 < sz) (hne : rows2 ≠ []) (hcap : rows.length + rows2.length ≤ cap)
    (hR : R I w β lam (.list sz (.own l) rows) (.slice av rows.length cap)) (hl : lam l = some (av, rows.length, cap, sz)) : AppRes P F e σ β lam a w t u ty (.slice av rows.length cap) x l sz (rows ++ rows2) := by
  subst hsz
  have hn0 : 0 < rows2.length := by
    cases rows2 with
    | nil => exact absurd rfl hne
    | cons => simp
  have hm1 : (rows.length + rows2.length) * i.size ≤ cap * i.size := Nat.mul_le_mul_right _ hcap
  have hm2 : 0 < rows2.length * i.size := Nat.mul_pos hn0 h0
  have hm3 : (rows.length + rows2.length) * i.size = rows.length * i.size + rows2.length * i.size := Nat.add_mul _ _ _
  obtain ⟨b, o, hav, hbB, ⟨v0, hv0⟩, _, _, hβb⟩ := h.spare l _ _ _ _ hl (rows.length * i.size) (Nat.le_refl _) (by omega)
  subst hav
  have hsp : ∀ c, rows.length * i.size ≤ c → c < cap * i.size → (∃ v, w.cell? ⟨b, o + c, none⟩ = some v) ∧ w.frozen? ⟨b, o + c, none⟩ = false ∧ ¬ I b (o + c) := by
    intro c h1 h2
    obtain ⟨b', o', e1, _, e3, e4, e5, _⟩ := h.spare l _ _ _ _ hl c h1 h2
    cases e1
    exact ⟨e3, e4, e5⟩
  have hbw : b < w.heap.size := World.block_lt_of_cell? _ _ hv0
  have hnl : news.length = rows2.length * i.size := by simpa using hn.1
  have hc : ∀ j, j < news.length → (w.cell? ⟨b, o + rows.length * i.size + j, none⟩).isSome = true := fun j hj => by
    obtain ⟨⟨v, hv⟩, _⟩ := hsp (rows.length * i.size + j) (by omega) (by omega)
    rw [Nat.add_assoc, hv]; rfl
  have hf : ∀ j, j < news.length → w.frozen? ⟨b, o + rows.length * i.size + j, none⟩ = false := fun j hj => by
    rw [Nat.add_assoc]
    exact (hsp (rows.length * i.size + j) (by omega) (by omega)).2.1
  have hrun := run_append_room_src (P := P) w t u ty e' i ht hi b o rows.length cap x rows2.length news hs hcap hc hf
  obtain ⟨g1, g2, g3, g4, g5⟩ := setCells_heap b news (o + rows.length * i.size) w
  have hcell := setCells_cell b news (o + rows.length * i.size) w hc
  have hw : ∀ b' p v, I b' p → w.cell? ⟨b', p, none⟩ = some v → (w.setCells b (o + rows.length * i.size) news).cell? ⟨b', p, none⟩ = some v := fun b' p v hip hv => by
    by_cases e : b' = b
    · subst e
      rw [hcell, if_neg]
      · exact hv
      · rintro ⟨c1, c2⟩
        refine (hsp (p - o) (by omega) (by omega)).2.2 ?_
        rwa [show o + (p - o) = p by omega]
    · rw [setCells_other e]; exact hv
  refine ⟨_, _, fun b' p => I b' p ∨ (b' = b ∧ o + rows.length * i.size ≤ p ∧ p < o + (rows.length + rows2.length) * i.size), (some ⟨b, o, none⟩, rows.length + rows2.length, cap, i.size), hrun, ?_, ?_⟩
  · refine h.owner l hσl ⟨g2, g3, g4, by rw [g1]; exact Nat.le_refl _, fun k hk => g5 k (by omega)⟩ (fun _ _ h => .inl h) (fun b' p hp => ?_) hw (fun k b' hk => g5 b' (fun e => hβb k (e ▸ hk))) (fun c h1 h2 => ?_)
      (fun l' av' len' cap' sz' hne' hl' c h1 h2 b' o' ha => ?_)
    · rcases hp with hp | ⟨rfl, _⟩
      · exact .inl hp
      · exact .inr ⟨hbB, by rw [g1]; exact hbw, hβb⟩
    · simp only at h1 h2
      obtain ⟨⟨v, e3⟩, e4, e5⟩ := hsp c (by omega) h2
      refine ⟨b, o, rfl, hbB, ⟨v, ?_⟩, by rw [setCells_frozen]; exact e4, ?_, hβb⟩
      · rw [hcell, if_neg (by omega)]; exact e3
      · rintro (hp | ⟨_, _, hp⟩)
        · exact e5 hp
        · omega
    · subst ha
      have hbb : b' ≠ b := fun e => by
        subst e
        exact h.ldis l l' b' o o' _ _ _ _ _ _ (fun e => hne' e.symm) hl hl' (by omega) (Nat.lt_of_le_of_lt h1 h2)
      refine ⟨g5 b' hbb, fun p hp => hp.resolve_right (fun hp => hbb hp.1), fun o'' hq _ => ?_⟩
      simp only [Option.some.injEq, Addr.mk.injEq] at hq
      exact hbb hq.1.symm
  · obtain ⟨_, _, hv, _, hR0⟩ := hR.own_inv
    have := R0.mk_list (I := fun b' p => I b' p ∨ (b' = b ∧ o + rows.length * i.size ≤ p ∧ p < o + (rows.length + rows2.length) * i.size))
      (w := w.setCells b (o + rows.length * i.size) news) (sz := i.size) (m := .plain) (rows := rows ++ rows2) (b := b) (q := o) (cap := cap) (by simpa using hcap) (by simp) (by simp) (fun j r hj => ?_) (fun j r m c hj hm => ?_)
    · simp only [List.length_append] at this
      exact own_of this (by simp) (by simp)
    · rw [List.getElem?_append] at hj
      split at hj
      · cases hR0 with
        | listNil => simp at hj
        | list _ _ _ _ _ _ _ _ _ _ hrow => exact hrow j r hj
      · exact hn.2.1 _ _ hj
    · rw [List.getElem?_append] at hj
      split at hj
      · rename_i hlt
        have hne0 : rows ≠ [] := by intro e; subst e; simp at hlt
        obtain ⟨av', cap', hv', _, _, hne1⟩ := R.list_inv (β := β) (lam := lam) (.base hR0)
        cases hv'
        obtain ⟨b', q', hbq, hrow, hcc⟩ := hne1 hne0
        cases hbq
        obtain ⟨u', k1, k2, k3, k4⟩ := hcc j r m c hj hm
        exact ⟨u', .inl k1, hw _ _ _ k1 k2, k3, k4.mono (fun _ _ h => .inl h) hw⟩
      · rename_i hlt
        have hg := hn.get hj hm
        obtain ⟨k1, k2⟩ := hn.2.2 _ r m c hj hm
        have h3 : rows.length * i.size ≤ j * i.size := Nat.mul_le_mul_right _ (by omega)
        have h5 : (j - rows.length) * i.size + m < news.length := by simpa using hg
        have h6 : (j - rows.length) * i.size = j * i.size - rows.length * i.size := Nat.sub_mul _ _ _
        refine ⟨news.toArray.getD ((j - rows.length) * i.size + m) undef, .inr ⟨rfl, by omega, by omega⟩, ?_, k2, k1.mono (fun _ _ h => .inl h) hw⟩
        rw [hcell, if_pos ⟨by omega, by omega⟩, show o + j * i.size + m - (o + rows.length * i.size) = (j - rows.length) * i.size + m by omega]
        simp [h5]

theorem app_grow {t u ty e' : TypeId} {i : TypeInfo} {z : Value} {x : Value} {av : Option Addr} {cap sz l : Nat} {rows rows2 : List (List AV)} {olds news : List Value} (ht : P.underlying t = some (.slice e')) (hi : P.info? e' = some i) (hsz : i.size = sz)
    (hz : i.zero = some z) (hzs : z.cells.size = sz) (h : Inv F e σ I β lam a w) (hσl : σ l = none) (hs : Src P sz u x rows2.length news w) (hn : RowsIn I w sz rows2 news.toArray)
    (ho : (Builtin.firstCells sz rows.length (.slice av rows.length cap)).run P w.drew = .ok olds.toArray w.drew) (hol : RowsIn I w sz rows olds.toArray)
    (hcap : cap < rows.length + rows2.length) (hb1 : (rows.length + rows2.length) * i.bytes ≤ 140737488355328) (hb2 : rows.length + rows2.length ≤ 9223372036854775807) :
    AppRes P F e σ β lam a w t u ty (.slice av rows.length cap) x l sz (rows ++ rows2) := by
  subst hsz
  have hrun := run_append_grow_src (P := P) w t u ty e' i z ht hi hz av rows.length cap olds ho x rows2.length news hs hcap (by omega) (growslice_fits hcap hb1)
  have hge := grownCap_ge w (rows.length + rows2.length) cap e'
  generalize grownCap w (rows.length + rows2.length) cap e' = newCap at hrun hge
  have hall := hol.append hn
  have hsize : (olds ++ news).length = (rows.length + rows2.length) * i.size := by
    have := hall.1
    simpa using this
  have hzc : (Builtin.zeroCells z.cells (newCap - (rows.length + rows2.length))).size = (newCap - (rows.length + rows2.length)) * i.size := by rw [size_zeroCells, hzs]
  generalize Builtin.zeroCells z.cells (newCap - (rows.length + rows2.length)) = Z at hrun hzc
  have hb : Below w.heap.size w (w.drew.alloc (.cells ((olds ++ news).toArray ++ Z) e')) := (Below.refl _ _).drew.alloc (Nat.le_refl _) _
  have hcells : ∀ m, (w.drew.alloc (.cells ((olds ++ news).toArray ++ Z) e')).cell? ⟨w.heap.size, m, none⟩ = ((olds ++ news).toArray ++ Z)[m]? := fun m => World.cell?_alloc_new w.drew _ _ _
  have hmul : (newCap - (rows.length + rows2.length)) * i.size = newCap * i.size - (rows.length + rows2.length) * i.size := Nat.sub_mul _ _ _
  have hw : ∀ b p v, I b p → w.cell? ⟨b, p, none⟩ = some v → (w.drew.alloc (.cells ((olds ++ news).toArray ++ Z) e')).cell? ⟨b, p, none⟩ = some v := fun b p v hip hv => by
    rw [hb.cell (p := ⟨b, p, none⟩) (h.Isub _ _ hip)]; exact hv
  refine ⟨_, _, fun b p => I b p ∨ (b = w.heap.size ∧ p < (rows.length + rows2.length) * i.size), (some ⟨w.heap.size, 0, none⟩, rows.length + rows2.length, newCap, i.size), hrun, ?_, ?_⟩
  · refine h.owner l hσl (hb.mono h.le) (fun _ _ h => .inl h) (fun b p hp => ?_) hw (fun k b hk => hb.block b (h.bnew k b hk).2.1) (fun c h1 h2 => ?_) (fun l' av' len' cap' sz' hne' hl' c h1 h2 b o' ha => ?_)
    · rcases hp with hp | ⟨rfl, _⟩
      · exact .inl hp
      · exact .inr ⟨h.le, by simp, fun k hk => Nat.lt_irrefl _ (h.bnew k _ hk).2.1⟩
    · simp only at h1 h2
      refine ⟨w.heap.size, 0, rfl, h.le, ?_, World.frozen?_alloc_new w.drew _ _ _, ?_, fun k hk => Nat.lt_irrefl _ (h.bnew k _ hk).2.1⟩
      · rw [Nat.zero_add, hcells]
        refine ⟨_, Array.getElem?_eq_getElem (by simp; simp at hsize; omega)⟩
      · rintro (hp | ⟨_, hp⟩)
        · exact Nat.lt_irrefl _ (h.Isub _ _ hp)
        · omega
    · obtain ⟨b1, o1, e1, _, ⟨v1, e3⟩, _⟩ := h.spare l' _ _ _ _ hl' c h1 h2
      rw [ha] at e1
      cases e1
      have hlt : b < w.heap.size := World.block_lt_of_cell? _ _ e3
      refine ⟨hb.block b hlt, fun p hp => hp.resolve_right (fun hp => by omega), fun o'' hq _ => ?_⟩
      simp only [Option.some.injEq, Addr.mk.injEq] at hq
      omega
  · have := R0.of_rows (I' := fun b p => I b p ∨ (b = w.heap.size ∧ p < (rows.length + rows2.length) * i.size)) (w' := w.drew.alloc (.cells ((olds ++ news).toArray ++ Z) e')) (b := w.heap.size) (q := 0) (cap := newCap)
      hall (by simpa using hge) (fun m hm => .inr ⟨rfl, by simpa using hm⟩) (fun m hm => ?_) (fun x v hx => hx.mono (fun _ _ h => .inl h) hw)
    · simp only [List.length_append] at this
      exact own_of this (by simp) (by simp)
    · rw [Nat.zero_add, hcells]
      have hm' : m < (olds ++ news).length := by simpa using hm
      rw [Array.getElem?_append_left (by simpa using hm')]
      generalize olds ++ news = L at *
      simp [hm']

end
end Go.Am
