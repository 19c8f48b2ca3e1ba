/-
  The abstract machine, part 30: arrays of the function's own that grow by append and are written in place.
-/
import Derived.Test.YtljkjogggfdgiaaAm29
namespace Go.Am
open Go.RowKit

section
variable {P : Program} {F : Frame0} {e : Nat × Nat → Option AV} {σ : Nat → Option Entry} {I : Nat → Nat → Prop} {w : World} {β : Blocks} {lam : Owned} {a : Act} {o : Oper}
  {Q : Exit → Act → World → Prop}

/-- The cells 'A', one behind the other, hold these rows. -/
def RowsR (I : Nat → Nat → Prop) (w : World) (β : Blocks) (lam : Owned) (sz : Nat) (rows : List (List AV)) (A : List Value) : Prop :=
  A.length = rows.length * sz ∧ (∀ (i : Nat) (r : List AV), rows[i]? = some r → r.length = sz) ∧
    ∀ (i : Nat) (r : List AV) (j : Nat) (c : AV), rows[i]? = some r → r[j]? = some c → ∃ v, A[i * sz + j]? = some v ∧ R I w β lam c v ∧ single v = true

theorem RowsIn.toR {sz : Nat} {rows : List (List AV)} {A : List Value} (h : RowsIn I w sz rows A.toArray) : RowsR I w β lam sz rows A := by
  refine ⟨by simpa using h.1, h.2.1, fun i r j c hi hj => ?_⟩
  have hlt := h.get hi hj
  obtain ⟨h1, h2⟩ := h.2.2 i r j c hi hj
  have hlt' : i * sz + j < A.length := by simpa using hlt
  refine ⟨A[i * sz + j], List.getElem?_eq_getElem hlt', ?_⟩
  have : A.toArray.getD (i * sz + j) undef = A[i * sz + j] := by simp [hlt']
  rw [this] at h1 h2
  exact ⟨.base h1, h2⟩

theorem RowsR.append {sz : Nat} {r1 r2 : List (List AV)} {A B : List Value} (h1 : RowsR I w β lam sz r1 A) (h2 : RowsR I w β lam sz r2 B) : RowsR I w β lam sz (r1 ++ r2) (A ++ B) := by
  refine ⟨by simp [h1.1, h2.1, Nat.add_mul], fun i r hi => ?_, fun i r j c hi hj => ?_⟩
  · rw [List.getElem?_append] at hi
    split at hi
    · exact h1.2.1 _ _ hi
    · exact h2.2.1 _ _ hi
  · rw [List.getElem?_append] at hi
    split at hi
    · rename_i hlt
      obtain ⟨v, g1, g2⟩ := h1.2.2 i r j c hi hj
      have : i * sz + j < A.length := (List.getElem?_eq_some_iff.1 g1).1
      exact ⟨v, by rw [List.getElem?_append_left this]; exact g1, g2⟩
    · rename_i hlt
      obtain ⟨v, g1, g2⟩ := h2.2.2 _ r j c hi hj
      have h3 : r1.length * sz ≤ i * sz := Nat.mul_le_mul_right _ (by omega)
      refine ⟨v, ?_, g2⟩
      rw [List.getElem?_append_right (by rw [h1.1]; omega), h1.1]
      rw [show i * sz + j - r1.length * sz = (i - r1.length) * sz + j by rw [Nat.sub_mul]; omega]
      exact g1

theorem rows_flatR {sz : Nat} {rows : List (List AV)} {b q : Nat} (hrow : ∀ (i : Nat) (r : List AV), rows[i]? = some r → r.length = sz)
    (hc : ∀ (i : Nat) (r : List AV) j c, rows[i]? = some r → r[j]? = some c → ∃ u, w.cell? ⟨b, q + i * sz + j, none⟩ = some u ∧ single u = true ∧ R I w β lam c u) (h0 : 0 < sz) :
    ∃ news : List Value, news.length = rows.length * sz ∧ (∀ j u, news[j]? = some u → w.cell? ⟨b, q + j, none⟩ = some u) ∧ (∀ u ∈ news, u.oneCell' = true) ∧ RowsR I w β lam sz rows news := by
  have key : ∀ m, m < rows.length * sz → ∃ u, w.cell? ⟨b, q + m, none⟩ = some u ∧ single u = true := by
    intro m hm
    have hi : m / sz < rows.length := (Nat.div_lt_iff_lt_mul h0).2 hm
    have hj : m % sz < sz := Nat.mod_lt _ h0
    have hr : rows[m / sz]? = some rows[m / sz] := List.getElem?_eq_getElem hi
    have hlen := hrow _ _ hr
    have hj' : m % sz < rows[m / sz].length := by omega
    obtain ⟨u, h1, h2, _⟩ := hc _ _ (m % sz) rows[m / sz][m % sz] hr (List.getElem?_eq_getElem hj')
    refine ⟨u, ?_, h2⟩
    rw [← h1]
    congr 2
    have := Nat.div_add_mod m sz
    rw [Nat.mul_comm] at this
    omega
  have get : ∀ m, m < rows.length * sz → ((List.range (rows.length * sz)).map fun m => (w.cell? ⟨b, q + m, none⟩).getD undef)[m]? = w.cell? ⟨b, q + m, none⟩ := fun m hm => by
    obtain ⟨u, h1, _⟩ := key m hm
    rw [List.getElem?_map, List.getElem?_range hm]
    simp [h1]
  refine ⟨(List.range (rows.length * sz)).map fun m => (w.cell? ⟨b, q + m, none⟩).getD undef, by simp, fun j u hj => ?_, fun u hu => ?_, by simp, hrow, fun i r j c hi hj => ?_⟩
  · have hlt : j < rows.length * sz := by
      have := (List.getElem?_eq_some_iff.1 hj).1
      simpa using this
    rw [get j hlt] at hj
    exact hj
  · simp only [List.mem_map, List.mem_range] at hu
    obtain ⟨m, hm, rfl⟩ := hu
    obtain ⟨u, h1, h2⟩ := key m hm
    simpa [h1] using h2
  · obtain ⟨u, h1, h2, h3⟩ := hc i r j c hi hj
    have hir : i < rows.length := (List.getElem?_eq_some_iff.1 hi).1
    have hjr : j < sz := by
      have := (List.getElem?_eq_some_iff.1 hj).1
      have := hrow i r hi
      omega
    have h4 : (i + 1) * sz ≤ rows.length * sz := Nat.mul_le_mul_right _ hir
    rw [Nat.add_mul] at h4
    refine ⟨u, ?_, h3, h2⟩
    rw [get _ (by omega), ← Nat.add_assoc]
    exact h1

theorem addU_src {sz : Nat} {tx : TypeId} {X : AV} {v : Value} {kk : List (List AV) → Prop} (hk : (∃ e', P.underlying tx = some (.slice e')) ∨ P.underlying tx = some .string)
    (h0 : ∀ rows, kk rows → 0 < sz) (hσ : ∀ k en b, σ k = some en → β k = some b → RE I w β lam b en) (hυ : ∀ l sz rows, σ l = some (.uarr sz rows) → RU I w β lam l sz rows) (hX : R I w β lam X v) (h : addRowsU σ sz X kk) :
    ∃ rows news, kk rows ∧ Src P sz tx v rows.length news w ∧ RowsR I w β lam sz rows news := by
  unfold addRowsU at h
  split at h
  · rename_i j sz' off len
    obtain ⟨rfl, h⟩ := h
    split at h
    · rename_i sz'' rows hs
      obtain ⟨rfl, hle, h⟩ := h
      obtain ⟨cap, cp, av0, av, hl, rfl, hlc, hoc, hav⟩ := hX.us_inv
      have hU := hυ _ _ _ hs
      have hlen : ((rows.drop off).take len).length = len := by simp; omega
      by_cases hz : len = 0
      · have hnil : (rows.drop off).take len = [] := List.eq_nil_of_length_eq_zero (by omega)
        rw [hnil] at h
        rw [hz]
        exact ⟨[], [], h, src_nil hk, ⟨by simp, by simp, by simp⟩⟩
      · obtain ⟨b, q, rfl, rfl⟩ := hav (by omega)
        have hget : ∀ (i : Nat) (r : List AV), ((rows.drop off).take len)[i]? = some r → rows[off + i]? = some r := by
          intro i r hi
          rw [List.getElem?_take] at hi
          split at hi
          · rw [List.getElem?_drop] at hi; exact hi
          · cases hi
        obtain ⟨news, n1, n2, n3, n4⟩ := rows_flatR (b := b) (q := q + off * sz'') (rows := (rows.drop off).take len) (I := I) (w := w) (β := β) (lam := lam) (fun i r hi => (hU.row hl (hget i r hi)).1) (fun i r j' c hi hj => by
          obtain ⟨u, e1, e3, e4⟩ := (hU.row hl (hget i r hi)).2 j' c hj
          rw [Nat.add_mul, ← Nat.add_assoc] at e1
          exact ⟨u, e1, e3, e4⟩) (h0 _ h)
        rw [hlen] at n1
        refine ⟨_, news, h, ?_, n4⟩
        rw [hlen]
        refine ⟨hk, fun _ => rfl, ?_, ?_, n1, n3⟩
        · exact run_firstCells_some w sz'' _ _ _ _ news n1 (fun j u hj => by rw [addr_add]; exact n2 j u hj)
        · exact run_firstCells_some w.drew sz'' _ _ _ _ news n1 (fun j u hj => by rw [addr_add]; exact n2 j u hj)
    · exact h.elim
  · obtain ⟨rows, news, h1, h2, h3⟩ := add_src hk h0 hσ hυ hX h
    exact ⟨rows, news, h1, h2, h3.toR⟩

/-- The array 'l' is another one from here on, with these rows. -/
theorem Inv.ownerU (h : Inv F e σ I β lam a w) (l : Nat) (hσl : ∀ en, σ l = some en → en.isU = true) {w' : World} {ad : Option Addr} {cap sz : Nat} {rows : List (List AV)}
    (hb : Below F.w0.heap.size w w') (hw : ∀ b o v, I b o → w.cell? ⟨b, o, none⟩ = some v → w'.cell? ⟨b, o, none⟩ = some v) (hβ : ∀ k b, β k = some b → w'.heap[b]? = w.heap[b]?)
    (hs : ∀ c, c < cap * sz → ∃ b o, ad = some ⟨b, o, none⟩ ∧ F.w0.heap.size ≤ b ∧ (∃ v, w'.cell? ⟨b, o + c, none⟩ = some v) ∧ w'.frozen? ⟨b, o + c, none⟩ = false ∧ ¬ I b (o + c) ∧ ∀ k, β k ≠ some b)
    (ho : ∀ l' av len cap' sz', l' ≠ l → lam l' = some (av, len, cap', sz') → ∀ c, len * sz' ≤ c → c < cap' * sz' → ∀ b o, av = some ⟨b, o, none⟩ →
      w'.heap[b]? = w.heap[b]? ∧ ∀ o', ad = some ⟨b, o', none⟩ → ¬ 0 < cap * sz)
    (hU : ∀ lam' : Owned, (∀ l', l' ≠ l → lam' l' = lam l') → lam' l = some (ad, 0, cap, sz) → RU I w' β lam' l sz rows) :
    Inv F (fun t => (e t).map (dg l)) (setE (fun k => (σ k).map (dgE l)) (some l) (some (.uarr sz rows))) I β (fun l' => if l' = l then some (ad, 0, cap, sz) else lam l') a w' := by
  have hl : ∀ l', l' ≠ l → (if l' = l then some (ad, 0, cap, sz) else lam l') = lam l' := fun l' h => by rw [if_neg h]
  exact
    { defers := h.defers
      size := h.size
      below := h.below.trans hb
      env := fun t x ht => by
        simp only [Option.map_eq_some_iff] at ht
        obtain ⟨x', ht, rfl⟩ := ht
        obtain ⟨v, h1, h2⟩ := h.env t x' ht
        exact ⟨v, h1, h2.dg (fun _ _ h => h) hw hl⟩
      sto := fun k en hk hu => by
        simp only [setE] at hk
        split at hk
        · simp only [Option.some.injEq] at hk
          subst hk
          cases hu
        · simp only [Option.map_eq_some_iff] at hk
          obtain ⟨en', hk, rfl⟩ := hk
          rw [dgE_isU] at hu
          obtain ⟨b, hb', hE⟩ := h.sto k en' hk hu
          exact ⟨b, hb', hE.dg (fun _ _ h => h) hw hl (hβ k b hb')⟩
      usto := fun k sz' rows' hk => by
        simp only [setE] at hk
        split at hk
        · rename_i e
          simp only [Option.some.injEq, Entry.uarr.injEq] at hk
          obtain ⟨rfl, rfl⟩ := hk
          rw [e]
          exact hU _ hl (by simp)
        · rename_i hne
          simp only [Option.map_eq_some_iff] at hk
          obtain ⟨en', hk, he⟩ := hk
          cases en' with
          | uarr sz2 rows2 =>
            simp only [dgE, Entry.uarr.injEq] at he
            obtain ⟨rfl, rfl⟩ := he
            refine (h.usto k _ _ hk).dg hne (fun _ _ h => h) hw hl (fun b o cap p v hl' hp hv => ?_)
            obtain ⟨g1, _⟩ := ho k _ _ _ _ hne hl' p (by omega) hp b o rfl
            simp only [World.cell?, g1]; exact hv
          | _ => cases he
      bdom := fun k b hk => by
        obtain ⟨en, hk', hu⟩ := h.bdom k b hk
        refine ⟨dgE l en, ?_, by rw [dgE_isU]; exact hu⟩
        simp only [setE]
        rw [if_neg]
        · rw [hk']; rfl
        · intro e
          subst e
          have := hσl en hk'
          rw [hu] at this
          cases this
      binj := h.binj
      bnew := fun k b hk => ⟨(h.bnew k b hk).1, Nat.lt_of_lt_of_le (h.bnew k b hk).2.1 hb.size, (h.bnew k b hk).2.2⟩
      Isub := fun b o hi => Nat.lt_of_lt_of_le (h.Isub b o hi) hb.size
      I0sub := h.I0sub
      Inew := h.Inew
      spare := fun l' av len cap' sz' hl' c h1 h2 => by
        by_cases el : l' = l
        · rw [if_pos el] at hl'
          simp only [Option.some.injEq, Prod.mk.injEq] at hl'
          obtain ⟨rfl, rfl, rfl, rfl⟩ := hl'
          exact hs c h2
        · rw [if_neg el] at hl'
          obtain ⟨b, o, e1, e2, ⟨v, e3⟩, e4, e5, e6⟩ := h.spare l' av len cap' sz' hl' c h1 h2
          obtain ⟨g1, _⟩ := ho l' av len cap' sz' el hl' c h1 h2 b o e1
          exact ⟨b, o, e1, e2, ⟨v, by simp only [World.cell?, g1]; exact e3⟩, by simp only [World.frozen?, g1]; exact e4, e5, e6⟩
      ldis := fun l1 l2 b o o' len len' cap1 cap2 sz1 sz2 hne h1 h2 h3 h4 => by
        by_cases e1 : l1 = l
        · rw [if_pos e1] at h1
          simp only [Option.some.injEq, Prod.mk.injEq] at h1
          obtain ⟨rfl, rfl, rfl, rfl⟩ := h1
          by_cases e2 : l2 = l
          · exact hne (e1.trans e2.symm)
          · rw [if_neg e2] at h2
            exact (ho l2 _ len' cap2 sz2 e2 h2 (len' * sz2) (Nat.le_refl _) h4 b o' rfl).2 o rfl (by omega)
        · rw [if_neg e1] at h1
          by_cases e2 : l2 = l
          · rw [if_pos e2] at h2
            simp only [Option.some.injEq, Prod.mk.injEq] at h2
            obtain ⟨rfl, rfl, rfl, rfl⟩ := h2
            exact (ho l1 _ len cap1 sz1 e1 h1 (len * sz1) (Nat.le_refl _) h3 b o rfl).2 o' rfl (by omega)
          · rw [if_neg e2] at h2
            exact h.ldis l1 l2 b o o' len len' cap1 cap2 sz1 sz2 hne h1 h2 h3 h4 }

/-- The rows of an array, out of what is known of its cells. -/
theorem RU_of {l sz cap b q : Nat} {rows : List (List AV)} {w' : World} {lam' : Owned} (hw : ∀ b o v, I b o → w.cell? ⟨b, o, none⟩ = some v → w'.cell? ⟨b, o, none⟩ = some v)
    (hl : ∀ l', l' ≠ l → lam' l' = lam l') (hl' : lam' l = some (some ⟨b, q, none⟩, 0, cap, sz)) (hcap : rows.length ≤ cap) (hrow : ∀ (i : Nat) (r : List AV), rows[i]? = some r → r.length = sz)
    (hc : ∀ (i : Nat) (r : List AV) j c, rows[i]? = some r → r[j]? = some c → ∃ v, w'.cell? ⟨b, q + i * sz + j, none⟩ = some v ∧ single v = true ∧ R I w β lam c v) :
    RU I w' β lam' l sz (rowsDg l rows) := by
  have get : ∀ (i : Nat) (r : List AV), (rowsDg l rows)[i]? = some r → ∃ r0, rows[i]? = some r0 ∧ r = r0.map (dg l) := fun i r hi => by
    simp only [rowsDg, List.getElem?_map, Option.map_eq_some_iff] at hi
    obtain ⟨r0, h, rfl⟩ := hi
    exact ⟨r0, h, rfl⟩
  refine ⟨_, cap, hl', by simpa [rowsDg] using hcap, fun i r hi => ?_, fun _ => ⟨b, q, rfl, fun i r j c hi hj => ?_⟩⟩
  · obtain ⟨r0, g, rfl⟩ := get i r hi
    rw [List.length_map]; exact hrow i r0 g
  · obtain ⟨r0, g, rfl⟩ := get i r hi
    simp only [List.getElem?_map, Option.map_eq_some_iff] at hj
    obtain ⟨c0, hj, rfl⟩ := hj
    obtain ⟨v, g1, g2, g3⟩ := hc i r0 j c0 g hj
    exact ⟨v, g1, g2, g3.dg (fun _ _ h => h) hw hl⟩

theorem RU_nil {l sz : Nat} {ad : Option Addr} {w' : World} {lam' : Owned} {cap : Nat} (hl' : lam' l = some (ad, 0, cap, sz)) : RU I w' β lam' l sz [] := ⟨ad, cap, hl', Nat.zero_le _, by simp, fun h => absurd rfl h⟩

/-- What an append to an array of the function's own leaves. -/
def URes (P : Program) (F : Frame0) (e : Nat × Nat → Option AV) (σ : Nat → Option Entry) (β : Blocks) (a : Act) (w : World) (t u ty : TypeId) (s x : Value) (l sz : Nat) (rows : List (List AV)) : Prop :=
  ∃ v w' I' lam', (Builtin.append_ #[t, u] ty #[s, x]).run P w = .ok v w' ∧
    Inv F (fun t => (e t).map (dg l)) (setE (fun k => (σ k).map (dgE l)) (some l) (some (.uarr sz (rowsDg l rows)))) I' β lam' a w' ∧
    R I' w' β lam' (.us l sz 0 rows.length) v

set_option maxHeartbeats 1000000 in
/-- A new array holds it all. -/
theorem appU_grow {t u ty e' : TypeId} {i : TypeInfo} {z : Value} {x : Value} {av : Option Addr} {cap sz l : Nat} {rows rows2 : List (List AV)} {olds news : List Value} (ht : P.underlying t = some (.slice e')) (hi : P.info? e' = some i) (hsz : i.size = sz)
    (hz : i.zero = some z) (hzs : z.cells.size = sz) (h0 : 0 < sz) (h : Inv F e σ I β lam a w) (hσl : ∀ en, σ l = some en → en.isU = true) (hs : Src P sz u x rows2.length news w) (hn : RowsR I w β lam sz rows2 news)
    (ho : (Builtin.firstCells sz rows.length (.slice av rows.length cap)).run P w.drew = .ok olds.toArray w.drew) (hol : RowsR I w β lam sz rows olds)
    (hcap : cap < rows.length + rows2.length) (hb1 : (rows.length + rows2.length) * i.bytes ≤ 140737488355328) (hb2 : rows.length + rows2.length ≤ 9223372036854775807) :
    URes P F e σ β a w t u ty (.slice av rows.length cap) x l sz (rows ++ rows2) := by
  subst hsz
  have hrun := run_append_grow_src (P := P) w t u ty e' i z ht hi hz av rows.length cap olds ho x rows2.length news hs hcap (by omega) (growslice_fits hcap hb1)
  have hge := grownCap_ge w (rows.length + rows2.length) cap e'
  generalize grownCap w (rows.length + rows2.length) cap e' = newCap at hrun hge
  have hall := hol.append hn
  have hsize : (olds ++ news).length = (rows.length + rows2.length) * i.size := by
    have := hall.1
    simpa using this
  have hzc : (Builtin.zeroCells z.cells (newCap - (rows.length + rows2.length))).size = (newCap - (rows.length + rows2.length)) * i.size := by rw [size_zeroCells, hzs]
  generalize Builtin.zeroCells z.cells (newCap - (rows.length + rows2.length)) = Z at hrun hzc
  have hb : Below w.heap.size w (w.drew.alloc (.cells ((olds ++ news).toArray ++ Z) e')) := (Below.refl _ _).drew.alloc (Nat.le_refl _) _
  have hcells : ∀ m, (w.drew.alloc (.cells ((olds ++ news).toArray ++ Z) e')).cell? ⟨w.heap.size, m, none⟩ = ((olds ++ news).toArray ++ Z)[m]? := fun m => World.cell?_alloc_new w.drew _ _ _
  have hmul : (newCap - (rows.length + rows2.length)) * i.size = newCap * i.size - (rows.length + rows2.length) * i.size := Nat.sub_mul _ _ _
  have hge2 : (rows.length + rows2.length) * i.size ≤ newCap * i.size := Nat.mul_le_mul_right _ hge
  have hw : ∀ b p v, I b p → w.cell? ⟨b, p, none⟩ = some v → (w.drew.alloc (.cells ((olds ++ news).toArray ++ Z) e')).cell? ⟨b, p, none⟩ = some v := fun b p v hip hv => by
    rw [hb.cell (p := ⟨b, p, none⟩) (h.Isub _ _ hip)]; exact hv
  have hall2 := hall.2.1
  have hall3 := hall.2.2
  have hpos : 0 < newCap * i.size := by
    have : 0 < newCap := by omega
    exact Nat.mul_pos this h0
  refine ⟨_, _, I, _, hrun, h.ownerU l hσl (ad := some ⟨w.heap.size, 0, none⟩) (cap := newCap) (sz := i.size) (hb.mono h.le) hw (fun k b hk => hb.block b (h.bnew k b hk).2.1) (fun c hc => ?_)
      (fun l' av' len' cap' sz' hne' hl' c h1 h2 b o' ha => ?_) (fun lam' hlam hlam2 => RU_of hw hlam hlam2 (by simpa using hge) hall2 (fun j r m c hj hm => ?_)), ?_⟩
  · refine ⟨w.heap.size, 0, rfl, h.le, ?_, World.frozen?_alloc_new w.drew _ _ _, fun hp => ?_, fun k hk => Nat.lt_irrefl _ (h.bnew k _ hk).2.1⟩
    · rw [Nat.zero_add, hcells]
      refine ⟨_, Array.getElem?_eq_getElem (by simp; simp at hsize; omega)⟩
    · exact Nat.lt_irrefl _ (h.Isub _ _ hp)
  · obtain ⟨b1, o1, e1, _, ⟨v1, e3⟩, _⟩ := h.spare l' _ _ _ _ hl' c h1 h2
    rw [ha] at e1
    cases e1
    have hlt : b < w.heap.size := World.block_lt_of_cell? _ _ e3
    refine ⟨hb.block b hlt, fun o'' hq => ?_⟩
    simp only [Option.some.injEq, Addr.mk.injEq] at hq
    omega
  · obtain ⟨v, g1, g2, g3⟩ := hall3 j r m c hj hm
    refine ⟨v, ?_, g3, g2⟩
    have hlt := (List.getElem?_eq_some_iff.1 g1).1
    rw [Nat.zero_add, hcells, Array.getElem?_append_left (by simpa using hlt)]
    simpa using g1
  · have := R.us (I := I) (w := w.drew.alloc (.cells ((olds ++ news).toArray ++ Z) e')) (β := β) (lam := fun l' => if l' = l then some (some ⟨w.heap.size, 0, none⟩, 0, newCap, i.size) else lam l') l i.size 0 (rows ++ rows2).length newCap newCap
      (some ⟨w.heap.size, 0, none⟩) (some ⟨w.heap.size, 0, none⟩) (by simp) (by simpa using hge) (by omega) (fun _ => ⟨w.heap.size, 0, rfl, by simp⟩)
    simpa using this

set_option maxHeartbeats 1000000 in
/-- It grows in place. -/
theorem appU_room {t u ty e' : TypeId} {i : TypeInfo} {x : Value} {av : Option Addr} {cp sz l : Nat} {rows rows2 : List (List AV)} {news : List Value} (ht : P.underlying t = some (.slice e')) (hi : P.info? e' = some i) (hsz : i.size = sz)
    (h : Inv F e σ I β lam a w) (hσl : σ l = some (.uarr sz rows)) (hs : Src P sz u x rows2.length news w) (hn : RowsR I w β lam sz rows2 news) (h0 : 0 < sz) (hne : rows2 ≠ []) (hcap : rows.length + rows2.length ≤ cp)
    (hR : R I w β lam (.us l sz 0 rows.length) (.slice av rows.length cp)) : URes P F e σ β a w t u ty (.slice av rows.length cp) x l sz (rows ++ rows2) := by
  subst hsz
  have hn0 : 0 < rows2.length := by
    cases rows2 with
    | nil => exact absurd rfl hne
    | cons => simp
  obtain ⟨cap, cp', av0, av', hl, hv, hlc, hoc, hav⟩ := hR.us_inv
  cases hv
  obtain ⟨b, o, rfl, rfl⟩ := hav (by omega)
  simp only [Nat.zero_mul, Nat.add_zero] at *
  have hm0 : cp * i.size ≤ cap * i.size := Nat.mul_le_mul_right _ (by omega)
  have hm1 : (rows.length + rows2.length) * i.size ≤ cp * i.size := Nat.mul_le_mul_right _ hcap
  have hm2 : 0 < rows2.length * i.size := Nat.mul_pos hn0 h0
  have hm3 : (rows.length + rows2.length) * i.size = rows.length * i.size + rows2.length * i.size := Nat.add_mul _ _ _
  obtain ⟨u1, u2, u3, u4⟩ := h.ublock hl (by omega)
  have hnl : news.length = rows2.length * i.size := hn.1
  have hc : ∀ j, j < news.length → (w.cell? ⟨b, o + rows.length * i.size + j, none⟩).isSome = true := fun j hj => by
    obtain ⟨⟨v, hv⟩, _⟩ := u4 (rows.length * i.size + j) (by omega)
    rw [Nat.add_assoc, hv]; rfl
  have hf : ∀ j, j < news.length → w.frozen? ⟨b, o + rows.length * i.size + j, none⟩ = false := fun j hj => by
    rw [Nat.add_assoc]
    exact (u4 (rows.length * i.size + j) (by omega)).2.1
  have hrun := run_append_room_src (P := P) w t u ty e' i ht hi b o rows.length cp x rows2.length news hs hcap hc hf
  obtain ⟨g1, g2, g3, g4, g5⟩ := setCells_heap b news (o + rows.length * i.size) w
  have hcell := setCells_cell b news (o + rows.length * i.size) w hc
  have hw : ∀ b' p v, I b' p → w.cell? ⟨b', p, none⟩ = some v → (w.setCells b (o + rows.length * i.size) news).cell? ⟨b', p, none⟩ = some v := fun b' p v hip hcv => by
    by_cases e : b' = b
    · subst e
      rw [hcell, if_neg]
      · exact hcv
      · rintro ⟨c1, c2⟩
        refine (u4 (p - o) (by omega)).2.2 ?_
        rwa [show o + (p - o) = p by omega]
    · rw [setCells_other e]; exact hcv
  have hU := h.usto _ _ _ hσl
  refine ⟨_, _, I, _, hrun, h.ownerU l (fun en he => by rw [hσl] at he; cases he; rfl) (ad := some ⟨b, o, none⟩) (cap := cap) (sz := i.size) ⟨g2, g3, g4, by rw [g1]; exact Nat.le_refl _, fun k hk => g5 k (by omega)⟩ hw
      (fun k b' hk => g5 b' (fun e => u3 k (e ▸ hk))) (fun c hc' => ?_) (fun l' av' len' cap' sz' hne' hl' c h1 h2 b' o' ha => ?_) (fun lam' hlam hlam2 => RU_of hw hlam hlam2 (by simp; omega) (fun j r hj => ?_) (fun j r m c hj hm => ?_)), ?_⟩
  · obtain ⟨⟨v, e3⟩, e4, e5⟩ := u4 c hc'
    refine ⟨b, o, rfl, u1, ?_, by rw [setCells_frozen]; exact e4, e5, u3⟩
    rw [hcell]
    split
    · rename_i c3
      exact ⟨news[o + c - (o + rows.length * i.size)]'(by omega), by simp⟩
    · exact ⟨v, e3⟩
  · subst ha
    have hbb : b' ≠ b := fun e => by
      subst e
      exact h.ldis l l' b' o o' _ _ _ _ _ _ (fun e => hne' e.symm) hl hl' (by omega) (Nat.lt_of_le_of_lt h1 h2)
    refine ⟨g5 b' hbb, fun o'' hq => ?_⟩
    simp only [Option.some.injEq, Addr.mk.injEq] at hq
    exact absurd hq.1.symm hbb
  · rw [List.getElem?_append] at hj
    split at hj
    · exact (hU.row hl hj).1
    · exact hn.2.1 _ _ hj
  · rw [List.getElem?_append] at hj
    split at hj
    · rename_i hlt
      obtain ⟨v, e1, e2, e3⟩ := (hU.row hl hj).2 m c hm
      have hml : m < i.size := by
        have := (List.getElem?_eq_some_iff.1 hm).1
        have := (hU.row hl hj).1
        omega
      have h3 : (j + 1) * i.size ≤ rows.length * i.size := Nat.mul_le_mul_right _ hlt
      rw [Nat.add_mul] at h3
      refine ⟨v, ?_, e2, e3⟩
      rw [hcell, if_neg (by omega)]; exact e1
    · rename_i hlt
      obtain ⟨v, e1, e2, e3⟩ := hn.2.2 _ r m c hj hm
      have h3 : rows.length * i.size ≤ j * i.size := Nat.mul_le_mul_right _ (by omega)
      have h6 : (j - rows.length) * i.size = j * i.size - rows.length * i.size := Nat.sub_mul _ _ _
      have hlt2 := (List.getElem?_eq_some_iff.1 e1).1
      refine ⟨v, ?_, e3, e2⟩
      rw [hcell, if_pos ⟨by omega, by omega⟩, show o + j * i.size + m - (o + rows.length * i.size) = (j - rows.length) * i.size + m by omega]
      exact e1
  · have := R.us (I := I) (w := w.setCells b (o + rows.length * i.size) news) (β := β) (lam := fun l' => if l' = l then some (some ⟨b, o, none⟩, 0, cap, i.size) else lam l') l i.size 0 (rows ++ rows2).length cap cp
      (some ⟨b, o, none⟩) (some ⟨b, o, none⟩) (by simp) (by simpa using hcap) (by omega) (fun _ => ⟨b, o, rfl, by simp⟩)
    simpa using this

end
end Go.Am
