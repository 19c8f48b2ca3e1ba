/-
  The abstract machine, part 29: copy.
-/
import Derived.Test.YtljkjogggfdgiaaAm15
namespace Go.Am
open Go.RowKit

section
variable {P : Program} {F : Frame0} {e : Nat × Nat → Option AV} {σ : Nat → Option Entry} {I : Nat → Nat → Prop} {w : World} {β : Blocks} {lam : Owned} {a : Act} {o : Oper}
  {Q : Exit → Act → World → Prop}

theorem run_copyAny {dT sT ty elem : TypeId} {i : TypeInfo} {dLen dCap n : Nat} {av : Option Addr} {x : Value} {cs : List Value} {w' : World} (hu : P.underlying dT = some (.slice elem)) (hi : P.info? elem = some i)
    (hs : Src P i.size sT x n cs w) (hle : n ≤ dLen) (hst : ∀ d, av = some d → (storeCells d cs 0).run P w = .ok () w') (hn : av = none → w' = w) :
    (Builtin.copy_ #[dT, sT] ty #[.slice av dLen dCap, x]).run P w = .ok (goInt n) w' := by
  have h1 := hs.len w
  have h2 := hs.cells
  have hmin : Nat.min n dLen = n := Nat.min_eq_left hle
  cases av with
  | none =>
    rw [hn rfl]
    simp [Builtin.copy_, run_underlying hu, h1, sizeOf, typeInfo, hi, hmin, h2]
  | some d =>
    have h3 := hst d rfl
    simp [Builtin.copy_, run_underlying hu, h1, sizeOf, typeInfo, hi, hmin, h2, h3]

theorem take_drop_get {rows rows2 : List (List AV)} {off : Nat} (hle : off + rows2.length ≤ rows.length) {i : Nat} {r : List AV} (h : (rows.take off ++ rows2 ++ rows.drop (off + rows2.length))[i]? = some r) :
    (off ≤ i ∧ i < off + rows2.length ∧ rows2[i - off]? = some r) ∨ (¬ (off ≤ i ∧ i < off + rows2.length) ∧ rows[i]? = some r) := by
  by_cases c1 : i < off
  · rw [List.append_assoc, List.getElem?_append_left (by simp; omega), List.getElem?_take, if_pos c1] at h
    exact .inr ⟨by omega, h⟩
  · by_cases c2 : i < off + rows2.length
    · rw [List.append_assoc, List.getElem?_append_right (by simp; omega)] at h
      have ht : (rows.take off).length = off := by simp; omega
      rw [ht, List.getElem?_append_left (by omega)] at h
      exact .inl ⟨by omega, c2, h⟩
    · rw [List.getElem?_append_right (by simp; omega)] at h
      have ht : (rows.take off ++ rows2).length = off + rows2.length := by simp; omega
      rw [ht, List.getElem?_drop] at h
      have e : off + rows2.length + (i - (off + rows2.length)) = i := by omega
      rw [e] at h
      exact .inr ⟨by omega, h⟩

theorem sim_copy {c : Call} {xs xx : Operand} {t u e' : TypeId} {sz : Nat} {X Y : AV} {s : St} {K : St → Prop} {Kr : Act → World → Prop} (ho : o.op = .call c)
    (hc : c.callee = .builtin .copy) (hargs : c.args = #[xs, xx]) (hts : c.argTypes = #[t, u]) (he : elT P t = some e') (hsz : szT P e' = some sz)
    (hu : isStrT P u = true ∨ (elT P u).isSome = true) (h : Inv F s.look (lk s.sto) I β lam a w) (hd : dstOk F.N o.dst = true)
    (hX : R I w β lam X (a.eval xs)) (hY : R I w β lam Y (a.eval xx)) (hst : eCopy sz s o.dst K [X, Y])
    (hk : ∀ s' a' w', K s' → Holds F s' a' w' → Kr a' w') : o.wp P a w Kr Q := by
  unfold eCopy at hst
  split at hst
  rotate_left
  · exact hst.elim
  rename_i j sz1 off len Y' heq
  simp only [List.cons.injEq, and_true] at heq
  obtain ⟨rfl, rfl⟩ := heq
  obtain ⟨rfl, h0, hst⟩ := hst
  have hσ : ∀ k en b, lk s.sto k = some en → β k = some b → RE I w β lam b en := fun k en b h1 h2 => by
    obtain ⟨en', h3, h4⟩ := h.bdom k b h2
    rw [h1] at h3; cases h3
    obtain ⟨b', hb', hE⟩ := h.sto k en h1 h4
    rw [h2] at hb'; cases hb'
    exact hE
  obtain ⟨i, hi, hisz⟩ : ∃ i, P.info? e' = some i ∧ i.size = sz1 := by
    simp only [szT, Option.map_eq_some_iff] at hsz
    exact hsz
  have hst2 : addRows (lk s.sto) sz1 Y fun rows2 => (match lk s.sto j with
       | some (.arr sz' rows) => sz' = sz1 ∧ off + len ≤ rows.length ∧ rows2.length ≤ len ∧
           K (({ s with sto := pt s.sto j (.arr sz1 (rows.take off ++ rows2 ++ rows.drop (off + rows2.length))) }).put o.dst (.val (.int .i64 (rows2.length : Nat))))
       | _ => False) := by
    unfold cpRows at hst
    split at hst
    · exact hst.elim
    · exact hst
  obtain ⟨rows2, news, hk2, hs, hn⟩ := add_src (P := P) (w := w) (tx := u) (kind_of hu) (fun rows _ => h0) hσ h.usto hY hst2
  split at hk2
  rotate_left
  · exact hk2.elim
  rename_i sz' rows hsj
  obtain ⟨rfl, hle, hle2, hK⟩ := hk2
  obtain ⟨b, cap, av, hb, hv, hcap, hav⟩ := hX.sl_inv
  obtain ⟨b', hb', hE⟩ := h.sto _ _ hsj rfl
  rw [hb] at hb'; cases hb'
  subst hisz
  have hnl : news.length = rows2.length * i.size := hs.newsLen
  have hex : ∀ q, q < rows.length * i.size → ∃ v, w.cell? ⟨b, q, none⟩ = some v ∧ w.frozen? ⟨b, q, none⟩ = false := fun q hq => by
    have hlt : q / i.size < rows.length := (Nat.div_lt_iff_lt_mul h0).2 hq
    have hr : rows[q / i.size]? = some rows[q / i.size] := List.getElem?_eq_getElem hlt
    have hrl := hE.1 _ _ hr
    have hj' : q % i.size < rows[q / i.size].length := by rw [hrl]; exact Nat.mod_lt _ h0
    obtain ⟨v, e1, e2, _⟩ := hE.2 _ _ (q % i.size) _ hr (List.getElem?_eq_getElem hj')
    have e3 : q / i.size * i.size + q % i.size = q := by rw [Nat.mul_comm]; exact Nat.div_add_mod q i.size
    rw [e3] at e1 e2
    exact ⟨v, e1, e2⟩
  have hmul : off * i.size + rows2.length * i.size ≤ rows.length * i.size := by
    rw [← Nat.add_mul]
    exact Nat.mul_le_mul_right _ (by omega)
  have hc' : ∀ q, q < news.length → (w.cell? ⟨b, off * i.size + q, none⟩).isSome = true := fun q hq => by
    obtain ⟨v, e1, _⟩ := hex (off * i.size + q) (by omega)
    simp [e1]
  have hf' : ∀ q, q < news.length → w.frozen? ⟨b, off * i.size + q, none⟩ = false := fun q hq => (hex (off * i.size + q) (by omega)).elim fun v hv => hv.2
  have hrun : (Builtin.copy_ #[t, u] o.type #[.slice av len cap, a.eval xx]).run P w = .ok (goInt rows2.length) (w.setCells b (off * i.size) news) := by
    refine run_copyAny (underlying_of he) hi hs hle2 (fun d hd' => ?_) (fun hn' => ?_)
    · by_cases hz : news = []
      · subst hz; rfl
      · have hl0 : len ≠ 0 := by
          intro e0
          have : rows2.length = 0 := by omega
          rw [this] at hnl
          simp at hnl
          exact hz hnl
        rw [hav hl0] at hd'
        cases hd'
        have := run_storeCells_cells (P := P) b (off * i.size) news 0 w (fun q hq => by simpa using hc' q hq) (fun q hq => by simpa using hf' q hq) hs.one
        simpa using this
    · have : len = 0 := by
        by_cases hl0 : len = 0
        · exact hl0
        · rw [hav hl0] at hn'; cases hn'
      have : rows2.length = 0 := by omega
      rw [this] at hnl
      simp at hnl
      subst hnl
      rfl
  have hrun' : (execOp a.eval o).run P w = .ok (.value (goInt rows2.length)) (w.setCells b (off * i.size) news) := by
    have hv' : (#[xs, xx].map a.eval) = #[.slice av len cap, a.eval xx] := by simp [hv]
    simp only [execOp, ho, resolve, hc, hargs, invoke, builtin, hts]
    simp [hv, hrun]
  refine wp_val hrun' ?_
  refine hk _ _ _ hK ⟨I, β, lam, ?_⟩
  have hw : ∀ b' o v, I b' o → w.cell? ⟨b', o, none⟩ = some v → (w.setCells b (off * i.size) news).cell? ⟨b', o, none⟩ = some v := fun b' q v hi hv => by
    rw [setCells_other (fun e => by rw [e] at hi; exact (h.bnew j b hb).2.2 q hi)]; exact hv
  have hwr : Inv F s.look (setE (lk s.sto) (some j) (some (.arr i.size (rows.take off ++ rows2 ++ rows.drop (off + rows2.length))))) I β lam a (w.setCells b (off * i.size) news) := by
    refine h.write rfl hb ⟨fun m r hm => ?_, fun m r q c hm hq => ?_⟩
    · rcases take_drop_get (by omega) hm with ⟨_, _, h3⟩ | ⟨_, h3⟩
      · exact hn.2.1 _ _ h3
      · exact hE.1 _ _ h3
    · rcases take_drop_get (by omega) hm with ⟨h1, h2, h3⟩ | ⟨h1, h3⟩
      · have hg := hn.get h3 hq
        obtain ⟨k1, k2⟩ := hn.2.2 _ r q c h3 hq
        have h5 : (m - off) * i.size + q < news.length := by simpa using hg
        have h6 : (m - off) * i.size = m * i.size - off * i.size := Nat.sub_mul _ _ _
        have h7 : off * i.size ≤ m * i.size := Nat.mul_le_mul_right _ h1
        refine ⟨news.toArray.getD ((m - off) * i.size + q) undef, ?_, ?_, k2, k1.mono (fun _ _ h => h) hw⟩
        · rw [setCells_cell b _ _ w hc', if_pos ⟨by omega, by omega⟩, show m * i.size + q - off * i.size = (m - off) * i.size + q by omega]
          simp [h5]
        · rw [setCells_frozen]
          have := hf' ((m - off) * i.size + q) h5
          rwa [show off * i.size + ((m - off) * i.size + q) = m * i.size + q by omega] at this
      · obtain ⟨v, e1, e2, e3, e4⟩ := hE.2 m r q c h3 hq
        have hql : q < i.size := by
          have := hE.1 m r h3
          have := (List.getElem?_eq_some_iff.1 hq).1
          omega
        refine ⟨v, ?_, by rw [setCells_frozen]; exact e2, e3, e4.mono (fun _ _ h => h) hw⟩
        rw [setCells_cell b _ _ w hc', if_neg]
        · exact e1
        · rw [hnl]
          rintro ⟨c1, c2⟩
          have : off * i.size + rows2.length * i.size = (off + rows2.length) * i.size := (Nat.add_mul _ _ _).symm
          rw [this] at c2
          have : off ≤ m := by
            refine Classical.byContradiction fun hlt => ?_
            have : (m + 1) * i.size ≤ off * i.size := Nat.mul_le_mul_right _ (by omega)
            rw [Nat.add_mul] at this
            omega
          have : m < off + rows2.length := by
            refine Classical.byContradiction fun hlt => ?_
            have : (off + rows2.length) * i.size ≤ m * i.size := Nat.mul_le_mul_right _ (by omega)
            omega
          exact h1 ⟨by omega, by omega⟩
  have := hwr.put hd (x := .val (.int .i64 (rows2.length : Nat))) (v := goInt rows2.length) (R_val _)
  rw [look_put, look_sto]
  have e2 : lk (({ s with sto := pt s.sto j (.arr i.size (rows.take off ++ rows2 ++ rows.drop (off + rows2.length))) } : St).put o.dst (.val (.int .i64 (rows2.length : Nat)))).sto = setE (lk s.sto) (some j) (some (.arr i.size (rows.take off ++ rows2 ++ rows.drop (off + rows2.length)))) := by
    rw [← lk_pt_setE]
    cases o.dst <;> rfl
  rw [e2]
  exact this

end
end Go.Am
