/-
  The abstract machine, part 31: operations that make or change arrays of the function's own; calls that may write.
-/
import Derived.Test.YtljkjogggfdgiaaAm30
namespace Go.Am
open Go.RowKit

section
variable {P : Program} {F : Frame0} {I : Nat → Nat → Prop} {w : World} {β : Blocks} {lam : Owned} {a : Act} {o : Oper}
  {Q : Exit → Act → World → Prop}

theorem Inv.hread {e : Nat × Nat → Option AV} {σ : Nat → Option Entry} (h : Inv F e σ I β lam a w) : ∀ k en b, σ k = some en → β k = some b → RE I w β lam b en := fun k en b h1 h2 => by
  obtain ⟨en', h3, h4⟩ := h.bdom k b h2
  rw [h1] at h3; cases h3
  obtain ⟨b', hb', hE⟩ := h.sto k en h1 h4
  rw [h2] at hb'; cases hb'
  exact hE

theorem look_dg_put {s : St} {l d : Nat} {x : AV} : ((s.dg l).put (some d) x).look = setE (fun t => (s.look t).map (dg l)) (slot (some d)) (some x) := by
  rw [look_put, (lk_dg s l).1]

theorem sim_appendU {c : Call} {xs xx : Operand} {t u e' : TypeId} {sz by_ : Nat} {z : List AV} {X Y : AV} {s : St} {K : St → Prop} {Kr : Act → World → Prop} (ho : o.op = .call c)
    (hc : c.callee = .builtin .append) (hargs : c.args = #[xs, xx]) (hts : c.argTypes = #[t, u]) (he : elT P t = some e') (hsz : szT P e' = some sz) (hby : byT P e' = some by_)
    (hz : zeroT P e' = some z) (hzl : z.length = sz) (hu : isStrT P u = true ∨ (elT P u).isSome = true) (h : Inv F s.look (lk s.sto) I β lam a w) (hd : dstOk F.N o.dst = true)
    (hX : R I w β lam X (a.eval xs)) (hY : R I w β lam Y (a.eval xx)) (hst : eAppendU sz by_ s o.dst K [X, Y])
    (hk : ∀ s' a' w', K s' → Holds F s' a' w' → Kr a' w') : o.wp P a w Kr Q := by
  obtain ⟨i, zv, hi, hiz, hzs⟩ := zeroT_info hz
  have hisz : i.size = sz := by
    unfold szT at hsz
    simpa [hi] using hsz
  have hiby : i.bytes = by_ := by
    unfold byT at hby
    simpa [hi] using hby
  have fin : ∀ (l d : Nat) (rows : List (List AV)) (s' : St), o.dst = some d → URes P F s.look (lk s.sto) β a w t u o.type (a.eval xs) (a.eval xx) l sz rows →
      s'.look = setE (fun t => (s.look t).map (dg l)) (slot (some d)) (some (.us l sz 0 rows.length)) → lk s'.sto = setE (fun k => (lk s.sto k).map (dgE l)) (some l) (some (.uarr sz (rowsDg l rows))) →
      K s' → o.wp P a w Kr Q := by
    intro l d rows s' hdd ⟨v, w', I', lam', hrun, hI, hR⟩ hlook hsto hK
    have hrun' : (execOp a.eval o).run P w = .ok (.value v) w' := by
      simp [execOp, ho, resolve, hc, hargs, invoke, builtin, hts, hrun]
    refine wp_val hrun' ?_
    rw [hdd]
    rw [hdd] at hd
    refine hk _ _ w' hK ⟨I', β, lam', ?_⟩
    rw [hlook, hsto]
    exact hI.put hd hR
  unfold eAppendU at hst
  split at hst
  · rename_i sz1 rows1 Y' heq
    simp only [List.cons.injEq, and_true] at heq
    obtain ⟨rfl, rfl⟩ := heq
    obtain ⟨rows2, news, ⟨h0, hb1, hb2, hst⟩, hs, hn⟩ := addU_src (P := P) (w := w) (tx := u) (kind_of hu) (fun rows h => h.1) h.hread h.usto hY hst
    split at hst
    · rename_i d hdd
      obtain ⟨rfl, hσl, hst⟩ := hst
      obtain ⟨av, cap, hv, hcap, hfull, _⟩ := hX.list_inv
      have hc0 : cap = 0 := by simpa using hfull rfl
      subst hc0
      have hσl' : ∀ en, lk s.sto (s.base + d) = some en → en.isU = true := fun en he => by rw [hσl] at he; cases he
      have hst' : lk (((s.dg (s.base + d)).put (some d) (.us (s.base + d) sz 0 rows2.length)).new (some d) (some (.uarr sz (rowsDg (s.base + d) rows2)))).sto =
          setE (fun k => (lk s.sto k).map (dgE (s.base + d))) (some (s.base + d)) (some (.uarr sz (rowsDg (s.base + d) rows2))) := by
        simp only [St.new]
        rw [show ((s.dg (s.base + d)).put (some d) (AV.us (s.base + d) sz 0 rows2.length)).base = s.base from rfl, lk_pt_setE,
          show ((s.dg (s.base + d)).put (some d) (AV.us (s.base + d) sz 0 rows2.length)).sto = (s.dg (s.base + d)).sto from rfl, (lk_dg s (s.base + d)).2]
      have hlk : (((s.dg (s.base + d)).put (some d) (.us (s.base + d) sz 0 rows2.length)).new (some d) (some (.uarr sz (rowsDg (s.base + d) rows2)))).look =
          setE (fun t => (s.look t).map (dg (s.base + d))) (slot (some d)) (some (.us (s.base + d) sz 0 rows2.length)) := by
        rw [← look_dg_put]; simp only [St.new]; exact look_sto
      refine fin (s.base + d) d rows2 _ hdd ?_ hlk hst' hst
      by_cases hr2 : rows2 = []
      · subst hr2
        have hnil : news = [] := by simpa using hs.newsLen
        subst hnil
        rw [hv]
        refine ⟨_, w, I, _, run_append_zero (underlying_of he) hi (by rw [hisz]; exact hs) (Nat.le_refl _), h.ownerU (s.base + d) hσl' (ad := none) (cap := 0) (sz := sz) (Below.refl _ _) (fun _ _ _ _ h => h) (fun _ _ _ => rfl) (fun c hc => by omega)
          (fun _ _ _ _ _ _ _ _ _ _ _ _ _ => ⟨rfl, fun _ h => by cases h⟩) (fun lam' _ hl2 => RU_nil hl2), ?_⟩
        exact .us _ _ _ _ 0 0 none av (by simp) (Nat.le_refl _) (Nat.le_refl _) (fun h => absurd rfl h)
      · have := appU_grow (P := P) (u := u) (ty := o.type) (rows := []) (rows2 := rows2) (olds := []) (av := av) (cap := 0) (l := s.base + d) (underlying_of he) hi hisz hiz (by omega) h0 h hσl' hs hn
          ((src_nil (P := P) (av := av) (cap := 0) (sz := sz) (tx := t) (w := w) (.inl ⟨e', underlying_of he⟩)).cellsD) ⟨by simp, by simp, by simp⟩ (by cases rows2 with | nil => exact absurd rfl hr2 | cons => simp) (by rw [hiby]; simpa using hb1) (by simpa using hb2)
        rw [hv]
        exact this
    · exact hst.elim
  · rename_i l sz1 off len Y' heq
    simp only [List.cons.injEq, and_true] at heq
    obtain ⟨rfl, rfl⟩ := heq
    obtain ⟨rows2, news, ⟨h0, hb1, hb2, hst⟩, hs, hn⟩ := addU_src (P := P) (w := w) (tx := u) (kind_of hu) (fun rows h => h.1) h.hread h.usto hY hst
    split at hst
    · rename_i sz' rows1 d hσl hdd
      obtain ⟨rfl, rfl, rfl, rfl, hst⟩ := hst
      have hσl' : ∀ en, lk s.sto l = some en → en.isU = true := fun en he => by rw [hσl] at he; cases he; rfl
      obtain ⟨cap, cp, av0, av, hl, hv, hlc, hoc, hav⟩ := hX.us_inv
      have hU := h.usto _ _ _ hσl
      have hlen : (rows1 ++ rows2).length = rows1.length + rows2.length := List.length_append
      refine fin l d (rows1 ++ rows2) _ hdd ?_ (by rw [hlen]; exact (look_put (s := { (s.dg l) with sto := pt (s.dg l).sto l (.uarr sz1 (rowsDg l (rows1 ++ rows2))) })).trans (by rw [look_sto, (lk_dg s l).1])) (by
        rw [show (({ (s.dg l) with sto := pt (s.dg l).sto l (.uarr sz1 (rowsDg l (rows1 ++ rows2))) } : St).put (some d) (.us l sz1 0 (rows1.length + rows2.length))).sto = pt (s.dg l).sto l (.uarr sz1 (rowsDg l (rows1 ++ rows2))) from rfl,
          lk_pt_setE, (lk_dg s l).2]) hst
      by_cases hr2 : rows2 = []
      · subst hr2
        have hnil : news = [] := by simpa using hs.newsLen
        subst hnil
        rw [hv, List.append_nil]
        refine ⟨_, w, I, _, run_append_zero (underlying_of he) hi (by rw [hisz]; exact hs) hlc, h.ownerU l hσl' (ad := av0) (cap := cap) (sz := sz1) (Below.refl _ _) (fun _ _ _ _ h => h) (fun _ _ _ => rfl) (fun c hc => ?_)
          (fun l' av' len' cap' sz'' hne' hl' c h1 h2 b' o' ha => ⟨rfl, fun o'' hq h0' => ?_⟩) (fun lam' hlam hl2 => ?_), ?_⟩
        · obtain ⟨b, o, e1, e2, e3, e4, e5, e6⟩ := h.spare l _ _ _ _ hl c (by omega) hc
          exact ⟨b, o, e1, e2, e3, e4, e5, e6⟩
        · subst hq ha
          exact h.ldis l l' b' o'' o' _ _ _ _ _ _ (fun e => hne' e.symm) hl hl' (by omega) (Nat.lt_of_le_of_lt h1 h2)
        · by_cases hr1 : rows1 = []
          · subst hr1; exact RU_nil hl2
          · obtain ⟨a', cap', k1, k2, k3, k4⟩ := hU
            rw [hl] at k1
            cases k1
            obtain ⟨b, q, rfl, k5⟩ := k4 hr1
            exact RU_of (fun _ _ _ _ h => h) hlam hl2 k2 k3 k5
        · exact .us _ _ _ _ cap cp av0 av (by simp) hlc hoc hav
      · by_cases hroom : rows1.length + rows2.length ≤ cp
        · have hXX := hX
          rw [hv] at hXX ⊢
          exact appU_room (underlying_of he) hi hisz h hσl hs hn h0 hr2 hroom hXX
        · rw [hv]
          by_cases hr1 : rows1 = []
          · subst hr1
            exact appU_grow (P := P) (u := u) (ty := o.type) (rows := []) (rows2 := rows2) (olds := []) (av := av) (cap := cp) (l := l) (underlying_of he) hi hisz hiz (by omega) h0 h hσl' hs hn
              ((src_nil (P := P) (av := av) (cap := cp) (sz := sz1) (tx := t) (w := w) (.inl ⟨e', underlying_of he⟩)).cellsD) ⟨by simp, by simp, by simp⟩ (by omega) (by rw [hiby]; exact hb1) hb2
          · have hne : cp ≠ 0 := by
              have : 0 < rows1.length := by cases rows1 with | nil => exact absurd rfl hr1 | cons => simp
              omega
            obtain ⟨b, q, rfl, rfl⟩ := hav hne
            obtain ⟨olds, n1, n2, n3, n4⟩ := rows_flatR (b := b) (q := q + 0 * sz1) (rows := rows1) (I := I) (w := w) (β := β) (lam := lam) (fun i r hi => (hU.row hl hi).1) (fun i r j c hi hj => by
              simpa using (hU.row hl hi).2 j c hj) h0
            exact appU_grow (P := P) (u := u) (ty := o.type) (underlying_of he) hi hisz hiz (by omega) h0 h hσl' hs hn
              (run_firstCells_some w.drew sz1 _ _ _ _ olds n1 (fun j u hj => by rw [addr_add]; exact n2 j u hj)) n4 (by omega) (by rw [hiby]; exact hb1) hb2
    · exact hst.elim
  · exact hst.elim

/-- A call that may write. -/
theorem callI_wp {f : FuncId} {vs : Array Value} {xs : List AV} {s : St} {K : St → Prop} {Kr : Act → World → Prop} (hrun : (execOp a.eval o).run P w = .ok (.enter f vs) w) (hs : vs.size = xs.length)
    (hR : ∀ i x, xs[i]? = some x → R I w β lam x (vs.getD i undef)) (h : Inv F s.look (lk s.sto) I β lam a w) (hd : dstOk F.N o.dst = true) (hst : eCallI P f xs s o.dst K)
    (hk : ∀ s' a' w', K s' → Holds F s' a' w' → Kr a' w') : o.wp P a w Kr Q := by
  have hcall := hst F a w I β lam h vs hs hR
  unfold Oper.wp
  rw [hrun]
  refine hcall.mono fun e w' ⟨v, he, r, s', I', β', lam', ⟨_, hK⟩, hI, hr⟩ => ?_
  subst he
  refine hk _ _ _ hK ⟨I', β', lam', ?_⟩
  rw [look_put]
  have : (s'.put o.dst r).sto = s'.sto := by cases o.dst <;> rfl
  rw [this]
  exact hI.put hd hr

theorem sim_callI {c : Call} {fid : FuncId} {f : Opd → AV} {s : St} {K : St → Prop} {Kr : Act → World → Prop} (ho : o.op = .call c) (hc : c.callee = .value (.func fid)) (hok : okFn P fid = true)
    (hR : ∀ x ∈ c.args.toList, R I w β lam (f (trOpd x)) (a.eval x)) (h : Inv F s.look (lk s.sto) I β lam a w) (hd : dstOk F.N o.dst = true) (hst : eCallI P fid ((c.args.toList.map trOpd).map f) s o.dst K)
    (hk : ∀ s' a' w', K s' → Holds F s' a' w' → Kr a' w') : o.wp P a w Kr Q := by
  refine callI_wp (vs := (c.args.toList.map a.eval).toArray) ?_ (by simp) (args_R hR) h hd hst hk
  have hargs : c.args.map a.eval = (c.args.toList.map a.eval).toArray := by apply Array.ext'; simp
  have := run_callFunc (w := w) (vs := (c.args.toList.map a.eval).toArray) hok
  simp only [execOp, ho, resolve, hc, hargs, Act.eval, Deferred.ofValue]
  simp [invoke, this]

theorem sim_callvI {c : Call} {fv : Operand} {fid : FuncId} {caps : List AV} {f : Opd → AV} {s : St} {K : St → Prop} {Kr : Act → World → Prop} (ho : o.op = .call c) (hc : c.callee = .value fv) (hok : okFn P fid = true)
    (hv : R I w β lam (.fn (.func fid) caps) (a.eval fv))
    (hR : ∀ x ∈ c.args.toList, R I w β lam (f (trOpd x)) (a.eval x)) (h : Inv F s.look (lk s.sto) I β lam a w) (hd : dstOk F.N o.dst = true) (hst : eCallI P fid ((c.args.toList.map trOpd).map f ++ caps) s o.dst K)
    (hk : ∀ s' a' w', K s' → Holds F s' a' w' → Kr a' w') : o.wp P a w Kr Q := by
  obtain ⟨us, hv', hs, hcR⟩ := hv.fn_inv
  refine callI_wp (vs := (c.args.toList.map a.eval).toArray ++ us) ?_ (by simp [hs]) (fun i x hi => ?_) h hd hst hk
  · have hargs : c.args.map a.eval = (c.args.toList.map a.eval).toArray := by apply Array.ext'; simp
    simp only [execOp, ho, resolve, hc, hargs, hv', Deferred.ofValue]
    simp [invoke, run_callFunc hok]
  · by_cases hlt : i < c.args.toList.length
    · rw [List.getElem?_append_left (by simpa using hlt)] at hi
      have := args_R hR i x hi
      have e : ((c.args.toList.map a.eval).toArray ++ us).getD i undef = (c.args.toList.map a.eval).toArray.getD i undef := by
        have : i < c.args.size := by simpa using hlt
        simp [Array.getElem?_append, this]
      rw [e]
      exact this
    · rw [List.getElem?_append_right (by simpa using hlt)] at hi
      simp only [List.length_map] at hi
      have := hcR _ x hi
      have e : ((c.args.toList.map a.eval).toArray ++ us).getD i undef = us.getD (i - c.args.toList.length) undef := by
        have : ¬ i < c.args.size := by simpa using hlt
        simp [Array.getElem?_append, this]
      rw [e]
      exact this


/-! ### a slice literal whose array is the function's own -/

theorem RowsR.set {sz : Nat} {rows : List (List AV)} {A : Array Value} (h : RowsR I w β lam sz rows A.toList) {i : Nat} {cs : List AV} {v : Value} (hi : i < rows.length)
    (hs : v.cells.size = cs.length) (hl : cs.length = sz) (hv : ∀ j c, cs[j]? = some c → R I w β lam c (v.cells.getD j undef) ∧ single (v.cells.getD j undef) = true) :
    RowsR I w β lam sz (rows.set i cs) (v.cells.zipIdx.foldl (fun cs (c, j) => cs.setIfInBounds (i * sz + j) c) A).toList := by
  obtain ⟨h1, h2⟩ := fill_size v.cells (i * sz) A
  generalize v.cells.zipIdx.foldl (fun cs (c, j) => cs.setIfInBounds (i * sz + j) c) A = B at *
  have hA : A.size = rows.length * sz := by simpa using h.1
  refine ⟨by simp [h1, hA], fun m r hm => ?_, fun m r j c hm hj => ?_⟩
  · rw [List.getElem?_set] at hm
    split at hm
    · simp only [hi, if_true, Option.some.injEq] at hm
      rw [← hm]; exact hl
    · exact h.2.1 m r hm
  · rw [List.getElem?_set] at hm
    rw [Array.getElem?_toList, h2]
    split at hm
    · rename_i e
      subst e
      simp only [hi, if_true, Option.some.injEq] at hm
      subst hm
      have hjl : j < cs.length := (List.getElem?_eq_some_iff.1 hj).1
      have h4 : (i + 1) * sz ≤ rows.length * sz := Nat.mul_le_mul_right _ hi
      rw [Nat.add_mul] at h4
      rw [if_pos (by omega)]
      have := hv j c hj
      have hjv : j < v.cells.size := by omega
      refine ⟨v.cells[j], by simp [hjv], ?_⟩
      simpa [hjv] using this
    · rename_i e
      have hjl : j < r.length := (List.getElem?_eq_some_iff.1 hj).1
      rw [h.2.1 m r hm] at hjl
      rw [if_neg]
      · have := h.2.2 m r j c hm hj
        simpa using this
      · rintro ⟨a1, a2, _⟩
        rcases Nat.lt_or_gt_of_ne e with e | e
        · have : (i + 1) * sz ≤ m * sz := Nat.mul_le_mul_right _ e
          rw [Nat.add_mul] at this
          omega
        · have : (m + 1) * sz ≤ i * sz := Nat.mul_le_mul_right _ e
          rw [Nat.add_mul] at this
          omega

theorem rows_simR {sz : Nat} : ∀ (parts : List (Nat × Value)) (xs : List AV) (rows rows' : List (List AV)) (A : Array Value),
    (∀ (j i : Nat) (v : Value), parts[j]? = some (i, v) → ∃ X : AV, xs[j]? = some X ∧ R I w β lam X v) → parts.length = xs.length →
    rowsAU sz rows (parts.map (·.1)) xs = some rows' → RowsR I w β lam sz rows A.toList →
    ∃ A' : Array Value, Instr.fill (fun i => some (i * sz, sz)) A parts = some A' ∧ RowsR I w β lam sz rows' A'.toList ∧ rows'.length = rows.length := by
  intro parts
  induction parts with
  | nil =>
    intro xs rows rows' A _ hl hf hA
    have : xs = [] := List.eq_nil_of_length_eq_zero (by simpa using hl.symm)
    subst this
    simp only [List.map_nil, rowsAU, Option.some.injEq] at hf
    subst hf
    exact ⟨A, rfl, hA, rfl⟩
  | cons q parts ih =>
    intro xs rows rows' A hp hl hf hA
    obtain ⟨i, v⟩ := q
    obtain ⟨X, h3, h4⟩ := hp 0 i v rfl
    cases xs with
    | nil => simp at h3
    | cons X' xs =>
      simp only [List.getElem?_cons_zero, Option.some.injEq] at h3
      subst h3
      simp only [List.map_cons, rowsAU] at hf
      split at hf
      · rename_i cs hX
        split at hf
        · rename_i hcond
          obtain ⟨hn, hle⟩ := hcond
          obtain ⟨g1, g2⟩ := cells_R hX h4
          have hA' := hA.set hle g1 hn g2
          obtain ⟨A', e1, e2, e3⟩ := ih xs _ rows' _ (fun j i v hj => by
            obtain ⟨X, a3, a4⟩ := hp (j + 1) i v (by simpa using hj)
            exact ⟨X, by simpa using a3, a4⟩) (by simpa using hl) hf hA'
          refine ⟨A', ?_, e2, by rw [e3, List.length_set]⟩
          simp only [Instr.fill]
          rw [if_neg]
          · exact e1
          · have h4 : (i + 1) * sz ≤ rows.length * sz := Nat.mul_le_mul_right _ hle
            rw [Nat.add_mul] at h4
            have hA0 : A.size = rows.length * sz := by simpa using hA.1
            have h5 : v.cells.size = sz := by rw [g1]; exact hn
            simp [h5]
            omega
        · cases hf
      · cases hf

theorem sim_mksliceU {t e : TypeId} {n sz : Nat} {parts : Array (Nat × Operand)} {z : List AV} {s : St} {K : St → Prop} {Kr : Act → World → Prop} (ho : o.op = .buildSlice t n parts)
    (he : elT P t = some e) (hsz : szT P e = some sz) (hz : zeroT P e = some z) (hlim : n * sz ≤ 16777216) (h : Inv F s.look (lk s.sto) I β lam a w) (hd : dstOk F.N o.dst = true)
    (hx : ∀ p ∈ parts.toList, R I w β lam (ev s (trOpd p.2)) (a.eval p.2))
    (hst : eMksliceU sz n z (parts.toList.map (·.1)) s o.dst K ((parts.toList.map fun p => trOpd p.2).map (ev s)))
    (hk : ∀ s' a' w', K s' → Holds F s' a' w' → Kr a' w') : o.wp P a w Kr Q := by
  unfold eMksliceU at hst
  split at hst
  rotate_left
  · exact hst.elim
  rename_i rows d hf hdd
  obtain ⟨hzl, h0, hσd, hK⟩ := hst
  obtain ⟨v, hv, hvs, hA⟩ := zero_rows (P := P) (I := I) (w := w) (n := n) hz hzl
  have hu : P.underlying t = some (.slice e) := by
    unfold elT at he
    split at he <;> simp_all
  have hpl : (parts.map fun (i, x) => (i, a.eval x)).toList = parts.toList.map fun p => (p.1, a.eval p.2) := by simp
  obtain ⟨A', e1, e2, hrl⟩ := rows_simR (I := I) (w := w) (β := β) (lam := lam) (parts.toList.map fun p => (p.1, a.eval p.2)) ((parts.toList.map fun p => trOpd p.2).map (ev s)) (List.replicate n z) rows ((Array.range (n * sz)).map fun i => v.cells[i % v.cells.size]!) (fun j i u hj => by
      simp only [List.getElem?_map, Option.map_eq_some_iff] at hj
      obtain ⟨p, hp', he⟩ := hj
      simp only [Prod.mk.injEq] at he
      obtain ⟨rfl, rfl⟩ := he
      exact ⟨ev s (trOpd p.2), by simp [hp'], hx p (List.mem_iff_getElem?.2 ⟨j, hp'⟩)⟩) (by simp) (by simpa [Function.comp_def] using hf) (RowsIn.toR (A := ((Array.range (n * sz)).map fun i => v.cells[i % v.cells.size]!).toList) hA)
  rw [List.length_replicate] at hrl
  have hr : (execOp a.eval o).run P w = .ok (.value (.slice (some ⟨w.heap.size, 0, none⟩) n n)) (w.alloc (.cells A' e)) := by
    simp only [execOp, ho]
    have : (Instr.buildSlice t n (parts.map fun (i, x) => (i, a.eval x))).run P w = .ok (.slice (some ⟨w.heap.size, 0, none⟩) n n) (w.alloc (.cells A' e)) := by
      unfold Instr.buildSlice
      simp only [Sem.run_bind, run_underlying hu, Result.andThen_ok, run_cast hsz]
      rw [if_neg (by simpa using hlim)]
      by_cases hn : n * sz = 0
      · have hn0 : n = 0 := by
          rcases Nat.mul_eq_zero.1 hn with h | h <;> omega
        subst hn0
        have hz1 : ∀ g : Nat → Value, (Array.range 0).map g = #[] := fun g => by simp
        rw [Nat.zero_mul, hz1] at e1
        simp only [Nat.zero_mul, if_true, Sem.run_bind, Sem.run_pure, Result.andThen_ok, hpl, hz1]
        rw [e1]
        simp [newRow]
      · simp only [hn, if_false, Sem.run_bind, hv, Result.andThen_ok, Sem.run_pure, hpl]
        rw [e1]
        simp [newRow]
    exact run_bindv this
  have hb : Below w.heap.size w (w.alloc (.cells A' e)) := (Below.refl _ _).alloc (Nat.le_refl _) _
  have hw : ∀ b p v, I b p → w.cell? ⟨b, p, none⟩ = some v → (w.alloc (.cells A' e)).cell? ⟨b, p, none⟩ = some v := fun b p v hip hv => by
    rw [hb.cell (p := ⟨b, p, none⟩) (h.Isub _ _ hip)]; exact hv
  have hcells : ∀ m, (w.alloc (.cells A' e)).cell? ⟨w.heap.size, m, none⟩ = A'[m]? := fun m => World.cell?_alloc_new w _ _ _
  have hsize : A'.size = n * sz := by have := e2.1; rw [hrl] at this; simpa using this
  refine wp_val hr ?_
  rw [hdd]
  rw [hdd] at hd
  have hσ' : ∀ en, lk s.sto (s.base + d) = some en → en.isU = true := fun en he => by rw [hσd] at he; cases he
  refine hk _ _ _ hK ⟨I, β, (fun l' => if l' = s.base + d then some (some ⟨w.heap.size, 0, none⟩, 0, n, sz) else lam l'), ?_⟩
  have hst' : lk (((s.dg (s.base + d)).put (some d) (.us (s.base + d) sz 0 n)).new (some d) (some (.uarr sz (rowsDg (s.base + d) rows)))).sto =
      setE (fun k => (lk s.sto k).map (dgE (s.base + d))) (some (s.base + d)) (some (.uarr sz (rowsDg (s.base + d) rows))) := by
    simp only [St.new]
    rw [show ((s.dg (s.base + d)).put (some d) (AV.us (s.base + d) sz 0 n)).base = s.base from rfl, lk_pt_setE,
      show ((s.dg (s.base + d)).put (some d) (AV.us (s.base + d) sz 0 n)).sto = (s.dg (s.base + d)).sto from rfl, (lk_dg s (s.base + d)).2]
  have hlk : (((s.dg (s.base + d)).put (some d) (.us (s.base + d) sz 0 n)).new (some d) (some (.uarr sz (rowsDg (s.base + d) rows)))).look =
      setE (fun t => (s.look t).map (dg (s.base + d))) (slot (some d)) (some (.us (s.base + d) sz 0 n)) := by
    rw [← look_dg_put]; simp only [St.new]; exact look_sto
  rw [hst', hlk]
  refine (h.ownerU (s.base + d) hσ' (ad := some ⟨w.heap.size, 0, none⟩) (cap := n) (sz := sz) (hb.mono h.le) hw (fun k b hk => hb.block b (h.bnew k b hk).2.1) (fun c hc => ?_)
      (fun l' av' len' cap' sz' hne' hl' c h1 h2 b o' ha => ?_) (fun lam' hlam hlam2 => RU_of hw hlam hlam2 (by omega) e2.2.1 (fun j r m c hj hm => ?_))).put hd ?_
  · refine ⟨w.heap.size, 0, rfl, h.le, ?_, World.frozen?_alloc_new w _ _ _, fun hp => ?_, fun k hk => Nat.lt_irrefl _ (h.bnew k _ hk).2.1⟩
    · rw [Nat.zero_add, hcells]
      exact ⟨_, Array.getElem?_eq_getElem (by omega)⟩
    · exact Nat.lt_irrefl _ (h.Isub _ _ hp)
  · obtain ⟨b1, o1, e1, _, ⟨v1, e3⟩, _⟩ := h.spare l' _ _ _ _ hl' c h1 h2
    rw [ha] at e1
    cases e1
    have hlt : b < w.heap.size := World.block_lt_of_cell? _ _ e3
    refine ⟨hb.block b hlt, fun o'' hq => ?_⟩
    simp only [Option.some.injEq, Addr.mk.injEq] at hq
    omega
  · obtain ⟨v, g1, g2, g3⟩ := e2.2.2 j r m c hj hm
    refine ⟨v, ?_, g3, g2⟩
    rw [Nat.zero_add, hcells]
    simpa using g1
  · exact .us _ _ _ _ n n (some ⟨w.heap.size, 0, none⟩) (some ⟨w.heap.size, 0, none⟩) (by simp) (Nat.le_refl _) (by omega) (fun _ => ⟨w.heap.size, 0, rfl, by simp⟩)

end
end Go.Am
