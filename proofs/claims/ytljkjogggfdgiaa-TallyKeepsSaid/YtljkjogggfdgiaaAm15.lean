/-
  The abstract machine, part 15: append and copy as operations; what is dropped and frozen.
-/
import Derived.Test.YtljkjogggfdgiaaAm14
namespace Go.Am
open Go.RowKit

section
variable {P : Program} {F : Frame0} {e : Nat × Nat → Option AV} {σ : Nat → Option Entry} {I : Nat → Nat → Prop} {w : World} {β : Blocks} {lam : Owned} {a : Act} {o : Oper}
  {Q : Exit → Act → World → Prop}

theorem zeroT_info {t : TypeId} {z : List AV} (h : zeroT P t = some z) : ∃ i v, P.info? t = some i ∧ i.zero = some v ∧ v.cells.size = z.length := by
  unfold zeroT at h
  cases hi : P.info? t with
  | none => simp [hi] at h
  | some i =>
    cases hz : i.zero with
    | none => simp [hi, hz] at h
    | some v =>
      simp only [hi, Option.bind_some, hz] at h
      split at h
      · simp only [Option.some.injEq] at h
        subst h
        exact ⟨i, v, rfl, hz, by simp⟩
      · cases h

theorem kind_of {u : TypeId} (h : isStrT P u = true ∨ (elT P u).isSome = true) : (∃ e', P.underlying u = some (.slice e')) ∨ P.underlying u = some .string := by
  rcases h with h | h
  · right
    unfold isStrT at h
    split at h <;> simp_all
  · left
    unfold elT at h
    split at h
    · exact ⟨_, by assumption⟩
    · simp at h

theorem underlying_of {t e' : TypeId} (he : elT P t = some e') : P.underlying t = some (.slice e') := by
  unfold elT at he
  split at he <;> simp_all

theorem app_res {t u ty e' : TypeId} {sz by_ : Nat} {z : List AV} {x : Value} {av : Option Addr} {cap l : Nat} {rows rows2 : List (List AV)} {news : List Value} (he : elT P t = some e') (hsz : szT P e' = some sz) (hby : byT P e' = some by_)
    (hz : zeroT P e' = some z) (hzl : z.length = sz) (h : Inv F e σ I β lam a w) (hσl : σ l = none) (hs : Src P sz u x rows2.length news w) (hn : RowsIn I w sz rows2 news.toArray) (h0 : 0 < sz)
    (hR0 : R0 I w (.list sz .plain rows) (.slice av rows.length cap)) (hcap : rows.length ≤ cap)
    (hl : (R I w β lam (.list sz (.own l) rows) (.slice av rows.length cap) ∧ lam l = some (av, rows.length, cap, sz)) ∨ cap = rows.length)
    (hb1 : (rows.length + rows2.length) * by_ ≤ 140737488355328) (hb2 : rows.length + rows2.length ≤ 9223372036854775807) :
    AppRes P F e σ β lam a w t u ty (.slice av rows.length cap) x l sz (rows ++ rows2) := by
  obtain ⟨i, zv, hi, hiz, hzs⟩ := zeroT_info hz
  have hisz : i.size = sz := by
    unfold szT at hsz
    simpa [hi] using hsz
  have hiby : i.bytes = by_ := by
    unfold byT at hby
    simpa [hi] using hby
  by_cases hr2 : rows2 = []
  · subst hr2
    have hnil : news = [] := by
      have := hs.newsLen
      simpa using this
    subst hnil
    rw [List.append_nil]
    exact app_zero (underlying_of he) hi hisz h hσl (by rw [hisz] at *; exact hs) hcap hR0 (hl.imp (fun h => h.2) id)
  · by_cases hroom : rows.length + rows2.length ≤ cap
    · rcases hl with ⟨hR, hl⟩ | hl
      · exact app_room (underlying_of he) hi hisz h hσl hs hn h0 hr2 hroom hR hl
      · exfalso
        have : 0 < rows2.length := by
          cases rows2 with
          | nil => exact absurd rfl hr2
          | cons => simp
        omega
    · obtain ⟨rows', olds, rfl, hos, hol⟩ := add_src (P := P) (σ := fun _ => none) (kk := fun r => r = rows) (tx := t) (.inl ⟨e', underlying_of he⟩) (fun _ _ => h0) (fun _ _ _ h => by cases h) (fun _ _ _ h => by cases h) (R.base (β := β) (lam := lam) hR0)
        (show addRows (fun _ => none) sz (.list sz .plain rows) (fun r => r = rows) from ⟨.inr rfl, rfl⟩)
      exact app_grow (underlying_of he) hi hisz hiz (by omega) h hσl hs hn hos.cellsD hol (by omega) (by rw [hiby]; exact hb1) hb2

theorem lk_dg (s : St) (l : Nat) : (s.dg l).look = (fun t => (s.look t).map (dg l)) ∧ lk (s.dg l).sto = (fun k => (lk s.sto k).map (dgE l)) := by
  refine ⟨funext fun t => ?_, funext fun _ => lk_map _ _ _⟩
  obtain ⟨f, t⟩ := t
  cases f with
  | zero => exact lk_map _ _ _
  | succ f =>
    simp only [St.look, St.dg, List.getElem?_map]
    cases s.out[f]? with
    | none => rfl
    | some q => exact lk_map _ _ _

theorem dst_lt {N d : Nat} (h : dstOk N (some d) = true) : d < N := by simpa [dstOk] using h

theorem sim_append {c : Call} {xs xx : Operand} {t u e' : TypeId} {sz by_ : Nat} {z : List AV} {X Y : AV} {s : St} {K : St → Prop} {Kr : Act → World → Prop} (ho : o.op = .call c)
    (hc : c.callee = .builtin .append) (hargs : c.args = #[xs, xx]) (hts : c.argTypes = #[t, u]) (he : elT P t = some e') (hsz : szT P e' = some sz) (hby : byT P e' = some by_)
    (hz : zeroT P e' = some z) (hzl : z.length = sz) (hu : isStrT P u = true ∨ (elT P u).isSome = true) (h : Inv F s.look (lk s.sto) I β lam a w) (hd : dstOk F.N o.dst = true)
    (hX : R I w β lam X (a.eval xs)) (hY : R I w β lam Y (a.eval xx)) (hst : eAppend sz by_ s o.dst K [X, Y])
    (hk : ∀ s' a' w', K s' → Holds F s' a' w' → Kr a' w') : o.wp P a w Kr Q := by
  unfold eAppend at hst
  split at hst
  · rename_i sz1 m rows Y' heq
    simp only [List.cons.injEq, and_true] at heq
    obtain ⟨rfl, rfl⟩ := heq
    have hσ : ∀ k en b, lk s.sto k = some en → β k = some b → RE I w β lam b en := fun k en b h1 h2 => by
      obtain ⟨en', h3, h4⟩ := h.bdom k b h2
      rw [h1] at h3; cases h3
      obtain ⟨b', hb', hE⟩ := h.sto k en h1 h4
      rw [h2] at hb'; cases hb'
      exact hE
    obtain ⟨rows2, news, ⟨h0, hb1, hb2, hst⟩, hs, hn⟩ := add_src (P := P) (w := w) (tx := u) (kind_of hu) (fun rows h => h.1) hσ h.usto hY hst
    have fin : ∀ (l d : Nat), o.dst = some d → AppRes P F s.look (lk s.sto) β lam a w t u o.type (a.eval xs) (a.eval xx) l sz (rows ++ rows2) →
        K ((s.dg l).put (some d) (.list sz (.own l) (rows ++ rows2))) → o.wp P a w Kr Q := by
      intro l d hdd ⟨v, w', I', q, hrun, hI, hR⟩ hK
      have hrun' : (execOp a.eval o).run P w = .ok (.value v) w' := by
        simp [execOp, ho, resolve, hc, hargs, invoke, builtin, hts, hrun]
      refine wp_val hrun' ?_
      rw [hdd]
      refine hk _ _ w' hK ⟨I', β, (fun l' => if l' = l then some q else lam l'), ?_⟩
      rw [hdd] at hd
      have := hI.put hd hR
      obtain ⟨e1, e2⟩ := lk_dg s l
      rw [look_put, e1, show ((s.dg l).put (some d) (AV.list sz (.own l) (rows ++ rows2))).sto = (s.dg l).sto from rfl, e2]
      exact this
    split at hst
    · rename_i d' hdd _
      obtain ⟨hs1, hσl, hst⟩ := hst
      obtain ⟨av, cap, hv, hcap, hfull, _⟩ := hX.list_inv
      rw [hfull rfl] at hv
      refine fin (s.base + d') d' hdd ?_ hst
      rw [hv]
      have hR0 : R0 I w (.list sz .plain rows) (.slice av rows.length rows.length) := by
        have hX0 := hX
        rw [hv] at hX0
        cases hX0 with
        | base h =>
          cases h with
          | listNil _ _ _ _ _ _ => exact .listNil _ _ _ _ (by simp) (by simp)
          | list _ _ _ b q cap g hc1 hm ho2 hrow hcell hcc =>
            have hne : rows ≠ [] ∨ rows = [] := by cases rows <;> simp
            rcases hne with hne | hne
            · have := hs1.resolve_left hne
              subst this
              exact .list _ _ _ b q _ g hc1 (by simp) (by simp) hrow hcell hcc
            · subst hne
              exact .listNil _ _ _ _ (by simp) (by simp)
      exact app_res he hsz hby hz hzl h hσl hs hn h0 hR0 (Nat.le_refl _) (.inr rfl) hb1 hb2
    · rename_i l' d' hdd _
      obtain ⟨rfl, hσl, hst⟩ := hst
      obtain ⟨av, cap, hv, hl, hR0⟩ := hX.own_inv
      obtain ⟨av', cap', hv', hcap, _⟩ := hX.list_inv
      rw [hv] at hv'
      cases hv'
      refine fin l' d' hdd ?_ hst
      rw [hv] at hX hR0 ⊢
      exact app_res he hsz hby hz hzl h hσl hs hn h0 hR0 hcap (.inl ⟨hX, hl⟩) hb1 hb2
    · exact hst.elim
  · exact hst.elim

end
end Go.Am
