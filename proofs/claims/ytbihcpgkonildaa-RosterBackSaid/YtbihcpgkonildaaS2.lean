import Derived.RangeFuncFrom
import Derived.RangeFuncBound
import Derived.Deep.RegionHeld
import Derived.Test.YtbihcpgkonildaaS1
namespace Go.Proofs.Ytbihcpgkonildaa
open Go Go.RowKit Go.Shelf

attribute [local go_sem] Oper.semAt_some

theorem cell_of_box_l {W : World} {B : Nat} {v : Value} {t : TypeId} (h : W.heap[B]? = some (.cells #[v] t (0, 0))) : W.cell? ⟨B, 0, none⟩ = some v ∧ W.frozen? ⟨B, 0, none⟩ = false := by
  constructor <;> simp [World.cell?, World.frozen?, h]
theorem cell_new_l (W : World) (v : Value) (t : TypeId) : (W.alloc (.cells #[v] t)).cell? ⟨W.heap.size, 0, none⟩ = some v ∧ (W.alloc (.cells #[v] t)).frozen? ⟨W.heap.size, 0, none⟩ = false :=
  cell_of_box_l (World.alloc_heap_new W _)
theorem cell_alloc_l {W : World} {a : Addr} {v : Value} (o : Obj) (h : W.cell? a = some v) : (W.alloc o).cell? a = some v := cell_kept h (World.grownBy_alloc W o none) (fun r e => by cases e)
theorem frozen_alloc_l {W : World} {a : Addr} {v : Value} (o : Obj) (h : W.cell? a = some v) (hf : W.frozen? a = false) : (W.alloc o).frozen? a = false := (frozen_kept h (World.grownBy_alloc W o none) (fun r e => by cases e)).trans hf

theorem sets_stops (F : Fence) (n : Nat) (h30 : F.fn 30) (hro : F.round = none) (hn : 1 ≤ n) (Bn n₀ : Nat) (m : Int) (w : World) (hBn : Bn < w.heap.size) (hc : w.cell? ⟨Bn, 0, none⟩ = some (.int .i64 m)) :
    SeqStopsK F n Try.prog 30 #[.pointer (some ⟨Bn, 0, none⟩)] (fun x : Int => #[Value.int .i64 x]) (Below n₀) (fun ys => ys = upTo (setsN m)) (fun pre => pre <+: upTo (setsN m)) (upTo (setsN m)).length w := fun l J Jx W hW _ _ hY h0 =>
  (sets1_in F n h30 hro hn l Bn n₀ m J Jx (fun pre x W1 h1 h2 => YieldAt.mono (hY pre x W1 h1 h2) (by rintro e W' (⟨a, b, c⟩ | h); exact .inl ⟨a, b, c⟩; exact .inr h)) W ((hW.cell (p := ⟨Bn, 0, none⟩) hBn).trans hc) h0).mono (by
    rintro e W' ⟨h1, (⟨ys, a, b⟩ | ⟨pre, a, b⟩)⟩
    · exact ⟨h1, .inl ⟨ys, a, b⟩⟩
    · exact ⟨h1, .inr ⟨pre, a, b⟩⟩)

theorem sets0_in (F : Fence) (n : Nat) (h25 : F.fn 25) (hro : F.round = none) (m : Int) (w : World) :
    CallsIn F n Try.prog 25 #[.int .i64 m] w fun e w' => e = .returned (.func (.func 30) #[] #[.pointer (some ⟨w.heap.size, 0, none⟩)]) ∧ w' = w.alloc (.cells #[.int .i64 m] 3) := by
  refine callsIn_of_wp Try.func25 rfl h25 ?_ hro
  simp only [Try.ntmps25, List.size_toArray, List.length_cons, List.length_nil, Nat.reduceAdd, Nat.reduceSub, Array.replicate_succ, Array.replicate_zero, List.push_toArray, List.append_toArray, List.nil_append, List.cons_append]
  gi_wp2
  go_ret
  exact ⟨rfl, rfl⟩

theorem nil46 (f : Fn) (a b : Array Value) (w : World) : (binOp .eql 46 (.func f a b) .nilFunc).run Try.prog w = .ok (.bool false) w := by
  rfl

theorem ownsRow_down {W : World} {b b' : Nat} {e : TypeId} {size : Nat} {v : Value} {k : Nat} {xs : List Value} (h : W.ownsRow b e size v k xs) (hb : b' ≤ b) : W.ownsRow b' e size v k xs :=
  ⟨h.1, h.2.imp id fun ⟨g, cap, cur, h1, h2, h3⟩ => ⟨g, cap, cur, h1, Nat.le_trans hb h2, h3⟩⟩

theorem info3 : (Try.prog.info? 3).map (fun i => (i.zero, i.size, i.bytes)) = some (some (.int .i64 0), 1, 8) := by kernel_rfl

set_option maxRecDepth 100000 in
set_option maxHeartbeats 2000000 in
theorem sets2_in (F : Fence) (n : Nat) (h8 : F.fn 8) (h25 : F.fn 25) (h30 : F.fn 30) (hro : F.round = none) (hn : 3 ≤ n) (m k : Int) (w : World) :
    CallsIn F n Try.prog 8 #[.int .i64 m, .int .i64 k] w fun e w' => ∃ v, e = .returned (.tuple #[v, .bool true]) ∧
      w'.ownsRow w.heap.size 3 1 v (min (setsN m) k.toNat) ((upTo (min (setsN m) k.toNat)).map (Value.int .i64)) ∧ Below w.heap.size w w' := by
  have h1 : 1 ≤ n := by omega
  obtain ⟨i0, hi, hz0, hz1, hz2⟩ := info_parts info3
  refine callsIn_of_wp_marks Try.func8 rfl h8 ?_ hro
  simp only [Try.ntmps8, List.size_toArray, List.length_cons, List.length_nil, Nat.reduceAdd, Nat.reduceSub, Array.replicate_succ, Array.replicate_zero, List.push_toArray, List.append_toArray, List.nil_append, List.cons_append]
  have hnil := nil46
  gi_wp2_with (gi_at_call 25; refine (sets0_in F (n - 1) h25 hro _ _).mono ?_; rintro e w' ⟨rfl, rfl⟩)
  have c0 := cell_new_l w (.int .i64 k) 3
  have c1 := cell_new_l (w.alloc (.cells #[.int .i64 k] 3)) (.int .i64 m) 3
  simp only [World.size_alloc] at c1
  obtain ⟨W0, hW0⟩ : ∃ W0, ((w.alloc (.cells #[.int .i64 k] 3)).alloc (.cells #[.int .i64 m] 3)).alloc (.cells #[.slice none 0 0] 22) = W0 := ⟨_, rfl⟩
  have hsz : W0.heap.size = w.heap.size + 3 := by rw [← hW0]; simp
  have hbx : Boxed W0 (w.heap.size + 2) 22 (.slice none 0 0) := by
    rw [← hW0]
    have := Boxed.new ((w.alloc (.cells #[.int .i64 k] 3)).alloc (.cells #[.int .i64 m] 3)) 22 (.slice none 0 0)
    simpa only [World.size_alloc] using this
  have hc0 : W0.cell? ⟨w.heap.size, 0, none⟩ = some (.int .i64 k) ∧ W0.frozen? ⟨w.heap.size, 0, none⟩ = false := by
    rw [← hW0]
    exact ⟨cell_alloc_l _ (cell_alloc_l _ c0.1), frozen_alloc_l _ (cell_alloc_l _ c0.1) (frozen_alloc_l _ c0.1 c0.2)⟩
  have hc1 : W0.cell? ⟨w.heap.size + 1, 0, none⟩ = some (.int .i64 m) := by
    rw [← hW0]
    exact cell_alloc_l _ c1.1
  have hb0 : Below w.heap.size w W0 := by
    rw [← hW0]
    exact (((Below.refl _ w).alloc (Nat.le_refl _) _).alloc (by simp) _).alloc (by simp; omega) _
  have hW0' : ((w.alloc (.cells #[.int .i64 k] 3)).alloc (.cells #[.int .i64 m] 3)).alloc (.cells #[.slice none 0 0] 22) = W0 := hW0
  simp only [hW0']
  clear hW0 hW0' c0 c1
  have hN : (upTo (setsN m)).length ≤ 256 := by rw [upTo_len]; exact setsN_le
  have hmax : 257 ≤ maxLen := by decide
  refine wpIn_rangeFunc_ownF hro h1 (gf := 30) (lb := #[.pointer (some ⟨w.heap.size + 1, 0, none⟩)]) rfl h30 (enters_of Try.func30 (by kernel_rfl) rfl)
    (sets_stops F (n - 1) h30 hro (by omega) (w.heap.size + 1) w.heap.size m W0 (by omega) hc1) belowK_t (belowK_b (by omega)) (Below.refl _ _) (fun _ => rfl)
    (fun pre W => ((∃ v, Boxed W (w.heap.size + 2) 22 v ∧ W.ownsRow (w.heap.size + 3) 3 1 v pre.length (pre.map (Value.int .i64)) ∧ (v = .slice none 0 0 ↔ pre = [])) ∧ (W.cell? ⟨w.heap.size, 0, none⟩ = some (.int .i64 k) ∧ W.frozen? ⟨w.heap.size, 0, none⟩ = false ∧ pre.length ≤ k.toNat)) ∧ Below w.heap.size w W)
    (fun c pre W => ((c = .exit 0 ∧ ∃ v, Boxed W (w.heap.size + 2) 22 v ∧ W.ownsRow (w.heap.size + 3) 3 1 v (pre.length - 1) (pre.dropLast.map (Value.int .i64)) ∧ (pre ≠ [] ∧ pre.length - 1 = k.toNat)) ∧ True) ∧ Below w.heap.size w W)
    ?hI ?hIx ?h0
    (fun x => { tmps := #[.int .i64 m, .int .i64 k, undef, .pointer (some ⟨w.heap.size, 0, none⟩), .slice none 0 0, .bool false, .func (.func 30) #[] #[.pointer (some ⟨w.heap.size + 1, 0, none⟩)], .pointer (some ⟨w.heap.size + 2, 0, none⟩), .int .i64 x, .int .i64 m, .func (.func 30) #[] #[.pointer (some ⟨w.heap.size + 1, 0, none⟩)], .func (.func 30) #[] #[.pointer (some ⟨w.heap.size + 1, 0, none⟩)], .bool false, .func (.func 30) #[] #[.pointer (some ⟨w.heap.size + 1, 0, none⟩)], .int .i64 x, undef, undef, undef, undef, undef, undef, undef, undef, undef], defers := [] }) ?assign ?body ?done ?stop
  case hI =>
    refine OwnFrom.and (Own.from (fun s A B row hs hg hr => ⟨holdsRow_own (w.heap.size + 3) (w.heap.size + 2) 22 3 1 (fun pre : List Int => pre.length) (fun pre => pre.map (Value.int .i64)) (fun pre v => (v = .slice none 0 0 ↔ pre = [])) s A B row hs.1 hg hr, cell_kept hs.2.1 hg hr, (frozen_kept hs.2.1 hg hr).trans hs.2.2.1, hs.2.2.2⟩) _) (ownFrom_below (Nat.le_refl _) (by omega))
  case hIx =>
    intro c
    refine OwnFrom.and (Own.from (fun s A B row hs hg hr => ⟨⟨hs.1.1, holdsRow_own (w.heap.size + 3) (w.heap.size + 2) 22 3 1 (fun pre : List Int => pre.length - 1) (fun pre => pre.dropLast.map (Value.int .i64)) (fun pre v => pre ≠ [] ∧ pre.length - 1 = k.toNat) s A B row hs.1.2 hg hr⟩, trivial⟩) _) (ownFrom_below (Nat.le_refl _) (by omega))
  case h0 => exact ⟨⟨⟨_, hbx, ⟨rfl, .inl ⟨rfl, rfl⟩⟩, by simp⟩, hc0.1, hc0.2, by simp⟩, hb0⟩
  case assign =>
    intro l x W K hK
    gi_wp2
    exact hK
  case body =>
    rintro l pre x W ⟨⟨⟨v, hv, hrow, hnv⟩, hk1, hk2, hk3⟩, hB⟩ hlt
    have hcell := hv.cell
    have hfroz := hv.frozen
    obtain ⟨av, cap, rfl⟩ : ∃ av cap, v = .slice av pre.length cap := by
      rcases hrow.2 with ⟨rfl, h⟩ | ⟨g, cap, cur, rfl, _⟩
      · exact ⟨none, 0, by rw [h]⟩
      · exact ⟨_, cap, rfl⟩
    by_cases hge : k ≤ (pre.length : Int)
    · gi_wp2
      refine ⟨KeepsOthers.refl _, ⟨⟨rfl, _, hv, by simpa using hrow, by simp, by simp; omega⟩, trivial⟩, hB⟩
    · have hge' : ¬ k ≤ (pre.length : Int) := hge
      gi_wp2_with (gi_at_builtin; refine wpListIn_append_own _ rfl _ _ 22 rfl (w.heap.size + 3) 3 i0 (.int .i64 0) 1 8 Try.underlying22 hi hz0 hz1 hz2 rfl (by decide) _ _ _ rfl (hrow.alloc _) ⟨W.heap.size, 0, none⟩ 1 1 [Value.int .i64 x] rfl rfl (cell_one_new _ _ _) (by simp [Value.oneCell']) (by omega) (by omega) (by have := hv.lt; simp; omega) ?_; intro v' w1 hown' hgrow _; obtain ⟨g', cap', rfl⟩ := ownsRow_succ hown'; obtain ⟨hv1, hv2, hr2, hk2', hb2⟩ := hv.appended (by decide) (ownsRow_down hrow (Nat.le_add_right _ 3)) hB.size (by omega) (ownsRow_down hown' (Nat.le_add_right _ 3)) hgrow; have hc1 := hv1.cell; have hf1 := hv1.frozen)
      have hr3 : (w1.setCell ⟨w.heap.size + 2, 0, none⟩ (.slice (some ⟨g', 0, none⟩) (pre.length + 1) cap')).ownsRow (w.heap.size + 3) 3 1 (.slice (some ⟨g', 0, none⟩) (pre.length + 1) cap') (pre.length + 1) (pre.map (Value.int .i64) ++ [Value.int .i64 x]) :=
        hown'.kept (grownBy_setCell' w1 _ _) (.inr (hv1.not_row (by decide) hown').symm)
      have hne : some w.heap.size ≠ (Value.slice av pre.length cap).ownBlock := by
        rcases hrow.2 with ⟨e, _⟩ | ⟨g, cap2, cur, e, hg, _⟩
        · rw [e]; simp [Value.ownBlock]
        · rw [e]; simp only [Value.ownBlock, ne_eq, Option.some.injEq]; omega
      have hkc : w1.cell? ⟨w.heap.size, 0, none⟩ = some (.int .i64 k) ∧ w1.frozen? ⟨w.heap.size, 0, none⟩ = false := by
        have hlt2 := hv.lt
        have e1 : w1.heap[w.heap.size]? = W.heap[w.heap.size]? := (hgrow.block _ (by simp; omega) hne).trans (Below.heap_alloc _ _ _ (by omega))
        exact ⟨(World.cell?_of_block e1).trans hk1, (World.frozen?_of_block e1).trans hk2⟩
      refine ⟨hk2', hb2, ⟨⟨_, hv2, by simpa using hr3, by simp⟩, ?_, ?_, by simp; omega⟩, hB.trans hb2⟩
      · rw [World.cell?_setCell_far _ _ _ _ (by simp)]; exact hkc.1
      · rw [World.frozen?_setCell]; exact hkc.2
  case done =>
    rintro D ys W hD rfl ⟨⟨⟨v, hv, hrow, hnv⟩, hk1, hk2, hk3⟩, hB⟩ hK
    have hcell := hv.cell
    have hfroz := hv.frozen
    gi_wp2
    refine ⟨by simp, .inl ⟨_, _, rfl, run_takeDeferred hK, ?_⟩⟩
    have hmin : min (setsN m) k.toNat = setsN m := by rw [upTo_len] at hk3; omega
    have hl := upTo_len (k := setsN m)
    refine ⟨_, results_tmp2 rfl _ _ _, v, rfl, ?_, ?_⟩
    · rw [hmin]
      rw [hl] at hrow
      exact ownsRow_putObj (ownsRow_down hrow (Nat.le_add_right _ 3)) _ hK rfl
    · exact hB.trans (belowK_b (w := w) (Nat.le_refl _) W D _ _ (by omega) hK rfl rfl)
  case stop =>
    rintro D c pre W hD hpre ⟨⟨⟨rfl, v, hv, hrow, hne, hlen⟩, _⟩, hB⟩ hK
    have hcell := hv.cell
    have hfroz := hv.frozen
    gi_wp2
    refine ⟨by simp, .inl ⟨_, _, rfl, run_takeDeferred hK, ?_⟩⟩
    have e1 := hpre.length_le
    rw [upTo_len] at e1
    have hl2 : 0 < pre.length := List.length_pos_iff.2 hne
    have hmin : min (setsN m) k.toNat = pre.length - 1 := by omega
    have e2 : pre.dropLast = upTo (pre.length - 1) := by
      obtain ⟨t, ht⟩ := hpre
      apply List.ext_getElem
      · simp [upTo]
      · intro i h1 h2
        simp only [List.length_dropLast] at h1
        have : pre[i] = (pre ++ t)[i]'(by simp; omega) := by rw [List.getElem_append_left]
        simp only [List.getElem_dropLast, this, ht]
        simp [upTo]
    refine ⟨_, results_tmp2 rfl _ _ _, v, rfl, ?_, ?_⟩
    · rw [hmin, ← e2]
      exact ownsRow_putObj (ownsRow_down hrow (Nat.le_add_right _ 3)) _ hK rfl
    · exact hB.trans (belowK_b (w := w) (Nat.le_refl _) W D _ _ (by omega) hK rfl rfl)
end Go.Proofs.Ytbihcpgkonildaa
