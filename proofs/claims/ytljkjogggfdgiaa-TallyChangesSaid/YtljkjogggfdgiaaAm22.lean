/-
  The abstract machine, part 22: code, and functions.
-/
import Derived.Test.YtljkjogggfdgiaaAm21
import Derived.Scope
import Derived.Deep.LoopGhost
namespace Go.Am
open Go.RowKit

section
variable {P : Program} {F : Frame0}

def noGo : Exit → Bool
  | .normal => true
  | .exit _ => true
  | .ret => true
  | _ => false

theorem bare_region {ac : ACode} {draw : Bool} {l : List AOper} (h : ACode.region draw [] l [] [] = bare ac) : ∃ FK D DK, ac = .region draw FK l D DK := by
  cases ac <;> simp only [bare, reduceCtorEq, ACode.region.injEq] at h
  obtain ⟨rfl, _, rfl, _, _⟩ := h
  exact ⟨_, _, _, rfl⟩

theorem code_sound : ∀ (c : Code) (ac : ACode), trCode P F.N c = some (bare ac) → ∀ {s : St} {a : Act} {w : World} {K : Exit → St → Prop} {Q : Exit → Act → World → Prop}, Holds F s a w → awp P ac s K →
    (∀ e s' a' w', noGo e = true → K e s' → Holds F s' a' w' → Q e a' w') → c.wp P Q a w := by
  intro c
  induction c with
  | skip =>
    intro ac htr s a w K Q hH h hk
    simp only [trCode, Option.some.injEq] at htr
    cases ac <;> simp only [bare, reduceCtorEq] at htr
    exact wp_skip (hk _ _ _ _ rfl h hH)
  | region id ops draw =>
    intro ac htr s a w K Q hH h hk
    simp only [trCode] at htr
    split at htr
    · rename_i l hl
      split at htr
      · rename_i hd
        simp only [Option.some.injEq] at htr
        obtain ⟨FK, D, DK, rfl⟩ := bare_region htr
        simp only [awp] at h
        obtain ⟨s0, h, hH⟩ := holds_freezes FK hH h
        have hk' : ∀ s' a' w', (dropK (s'.drop D) DK fun s'' => K .normal s'') → Holds F s' a' w' → Q .normal a' w' := by
          intro s' a' w' hK hH'
          obtain ⟨s'', h1, h2⟩ := holds_dropK (holds_drop hH') hK
          exact hk _ _ _ _ rfl h1 h2
        cases draw with
        | false => exact wp_region_list (seq_region ops ops.toList l hl hH h hk')
        | true => exact drawn_region hl (by simpa using hd) hH h hk'
      · cases htr
    · cases htr
  | seq x y ihx ihy =>
    intro ac htr s a w K Q hH h hk
    simp only [trCode] at htr
    split at htr
    · rename_i bx by_ hx hy
      simp only [Option.some.injEq] at htr
      cases ac <;> simp only [bare, reduceCtorEq, ACode.seq.injEq] at htr
      rename_i ax ay
      obtain ⟨rfl, rfl⟩ := htr
      simp only [awp] at h
      refine wp_seq (ihx ax hx hH h fun e s' a' w' hne hK hH' => ?_)
      cases e with
      | normal => exact ihy ay hy hH' hK hk
      | exit id => exact hk _ _ _ _ rfl hK hH'
      | ret => exact hk _ _ _ _ rfl hK hH'
      | goto l => cases hne
      | panic ch => cases hne
      | outgrown => cases hne
    · cases htr
  | cond c x y ihx ihy =>
    intro ac htr s a w K Q hH h hk
    simp only [trCode] at htr
    split at htr
    · rename_i bx by_ hx hy
      simp only [Option.some.injEq] at htr
      cases ac <;> simp only [bare, reduceCtorEq, ACode.cond.injEq] at htr
      rename_i c' ax ay
      obtain ⟨rfl, rfl, rfl⟩ := htr
      simp only [awp] at h
      split at h
      · rename_i b hb
        have hc : a.eval c = .bool b := by
          obtain ⟨I, β, lam, hI⟩ := hH
          have := hI.opd c
          rw [hb] at this
          exact this.val_eq
        exact wp_cond_split hc (fun e => ihx ax hx hH (h.1 e) hk) (fun e => ihy ay hy hH (h.2 e) hk)
      · exact h.elim
    · cases htr
  | block id c ih =>
    intro ac htr s a w K Q hH h hk
    simp only [trCode, Option.map_eq_some_iff] at htr
    obtain ⟨bc, hc, htr⟩ := htr
    cases ac <;> simp only [bare, reduceCtorEq, ACode.block.injEq] at htr
    rename_i id' ac'
    obtain ⟨rfl, rfl⟩ := htr
    simp only [awp] at h
    refine wp_block (ih ac' hc hH h fun e s' a' w' hne hK hH' => ?_)
    cases e with
    | normal => exact hk _ _ _ _ rfl hK hH'
    | exit i =>
      simp only [blockK] at hK
      simp only [Exit.inBlock]
      split
      · rename_i e; rw [if_pos e] at hK; exact hk _ _ _ _ rfl hK hH'
      · rename_i e; rw [if_neg e] at hK; exact hk _ _ _ _ rfl hK hH'
    | ret => exact hk _ _ _ _ rfl hK hH'
    | goto l => cases hne
    | panic ch => cases hne
    | outgrown => cases hne
  | loop c ih =>
    intro ac htr s a w K Q hH h hk
    simp only [trCode, Option.map_eq_some_iff] at htr
    obtain ⟨bc, hc, htr⟩ := htr
    cases ac <;> simp only [bare, reduceCtorEq, ACode.loop.injEq] at htr
    rename_i ac'
    subst htr
    simp only [awp] at h
    obtain ⟨J, n, h0, h⟩ := h
    refine wp_loop_ghost (fun n a w => ∃ s, Holds F s a w ∧ J n s) n ⟨s, hH, h0⟩ fun n a w ⟨s, hH, hJ⟩ => ?_
    refine ih ac' hc hH (h n s hJ) fun e s' a' w' hne hK hH' => ?_
    cases e with
    | normal =>
      obtain ⟨m, hm, hJ'⟩ := hK
      exact ⟨m, hm, s', hH', hJ'⟩
    | exit id => exact hk _ _ _ _ rfl hK hH'
    | ret => exact hk _ _ _ _ rfl hK hH'
    | goto l => cases hne
    | panic ch => cases hne
    | outgrown => cases hne
  | rangeFunc f ps x y => intro ac htr; simp [trCode] at htr
  | exit id =>
    intro ac htr s a w K Q hH h hk
    simp only [trCode, Option.some.injEq] at htr
    cases ac <;> simp only [bare, reduceCtorEq, ACode.exit.injEq] at htr
    subst htr
    exact wp_exit (hk _ _ _ _ rfl h hH)
  | scope c ih =>
    intro ac htr s a w K Q hH h hk
    simp only [trCode] at htr
    refine wp_scope_straight (ih ac htr hH h fun e s' a' w' hne hK hH' => ?_)
    cases e with
    | normal => exact hk _ _ _ _ rfl hK hH'
    | exit i => exact hk _ _ _ _ rfl hK hH'
    | ret => exact hk _ _ _ _ rfl hK hH'
    | goto l => cases hne
    | panic ch => cases hne
    | outgrown => cases hne
  | label l =>
    intro ac htr s a w K Q hH h hk
    simp only [trCode, Option.some.injEq] at htr
    cases ac <;> simp only [bare, reduceCtorEq] at htr
    exact wp_label (hk _ _ _ _ rfl h hH)
  | goto l => intro ac htr; simp [trCode] at htr
  | ret =>
    intro ac htr s a w K Q hH h hk
    simp only [trCode, Option.some.injEq] at htr
    cases ac <;> simp only [bare, reduceCtorEq] at htr
    exact wp_ret (hk _ _ _ _ rfl h hH)
  | refuse why => intro ac htr; simp [trCode] at htr

/-! ### functions -/

inductive ResA where
  | t (n : Nat)
  | cell (n : Nat) (k : Option Nat)

def trRes (P : Program) : ResultVar → Option ResA
  | .tmp t => some (.t t)
  | .cell a t => (ldT P t).map (.cell a)

/-- What is read of a result. -/
def resA (s : St) : ResA → Option AV
  | .t n => snap (lk s.sto) (s.get n)
  | .cell n k => match s.get n with
    | .ptr j off => match lk s.sto j with
      | some (.var cells) => match goLoad cells off k with
        | some x => snap (lk s.sto) x
        | none => none
      | _ => none
    | _ => none

def resOf (l : List ResA) (s : St) : Option AV :=
  match mapO (resA s) l with
  | some [x] => some x
  | some xs => some (.tuple xs)
  | none => none

def initE : Nat → List AV → List (Nat × AV)
  | _, [] => []
  | i, x :: xs => (i, x) :: initE (i + 1) xs

theorem lk_initE : ∀ (xs : List AV) (i t : Nat) (x : AV), lk (initE i xs) t = some x → ∃ j, t = i + j ∧ xs[j]? = some x := by
  intro xs
  induction xs with
  | nil => intro i t x h; simp [initE, lk] at h
  | cons y xs ih =>
    intro i t x h
    simp only [initE, lk] at h
    split at h
    · rename_i e
      exact ⟨0, by omega, by simpa using h⟩
    · obtain ⟨j, h1, h2⟩ := ih _ _ _ h
      exact ⟨j + 1, by omega, by simpa using h2⟩

def resSem (tmps : Array Value) : ResultVar → Sem Value
  | .tmp t => pure (tmps.getD t undef)
  | .cell p t => do loadVar t (← asAddr (tmps.getD p undef))

theorem res_run {s : St} {a : Act} {w : World} {I : Nat → Nat → Prop} {β : Blocks} {lam : Owned} (hI : Inv F (lk s.env) (lk s.sto) I β lam a w) {rv : ResultVar} {ra : ResA} {x : AV} (htr : trRes P rv = some ra) (hx : resA s ra = some x) :
    ∃ v, (resSem a.tmps rv).run P w = .ok v w ∧ R0 (Seen I β) w x v := by
  have hσ : ∀ k en b, lk s.sto k = some en → β k = some b → RE I w β lam b en := fun _ _ _ h1 h2 => hI.reads h1 h2
  have hget : ∀ n, R I w β lam (s.get n) (a.tmps.getD n undef) := fun n => hI.opd (.tmp n)
  cases rv with
  | tmp t =>
    simp only [trRes, Option.some.injEq] at htr
    subst htr
    exact ⟨_, rfl, (snap_R0 hσ hx (hget t)).1⟩
  | cell p t =>
    simp only [trRes, Option.map_eq_some_iff] at htr
    obtain ⟨k, hk, rfl⟩ := htr
    simp only [resA] at hx
    split at hx
    · rename_i j off hp
      split at hx
      · rename_i cells hs
        split at hx
        · rename_i y hy
          have hR := hget p
          rw [hp] at hR
          obtain ⟨b, hb, hv⟩ := hR.ptr_inv
          have hE := hσ _ _ _ hs hb
          obtain ⟨v, hr, hRv⟩ := load_run (o := 0) hk hy (fun j c hj => by
            obtain ⟨v, h1, _, h3, h4⟩ := hE j c hj
            exact ⟨v, by rw [Nat.zero_add]; exact h1, h3, h4⟩)
          rw [Nat.zero_add] at hr
          refine ⟨v, ?_, (snap_R0 hσ hx hRv).1⟩
          simp only [Instr.loadAt, Instr.sureAddr, Sem.run_bind, Sem.run_pure, Result.andThen_ok] at hr
          simp only [resSem, hv, asAddr, Sem.run_bind, Sem.run_pure, Result.andThen_ok]
          exact hr
        · cases hx
      · cases hx
    · cases hx

theorem results_run {s : St} {a : Act} {w : World} {I : Nat → Nat → Prop} {β : Blocks} {lam : Owned} (hI : Inv F (lk s.env) (lk s.sto) I β lam a w) : ∀ (rvs : List ResultVar) (ras : List ResA) (xs : List AV),
    mapO (trRes P) rvs = some ras → mapO (resA s) ras = some xs →
    ∃ vs : List Value, (rvs.mapM (resSem a.tmps)).run P w = .ok vs w ∧
      vs.length = xs.length ∧ ∀ (i : Nat) (x : AV), xs[i]? = some x → ∃ v, vs[i]? = some v ∧ R0 (Seen I β) w x v := by
  intro rvs
  induction rvs with
  | nil =>
    intro ras xs h1 h2
    simp only [mapO, Option.some.injEq] at h1
    subst h1
    simp only [mapO, Option.some.injEq] at h2
    subst h2
    exact ⟨[], rfl, rfl, fun i x h => by simp at h⟩
  | cons rv rvs ih =>
    intro ras xs h1 h2
    simp only [mapO] at h1
    split at h1
    · rename_i ra hra
      simp only [Option.map_eq_some_iff] at h1
      obtain ⟨ras', h1, rfl⟩ := h1
      simp only [mapO] at h2
      split at h2
      · rename_i x hx
        simp only [Option.map_eq_some_iff] at h2
        obtain ⟨xs', h2, rfl⟩ := h2
        obtain ⟨v, hv, hR⟩ := res_run hI hra hx
        obtain ⟨vs, g1, g2, g3⟩ := ih ras' xs' h1 h2
        refine ⟨v :: vs, ?_, by simp [g2], fun i x' hi => ?_⟩
        · rw [List.mapM_cons, Sem.run_bind, hv]
          simp only [Result.andThen_ok, Sem.run_bind, g1, Sem.run_pure]
        · cases i with
          | zero => simp at hi; subst hi; exact ⟨v, rfl, hR⟩
          | succ i => simp at hi; simpa using g3 i x' hi
      · cases h2
    · cases h1

theorem sound_fn {f : FuncId} {fn : Func} {code : Code} {ac : ACode} {ras : List ResA} {args : List AV} {r : AV} (hf : P.funcs[f]? = some fn) (hb : fn.body = some code)
    (htr : trCode P fn.ntmps code = some (bare ac)) (hres : mapO (trRes P) fn.results.toList = some ras) (hn : args.length ≤ fn.ntmps)
    (h : awp P ac { env := initE 0 args, sto := [] } fun e s => (e = .normal ∨ e = .ret) ∧ resOf ras s = some r) : SoundCall P f args r := by
  intro I vs w hI hs hR
  refine calls_of_wp hf hb ?_
  have hH : Holds { w0 := w, I0 := I, N := fn.ntmps } { env := initE 0 args, sto := [] } { tmps := vs ++ Array.replicate (fn.ntmps - vs.size) undef, defers := [] } w := by
    refine ⟨I, fun _ => none, fun _ => none, ?_⟩
    refine
      { defers := rfl
        size := by simp; omega
        below := Below.refl _ _
        env := fun t x ht => ?_
        sto := fun k en hk => by simp [lk] at hk
        bdom := fun k b hk => by cases hk
        binj := fun k k' b hk => by cases hk
        bnew := fun k b hk => by cases hk
        Isub := hI
        I0sub := fun _ _ h => h
        Inew := fun _ _ h => .inl h
        spare := fun l a len cap sz hl => by cases hl
        ldis := fun l l' b o o' len len' cap cap' sz sz' _ h1 => by cases h1 }
    obtain ⟨j, rfl, hj⟩ := lk_initE _ _ _ _ ht
    have hlt : j < vs.size := by
      have := (List.getElem?_eq_some_iff.1 hj).1
      omega
    refine ⟨vs.getD j undef, ?_, .base (hR j x hj)⟩
    rw [Nat.zero_add, Array.getElem?_append_left hlt]
    simp [hlt]
  refine code_sound (F := { w0 := w, I0 := I, N := fn.ntmps }) code ac htr hH h fun e s a' w' _ hK hH' => ?_
  obtain ⟨he, hr⟩ := hK
  obtain ⟨I', β, lam, hI'⟩ := hH'
  unfold resOf at hr
  have key : ∃ xs, mapO (resA s) ras = some xs ∧ r = (match xs with | [x] => x | xs => .tuple xs) := by
    split at hr
    · rename_i x hx
      simp only [Option.some.injEq] at hr
      exact ⟨[x], hx, hr.symm⟩
    · rename_i xs hne hx
      simp only [Option.some.injEq] at hr
      refine ⟨xs, hx, ?_⟩
      match xs, hne with
      | [], _ => exact hr.symm
      | [x], hne => exact absurd rfl (hne x)
      | _ :: _ :: _, _ => exact hr.symm
    · cases hr
  obtain ⟨xs, hxs, hrx⟩ := key
  obtain ⟨vl, g1, g2, g3⟩ := results_run hI' fn.results.toList ras xs hres hxs
  have hrun : (results fn a'.tmps).run P w' = .ok (if h : vl.toArray.size = 1 then vl.toArray[0] else .tuple vl.toArray) w' := by
    have e : results fn a'.tmps = (fn.results.mapM (resSem a'.tmps) >>= fun vs => pure (if h : vs.size = 1 then vs[0] else .tuple vs)) := by
      unfold results
      congr 1
      first | done | (congr 1; funext x; cases x <;> rfl)
    rw [e, Array.mapM_eq_mapM_toList, Sem.run_bind, Sem.run_map, g1]
    rfl
  have hJ : ∀ b o, Seen I' β b o → (I b o ∨ w.heap.size ≤ b) ∧ b < w'.heap.size := by
    intro b o hb
    rcases hb with hb | ⟨k, hb⟩
    · exact ⟨hI'.Inew b o hb, hI'.Isub b o hb⟩
    · exact ⟨.inr (hI'.bnew k b hb).1, (hI'.bnew k b hb).2.1⟩
  have hfinal : R0 (fun b o => (I b o ∨ w.heap.size ≤ b) ∧ b < w'.heap.size) w' r (if h : vl.toArray.size = 1 then vl.toArray[0] else .tuple vl.toArray) := by
    match xs, g2, g3, hrx with
    | [x], g2, g3, hrx =>
      obtain ⟨v, hv, hRv⟩ := g3 0 x rfl
      have hvl : vl = [v] := by
        match vl, g2, hv with
        | [v'], _, hv => simp at hv; rw [hv]
      subst hvl hrx
      simp only [List.size_toArray, List.length_cons, List.length_nil, dite_true]
      exact hRv.mono hJ (fun _ _ _ _ h => h)
    | [], g2, g3, hrx =>
      have hvl : vl = [] := by simpa using g2
      subst hvl hrx
      exact .tuple [] #[] rfl (fun i c h => by simp at h)
    | x :: y :: xs, g2, g3, hrx =>
      have hne : ¬ vl.toArray.size = 1 := by simp at g2 ⊢; omega
      rw [dif_neg hne]
      subst hrx
      refine .tuple _ _ (by simpa using g2) fun i c hi => ?_
      obtain ⟨v, hv, hRv⟩ := g3 i c hi
      have : vl.toArray.getD i undef = v := by simp [hv]
      rw [this]
      exact hRv.mono hJ (fun _ _ _ _ h => h)
  have hpost : a'.defers = [] ∧ ∃ v, (results fn a'.tmps).run P w' = .ok v w' ∧ ∃ u, Ending.returned v = .returned u ∧ Below w.heap.size w w' ∧ R0 (fun b o => (I b o ∨ w.heap.size ≤ b) ∧ b < w'.heap.size) w' r u :=
    ⟨hI'.defers, _, hrun, _, rfl, hI'.below, hfinal⟩
  rcases he with rfl | rfl
  · exact hpost
  · exact hpost

end
end Go.Am
