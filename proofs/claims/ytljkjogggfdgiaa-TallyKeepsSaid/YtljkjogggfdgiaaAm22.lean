/-
  The abstract machine, part 22: code, and functions.
-/
import Derived.Test.YtljkjogggfdgiaaAm37
import Derived.Scope
import Derived.Deep.LoopGhost
namespace Go.Am
open Go.RowKit

section
variable {P : Program} {F : Frame0}

def noGo : Exit → Bool
  | .normal => true
  | .exit _ => true
  | .ret => true
  | _ => false

theorem bare_region {ac : ACode} {draw : Bool} {l : List AOper} (h : ACode.region draw [] l [] [] = bare ac) : ∃ FK D DK l', ac = .region draw FK l' D DK ∧ l = l'.map (bareO draw) := by
  cases ac <;> simp only [bare, reduceCtorEq, ACode.region.injEq] at h
  obtain ⟨rfl, _, rfl, _, _⟩ := h
  exact ⟨_, _, _, _, rfl, rfl⟩

theorem code_sound : ∀ (c : Code) (ac : ACode), trCode P F.N c = some (bare ac) → ∀ {s : St} {a : Act} {w : World} {K : Exit → St → Prop} {Q : Exit → Act → World → Prop}, Holds F s a w → awp P ac s K →
    (∀ e s' a' w', noGo e = true → K e s' → Holds F s' a' w' → Q e a' w') → c.wp P Q a w := by
  intro c
  induction c with
  | skip =>
    intro ac htr s a w K Q hH h hk
    simp only [trCode, Option.some.injEq] at htr
    cases ac <;> simp only [bare, reduceCtorEq] at htr
    exact wp_skip (hk _ _ _ _ rfl h hH)
  | region id ops draw =>
    intro ac htr s a w K Q hH h hk
    simp only [trCode] at htr
    split at htr
    · rename_i l hl
      split at htr
      · rename_i hd
        simp only [Option.some.injEq] at htr
        obtain ⟨FK, D, DK, l', rfl, rfl⟩ := bare_region htr
        simp only [awp] at h
        obtain ⟨s0, h, hH⟩ := holds_freezes FK hH h
        have hk' : ∀ s' a' w', (dropK (s'.drop D) DK fun s'' => K .normal s'') → Holds F s' a' w' → Q .normal a' w' := by
          intro s' a' w' hK hH'
          obtain ⟨s'', h1, h2⟩ := holds_dropK (holds_drop hH') hK
          exact hk _ _ _ _ rfl h1 h2
        cases draw with
        | false => exact wp_region_list (seq_region ops ops.toList _ hl hH h hk')
        | true => exact drawn_region hl (by simpa using hd) hH h hk'
      · rename_i hnd
        split at htr
        · rename_i hm
          simp only [Option.some.injEq] at htr
          obtain ⟨FK, D, DK, l', rfl, he⟩ := bare_region htr
          simp only [awp] at h
          obtain ⟨s0, h, hH⟩ := holds_freezes FK hH h
          have hk' : ∀ s' a' w', (dropK (s'.drop D) DK fun s'' => K .normal s'') → Holds F s' a' w' → Q .normal a' w' := by
            intro s' a' w' hK hH'
            obtain ⟨s'', h1, h2⟩ := holds_dropK (holds_drop hH') hK
            exact hk _ _ _ _ rfl h1 h2
          cases draw with
          | false => exact absurd (.inl rfl) hnd
          | true => exact mixed_region hl hm he hH h hk'
        · cases htr
    · cases htr
  | seq x y ihx ihy =>
    intro ac htr s a w K Q hH h hk
    simp only [trCode] at htr
    split at htr
    · rename_i bx by_ hx hy
      simp only [Option.some.injEq] at htr
      cases ac <;> simp only [bare, reduceCtorEq, ACode.seq.injEq] at htr
      rename_i ax ay
      obtain ⟨rfl, rfl⟩ := htr
      simp only [awp] at h
      refine wp_seq (ihx ax hx hH h fun e s' a' w' hne hK hH' => ?_)
      cases e with
      | normal => exact ihy ay hy hH' hK hk
      | exit id => exact hk _ _ _ _ rfl hK hH'
      | ret => exact hk _ _ _ _ rfl hK hH'
      | goto l => cases hne
      | panic ch => cases hne
      | outgrown => cases hne
    · cases htr
  | cond c x y ihx ihy =>
    intro ac htr s a w K Q hH h hk
    simp only [trCode] at htr
    split at htr
    · rename_i bx by_ hx hy
      simp only [Option.some.injEq] at htr
      cases ac <;> simp only [bare, reduceCtorEq, ACode.cond.injEq] at htr
      rename_i c' ax ay
      obtain ⟨rfl, rfl, rfl⟩ := htr
      simp only [awp] at h
      split at h
      · rename_i b hb
        have hc : a.eval c = .bool b := by
          obtain ⟨I, β, lam, hI⟩ := hH
          have := hI.opd c
          rw [hb] at this
          exact this.val_eq
        exact wp_cond_split hc (fun e => ihx ax hx hH (h.1 e) hk) (fun e => ihy ay hy hH (h.2 e) hk)
      · exact h.elim
    · cases htr
  | block id c ih =>
    intro ac htr s a w K Q hH h hk
    simp only [trCode, Option.map_eq_some_iff] at htr
    obtain ⟨bc, hc, htr⟩ := htr
    cases ac <;> simp only [bare, reduceCtorEq, ACode.block.injEq] at htr
    rename_i id' ac'
    obtain ⟨rfl, rfl⟩ := htr
    simp only [awp] at h
    refine wp_block (ih ac' hc hH h fun e s' a' w' hne hK hH' => ?_)
    cases e with
    | normal => exact hk _ _ _ _ rfl hK hH'
    | exit i =>
      simp only [blockK] at hK
      simp only [Exit.inBlock]
      split
      · rename_i e; rw [if_pos e] at hK; exact hk _ _ _ _ rfl hK hH'
      · rename_i e; rw [if_neg e] at hK; exact hk _ _ _ _ rfl hK hH'
    | ret => exact hk _ _ _ _ rfl hK hH'
    | goto l => cases hne
    | panic ch => cases hne
    | outgrown => cases hne
  | loop c ih =>
    intro ac htr s a w K Q hH h hk
    simp only [trCode, Option.map_eq_some_iff] at htr
    obtain ⟨bc, hc, htr⟩ := htr
    cases ac <;> simp only [bare, reduceCtorEq, ACode.loop.injEq] at htr
    rename_i ac'
    subst htr
    simp only [awp] at h
    obtain ⟨J, n, h0, h⟩ := h
    refine wp_loop_ghost (fun n a w => ∃ s, Holds F s a w ∧ J n s) n ⟨s, hH, h0⟩ fun n a w ⟨s, hH, hJ⟩ => ?_
    refine ih ac' hc hH (h n s hJ) fun e s' a' w' hne hK hH' => ?_
    cases e with
    | normal =>
      obtain ⟨m, hm, hJ'⟩ := hK
      exact ⟨m, hm, s', hH', hJ'⟩
    | exit id => exact hk _ _ _ _ rfl hK hH'
    | ret => exact hk _ _ _ _ rfl hK hH'
    | goto l => cases hne
    | panic ch => cases hne
    | outgrown => cases hne
  | rangeFunc f ps x y => intro ac htr; simp [trCode] at htr
  | exit id =>
    intro ac htr s a w K Q hH h hk
    simp only [trCode, Option.some.injEq] at htr
    cases ac <;> simp only [bare, reduceCtorEq, ACode.exit.injEq] at htr
    subst htr
    exact wp_exit (hk _ _ _ _ rfl h hH)
  | scope c ih =>
    intro ac htr s a w K Q hH h hk
    simp only [trCode] at htr
    refine wp_scope_straight (ih ac htr hH h fun e s' a' w' hne hK hH' => ?_)
    cases e with
    | normal => exact hk _ _ _ _ rfl hK hH'
    | exit i => exact hk _ _ _ _ rfl hK hH'
    | ret => exact hk _ _ _ _ rfl hK hH'
    | goto l => cases hne
    | panic ch => cases hne
    | outgrown => cases hne
  | label l =>
    intro ac htr s a w K Q hH h hk
    simp only [trCode, Option.some.injEq] at htr
    cases ac <;> simp only [bare, reduceCtorEq] at htr
    exact wp_label (hk _ _ _ _ rfl h hH)
  | goto l => intro ac htr; simp [trCode] at htr
  | ret =>
    intro ac htr s a w K Q hH h hk
    simp only [trCode, Option.some.injEq] at htr
    cases ac <;> simp only [bare, reduceCtorEq] at htr
    exact wp_ret (hk _ _ _ _ rfl h hH)
  | refuse why => intro ac htr; simp [trCode] at htr

/-! ### functions -/

inductive ResA where
  | t (n : Nat)
  | cell (n : Nat) (k : Option Nat)

def trRes (P : Program) : ResultVar → Option ResA
  | .tmp t => some (.t t)
  | .cell a t => (ldT P t).map (.cell a)

/-- What is read of a result. -/
def resA (s : St) : ResA → Option AV
  | .t n => snap (lk s.sto) (s.get n)
  | .cell n k => match s.get n with
    | .ptr j off => match lk s.sto j with
      | some (.var cells) => match goLoad cells off k with
        | some x => snap (lk s.sto) x
        | none => none
      | _ => none
    | _ => none

def resOf (l : List ResA) (s : St) : Option AV :=
  match mapO (resA s) l with
  | some [x] => some x
  | some xs => some (.tuple xs)
  | none => none

def initE : Nat → List AV → List (Nat × AV)
  | _, [] => []
  | i, x :: xs => (i, x) :: initE (i + 1) xs

theorem lk_initE : ∀ (xs : List AV) (i t : Nat) (x : AV), lk (initE i xs) t = some x → ∃ j, t = i + j ∧ xs[j]? = some x := by
  intro xs
  induction xs with
  | nil => intro i t x h; simp [initE, lk] at h
  | cons y xs ih =>
    intro i t x h
    simp only [initE, lk] at h
    split at h
    · rename_i e
      exact ⟨0, by omega, by simpa using h⟩
    · obtain ⟨j, h1, h2⟩ := ih _ _ _ h
      exact ⟨j + 1, by omega, by simpa using h2⟩

def resSem (tmps : Array Value) : ResultVar → Sem Value
  | .tmp t => pure (tmps.getD t undef)
  | .cell p t => do loadVar t (← asAddr (tmps.getD p undef))

/-- What is read of a result, as it stands. -/
def rawA (s : St) : ResA → Option AV
  | .t n => some (strip (s.get n))
  | .cell n k => match s.get n with
    | .ptr j off => match lk s.sto j with
      | some (.var cells) => (goLoad cells off k).map strip
      | _ => none
    | _ => none

def tup : List AV → AV
  | [x] => x
  | xs => .tuple xs

theorem resOf_eq {l : List ResA} {s : St} {r : AV} (h : resOf l s = some r) : ∃ xs, mapO (resA s) l = some xs ∧ r = tup xs := by
  unfold resOf at h
  split at h
  · rename_i x hx
    simp only [Option.some.injEq] at h
    exact ⟨[x], hx, h.symm⟩
  · rename_i xs hne hx
    simp only [Option.some.injEq] at h
    refine ⟨xs, hx, ?_⟩
    match xs, hne with
    | [], _ => exact h.symm
    | [x], hne => exact absurd rfl (hne x)
    | _ :: _ :: _, _ => exact h.symm
  · cases h

theorem raw_run {s : St} {a : Act} {w : World} {I : Nat → Nat → Prop} {β : Blocks} {lam : Owned} (hI : Inv F s.look (lk s.sto) I β lam a w) {rv : ResultVar} {ra : ResA} {x : AV} (htr : trRes P rv = some ra) (hx : rawA s ra = some x) :
    ∃ v, (resSem a.tmps rv).run P w = .ok v w ∧ R I w β lam x v ∧ ∃ y, x = strip y := by
  have hget : ∀ n, R I w β lam (s.get n) (a.tmps.getD n undef) := fun n => hI.opd (.tmp n)
  cases rv with
  | tmp t =>
    simp only [trRes, Option.some.injEq] at htr
    subst htr
    simp only [rawA, Option.some.injEq] at hx
    subst hx
    exact ⟨_, rfl, (hget t).strip, _, rfl⟩
  | cell p t =>
    simp only [trRes, Option.map_eq_some_iff] at htr
    obtain ⟨k, hk, rfl⟩ := htr
    simp only [rawA] at hx
    split at hx
    · rename_i j off hp
      split at hx
      · rename_i cells hs
        simp only [Option.map_eq_some_iff] at hx
        obtain ⟨y, hy, rfl⟩ := hx
        have hR := hget p
        rw [hp] at hR
        obtain ⟨b, hb, hv⟩ := hR.ptr_inv
        have hE := hI.hread _ _ _ hs hb
        obtain ⟨v, hr, hRv⟩ := load_run (o := 0) hk hy (fun j c hj => by
          obtain ⟨v, h1, _, h3, h4⟩ := hE j c hj
          exact ⟨v, by rw [Nat.zero_add]; exact h1, h3, h4⟩)
        rw [Nat.zero_add] at hr
        refine ⟨v, ?_, hRv.strip, _, rfl⟩
        simp only [Instr.loadAt, Instr.sureAddr, Sem.run_bind, Sem.run_pure, Result.andThen_ok] at hr
        simp only [resSem, hv, asAddr, Sem.run_bind, Sem.run_pure, Result.andThen_ok]
        exact hr
      · cases hx
    · cases hx

theorem res_run {s : St} {a : Act} {w : World} {I : Nat → Nat → Prop} {β : Blocks} {lam : Owned} (hI : Inv F s.look (lk s.sto) I β lam a w) {rv : ResultVar} {ra : ResA} {x : AV} (htr : trRes P rv = some ra) (hx : resA s ra = some x) :
    ∃ v, (resSem a.tmps rv).run P w = .ok v w ∧ R0 (Seen I β lam) w x v := by
  have hget : ∀ n, R I w β lam (s.get n) (a.tmps.getD n undef) := fun n => hI.opd (.tmp n)
  cases rv with
  | tmp t =>
    simp only [trRes, Option.some.injEq] at htr
    subst htr
    exact ⟨_, rfl, (snap_R0 hI.hread hI.usto hx (hget t)).1⟩
  | cell p t =>
    simp only [trRes, Option.map_eq_some_iff] at htr
    obtain ⟨k, hk, rfl⟩ := htr
    simp only [resA] at hx
    split at hx
    · rename_i j off hp
      split at hx
      · rename_i cells hs
        split at hx
        · rename_i y hy
          have hR := hget p
          rw [hp] at hR
          obtain ⟨b, hb, hv⟩ := hR.ptr_inv
          have hE := hI.hread _ _ _ hs hb
          obtain ⟨v, hr, hRv⟩ := load_run (o := 0) hk hy (fun j c hj => by
            obtain ⟨v, h1, _, h3, h4⟩ := hE j c hj
            exact ⟨v, by rw [Nat.zero_add]; exact h1, h3, h4⟩)
          rw [Nat.zero_add] at hr
          refine ⟨v, ?_, (snap_R0 hI.hread hI.usto hx hRv).1⟩
          simp only [Instr.loadAt, Instr.sureAddr, Sem.run_bind, Sem.run_pure, Result.andThen_ok] at hr
          simp only [resSem, hv, asAddr, Sem.run_bind, Sem.run_pure, Result.andThen_ok]
          exact hr
        · cases hx
      · cases hx
    · cases hx

theorem results_run {rd : ResA → Option AV} {Rel : AV → Value → Prop} {tmps : Array Value} {w : World} (hrd : ∀ rv ra x, trRes P rv = some ra → rd ra = some x → ∃ v, (resSem tmps rv).run P w = .ok v w ∧ Rel x v) :
    ∀ (rvs : List ResultVar) (ras : List ResA) (xs : List AV),
    mapO (trRes P) rvs = some ras → mapO rd ras = some xs →
    ∃ vs : List Value, (rvs.mapM (resSem tmps)).run P w = .ok vs w ∧
      vs.length = xs.length ∧ ∀ (i : Nat) (x : AV), xs[i]? = some x → ∃ v, vs[i]? = some v ∧ Rel x v := by
  intro rvs
  induction rvs with
  | nil =>
    intro ras xs h1 h2
    simp only [mapO, Option.some.injEq] at h1
    subst h1
    simp only [mapO, Option.some.injEq] at h2
    subst h2
    exact ⟨[], rfl, rfl, fun i x h => by simp at h⟩
  | cons rv rvs ih =>
    intro ras xs h1 h2
    simp only [mapO] at h1
    split at h1
    · rename_i ra hra
      simp only [Option.map_eq_some_iff] at h1
      obtain ⟨ras', h1, rfl⟩ := h1
      simp only [mapO] at h2
      split at h2
      · rename_i x hx
        simp only [Option.map_eq_some_iff] at h2
        obtain ⟨xs', h2, rfl⟩ := h2
        obtain ⟨v, hv, hR⟩ := hrd rv ra x hra hx
        obtain ⟨vs, g1, g2, g3⟩ := ih ras' xs' h1 h2
        refine ⟨v :: vs, ?_, by simp [g2], fun i x' hi => ?_⟩
        · rw [List.mapM_cons, Sem.run_bind, hv]
          simp only [Result.andThen_ok, Sem.run_bind, g1, Sem.run_pure]
        · cases i with
          | zero => simp at hi; subst hi; exact ⟨v, rfl, hR⟩
          | succ i => simp at hi; simpa using g3 i x' hi
      · cases h2
    · cases h1

/-- What a function's results come to. -/
theorem results_tup {fn : Func} {rd : ResA → Option AV} {Rel : AV → Value → Prop} {tmps : Array Value} {w : World} (hrd : ∀ rv ra x, trRes P rv = some ra → rd ra = some x → ∃ v, (resSem tmps rv).run P w = .ok v w ∧ Rel x v)
    (htup : ∀ (xs : List AV) (vs : Array Value), mapO rd (Option.getD (mapO (trRes P) fn.results.toList) []) = some xs → vs.size = xs.length → (∀ i x, xs[i]? = some x → Rel x (vs.getD i undef)) → Rel (.tuple xs) (.tuple vs))
    {ras : List ResA} {xs : List AV} (h1 : mapO (trRes P) fn.results.toList = some ras) (h2 : mapO rd ras = some xs) : ∃ v, (results fn tmps).run P w = .ok v w ∧ Rel (tup xs) v := by
  obtain ⟨vl, g1, g2, g3⟩ := results_run hrd fn.results.toList ras xs h1 h2
  rw [h1] at htup
  simp only [Option.getD_some] at htup
  refine ⟨if h : vl.toArray.size = 1 then vl.toArray[0] else .tuple vl.toArray, ?_, ?_⟩
  · have e : results fn tmps = (fn.results.mapM (resSem tmps) >>= fun vs => pure (if h : vs.size = 1 then vs[0] else .tuple vs)) := by
      unfold results
      congr 1
      first | done | (congr 1; funext x; cases x <;> rfl)
    rw [e, Array.mapM_eq_mapM_toList, Sem.run_bind, Sem.run_map, g1]
    rfl
  · have gt : ∀ i x, xs[i]? = some x → Rel x (vl.toArray.getD i undef) := fun i x hi => by
      obtain ⟨v, hv, hRv⟩ := g3 i x hi
      have : vl.toArray.getD i undef = v := by simp [hv]
      rw [this]
      exact hRv
    match xs, g2, g3, h2, gt with
    | [x], g2, g3, h2, gt =>
      obtain ⟨v, hv, hRv⟩ := g3 0 x rfl
      have hvl : vl = [v] := by
        match vl, g2, hv with
        | [v'], _, hv => simp at hv; rw [hv]
      subst hvl
      simp only [List.size_toArray, List.length_cons, List.length_nil, dite_true]
      exact hRv
    | [], g2, g3, h2, gt =>
      have hvl : vl = [] := by simpa using g2
      subst hvl
      exact htup [] #[] h2 rfl (fun i c h => by simp at h)
    | x :: y :: xs, g2, g3, h2, gt =>
      have hne : ¬ vl.toArray.size = 1 := by simp at g2 ⊢; omega
      rw [dif_neg hne]
      exact htup _ _ h2 (by simpa using g2) gt

theorem mapO_mem {α γ : Type} {f : α → Option γ} : ∀ {l : List α} {l' : List γ}, mapO f l = some l' → ∀ y ∈ l', ∃ x ∈ l, f x = some y := by
  intro l
  induction l with
  | nil => intro l' h; simp only [mapO, Option.some.injEq] at h; subst h; simp
  | cons x l ih =>
    intro l' h
    simp only [mapO] at h
    split at h
    · rename_i y hy
      simp only [Option.map_eq_some_iff] at h
      obtain ⟨l2, h2, rfl⟩ := h
      intro z hz
      rcases List.mem_cons.1 hz with rfl | hz
      · exact ⟨x, by simp, hy⟩
      · obtain ⟨x', h3, h4⟩ := ih h2 z hz
        exact ⟨x', by simp [h3], h4⟩
    · cases h

theorem strip_not_own {x : AV} {sz l : Nat} {rows : List (List AV)} : strip x ≠ .list sz (.own l) rows := by
  cases x <;> simp only [strip, ne_eq, reduceCtorEq, not_false_eq_true]
  rename_i sz' m rows'
  cases m <;> simp [strip]

theorem rawA_strip {s : St} {ra : ResA} {x : AV} (h : rawA s ra = some x) : ∃ y, x = strip y := by
  cases ra with
  | t n =>
    simp only [rawA, Option.some.injEq] at h
    exact ⟨_, h.symm⟩
  | cell n k =>
    simp only [rawA] at h
    split at h
    · split at h
      · simp only [Option.map_eq_some_iff] at h
        obtain ⟨y, _, rfl⟩ := h
        exact ⟨_, rfl⟩
      · cases h
    · cases h

/-- A call that may write what its caller can write: the callee's frame lies before its caller's. -/
theorem callI_fn {f : FuncId} {fn : Func} {code : Code} {ac : ACode} {ras : List ResA} {args : List AV} {s : St} {K : AV → St → Prop} (B : Nat) (hf : P.funcs[f]? = some fn) (hb : fn.body = some code)
    (htr : trCode P fn.ntmps code = some (bare ac)) (hres : mapO (trRes P) fn.results.toList = some ras) (hn : args.length ≤ fn.ntmps)
    (h : awp P ac { env := initE 0 args, sto := s.sto, out := s.env :: s.out, base := B } fun e s' => (e = .normal ∨ e = .ret) ∧ ∃ xs e0 o0, mapO (rawA s') ras = some xs ∧ s'.out = e0 :: o0 ∧ K (tup xs) { env := e0, sto := s'.sto, out := o0, base := s.base }) : CallI P f args s K := by
  intro F a w I β lam hI vs hs hR
  refine calls_of_wp hf hb ?_
  have hH : Holds { w0 := F.w0, I0 := F.I0, N := fn.ntmps, outs := a.tmps :: F.outs } { env := initE 0 args, sto := s.sto, out := s.env :: s.out, base := B } { tmps := vs ++ Array.replicate (fn.ntmps - vs.size) undef, defers := [] } w := by
    refine ⟨I, β, lam, ?_⟩
    refine { hI with defers := rfl, size := by simp; omega, env := fun t x ht => ?_ }
    obtain ⟨d, t⟩ := t
    cases d with
    | zero =>
      obtain ⟨j, rfl, hj⟩ := lk_initE _ _ _ _ ht
      have hlt : j < vs.size := by
        have := (List.getElem?_eq_some_iff.1 hj).1
        omega
      refine ⟨vs.getD j undef, ?_, hR j x hj⟩
      simp only [Frame0.val]
      rw [Nat.zero_add, Array.getElem?_append_left hlt]
      simp [hlt]
    | succ d =>
      cases d with
      | zero =>
        obtain ⟨v, h1, h2⟩ := hI.env (0, t) x ht
        exact ⟨v, h1, h2⟩
      | succ d =>
        obtain ⟨v, h1, h2⟩ := hI.env (d + 1, t) x ht
        exact ⟨v, h1, h2⟩
  refine code_sound (F := { w0 := F.w0, I0 := F.I0, N := fn.ntmps, outs := a.tmps :: F.outs }) code ac htr hH h fun e s' a' w' _ hK hH' => ?_
  obtain ⟨he, xs, e0, o0, hxs, hout, hK⟩ := hK
  obtain ⟨I', β', lam', hI'⟩ := hH'
  obtain ⟨v, hrun, hRv⟩ := results_tup (fn := fn) (rd := rawA s') (Rel := R I' w' β' lam') (fun rv ra x h1 h2 => by
      obtain ⟨v, g1, g2, _⟩ := raw_run hI' h1 h2
      exact ⟨v, g1, g2⟩) (fun xs vs h1 h2 h3 => by
      refine .tuple xs vs h2 (fun sz l rows hm => ?_) h3
      obtain ⟨ra, _, hra⟩ := mapO_mem h1 _ hm
      obtain ⟨y, hy⟩ := rawA_strip hra
      exact strip_not_own hy.symm) hres hxs
  have hpop : Inv F (St.look { env := e0, sto := s'.sto, out := o0, base := s.base }) (lk s'.sto) I' β' lam' a w' := by
    refine { hI' with defers := hI.defers, size := hI.size, env := fun t x ht => ?_ }
    have key : s'.look (t.1 + 1, t.2) = some x := by
      obtain ⟨d, t⟩ := t
      simp only [St.look, hout] at ht ⊢
      cases d with
      | zero => exact ht
      | succ d => exact ht
    obtain ⟨v, h1, h2⟩ := hI'.env _ x key
    refine ⟨v, ?_, h2⟩
    obtain ⟨d, t⟩ := t
    cases d with
    | zero => exact h1
    | succ d => exact h1
  have hpost : a'.defers = [] ∧ ∃ v, (results fn a'.tmps).run P w' = .ok v w' ∧ ∃ u, Ending.returned v = .returned u ∧ ∃ r s' I' β' lam', K r s' ∧ Inv F s'.look (lk s'.sto) I' β' lam' a w' ∧ R I' w' β' lam' r u :=
    ⟨hI'.defers, v, hrun, v, rfl, tup xs, _, I', β', lam', hK, hpop, hRv⟩
  rcases he with rfl | rfl
  · exact hpost
  · exact hpost

/-- What is known by 'x' is known by 'y'. -/
def AV.imp (x y : AV) : Prop := ∀ (I : Nat → Nat → Prop) (w : World) (v : Value), R0 I w x v → R0 I w y v
theorem AV.imp.refl {x : AV} : AV.imp x x := fun _ _ _ h => h

theorem sound_fn {f : FuncId} {fn : Func} {code : Code} {ac : ACode} {ras : List ResA} {args : List AV} {r : AV} {K : Exit → St → Prop} (hK0 : ∀ e s, K e s → (e = .normal ∨ e = .ret) ∧ ∃ r0, resOf ras s = some r0 ∧ AV.imp r0 r) (hf : P.funcs[f]? = some fn) (hb : fn.body = some code)
    (htr : trCode P fn.ntmps code = some (bare ac)) (hres : mapO (trRes P) fn.results.toList = some ras) (hn : args.length ≤ fn.ntmps)
    (h : awp P ac { env := initE 0 args, sto := [] } K) : SoundCall P f args r := by
  intro I vs w hI hs hR
  refine calls_of_wp hf hb ?_
  have hH : Holds { w0 := w, I0 := I, N := fn.ntmps } { env := initE 0 args, sto := [] } { tmps := vs ++ Array.replicate (fn.ntmps - vs.size) undef, defers := [] } w := by
    refine ⟨I, fun _ => none, fun _ => none, ?_⟩
    refine
      { defers := rfl
        size := by simp; omega
        below := Below.refl _ _
        env := fun t x ht => ?_
        sto := fun k en hk => by simp [lk] at hk
        usto := fun l sz rows hk => by simp [lk] at hk
        bdom := fun k b hk => by cases hk
        binj := fun k k' b hk => by cases hk
        bnew := fun k b hk => by cases hk
        Isub := hI
        I0sub := fun _ _ h => h
        Inew := fun _ _ h => .inl h
        spare := fun l a len cap sz hl => by cases hl
        ldis := fun l l' b o o' len len' cap cap' sz sz' _ h1 => by cases h1 }
    obtain ⟨d, t⟩ := t
    cases d with
    | succ d => simp [St.look] at ht
    | zero => ?_
    obtain ⟨j, rfl, hj⟩ := lk_initE _ _ _ _ ht
    have hlt : j < vs.size := by
      have := (List.getElem?_eq_some_iff.1 hj).1
      omega
    refine ⟨vs.getD j undef, ?_, .base (hR j x hj)⟩
    simp only [Frame0.val]
    rw [Nat.zero_add, Array.getElem?_append_left hlt]
    simp [hlt]
  refine code_sound (F := { w0 := w, I0 := I, N := fn.ntmps }) code ac htr hH h fun e s a' w' _ hK hH' => ?_
  obtain ⟨he, r0, hr, himp⟩ := hK0 _ _ hK
  obtain ⟨I', β, lam, hI'⟩ := hH'
  obtain ⟨xs, hxs, rfl⟩ := resOf_eq hr
  have hJ : ∀ b o, Seen I' β lam b o → (I b o ∨ w.heap.size ≤ b) ∧ b < w'.heap.size := by
    intro b o hb
    rcases hb with hb | ⟨k, hb⟩ | ⟨l, p, cap, sz, hl, h0⟩
    · exact ⟨hI'.Inew b o hb, hI'.Isub b o hb⟩
    · exact ⟨.inr (hI'.bnew k b hb).1, (hI'.bnew k b hb).2.1⟩
    · obtain ⟨g1, g2, _⟩ := hI'.ublock hl h0
      exact ⟨.inr g1, g2⟩
  obtain ⟨v, hrun, hRv⟩ := results_tup (fn := fn) (rd := resA s) (Rel := R0 (fun b o => (I b o ∨ w.heap.size ≤ b) ∧ b < w'.heap.size) w') (fun rv ra x h1 h2 => by
      obtain ⟨v, g1, g2⟩ := res_run hI' h1 h2
      exact ⟨v, g1, g2.mono hJ (fun _ _ _ _ h => h)⟩) (fun xs vs _ h2 h3 => .tuple xs vs h2 h3) hres hxs
  have hpost : a'.defers = [] ∧ ∃ v, (results fn a'.tmps).run P w' = .ok v w' ∧ ∃ u, Ending.returned v = .returned u ∧ Below w.heap.size w w' ∧ R0 (fun b o => (I b o ∨ w.heap.size ≤ b) ∧ b < w'.heap.size) w' r u :=
    ⟨hI'.defers, v, hrun, v, rfl, hI'.below, himp _ _ _ hRv⟩
  rcases he with rfl | rfl
  · exact hpost
  · exact hpost

end
end Go.Am
