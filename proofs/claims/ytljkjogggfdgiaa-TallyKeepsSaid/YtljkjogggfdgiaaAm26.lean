/-
  The abstract machine, part 26: more laws for 'simp': calls, equality, min and max, append; loops that count.
-/
import Derived.Test.YtljkjogggfdgiaaAm25
namespace Go.Am

def isInts (n : Nat) (l : List AV) : Bool := decide (l.length = n) && l.all fun | .val (.int .i64 _) => true | _ => false
def intsA : List AV → List Int
  | .val (.int _ x) :: r => x :: intsA r
  | _ => []
theorem intsA_map (l : List Int) : intsA (l.map iv) = l := by
  induction l with
  | nil => rfl
  | cons x l ih => simp [intsA, ih]
theorem isInts_map (n : Nat) (l : List Int) : isInts n (l.map iv) = decide (l.length = n) := by simp [isInts]
theorem ints_of : ∀ {l : List AV}, (l.all fun | .val (.int .i64 _) => true | _ => false) = true → ∃ xs : List Int, l = xs.map iv
  | [], _ => ⟨[], rfl⟩
  | x :: l, h => by
    simp only [List.all_cons, Bool.and_eq_true] at h
    obtain ⟨xs, rfl⟩ := ints_of h.2
    match x, h.1 with
    | .val (.int .i64 n), _ => exact ⟨n :: xs, rfl⟩

theorem toVs_iv : ∀ l : List Int, toVs (l.map iv) = some (l.map (Value.int .i64))
  | [] => rfl
  | x :: l => by simp [toVs, toVs_iv l]
theorem eqL_iv : ∀ (a b : List Int), eqL (a.map (Value.int .i64)) (b.map (Value.int .i64)) = decide (a = b)
  | [], [] => rfl
  | [], _ :: _ => by simp [eqL]
  | _ :: _, [] => by simp [eqL]
  | x :: a, y :: b => by
    simp only [List.map_cons, eqL, eq1, eqL_iv a b, List.cons.injEq, Bool.decide_and]
    rfl
theorem fitL_iv : ∀ (a : List Int), fitL (List.replicate a.length (.i .i64)) (a.map (Value.int .i64)) = true
  | [] => rfl
  | x :: a => by simp [List.replicate_succ, fitL, Kd.fit, fitL_iv a]

theorem eqGuard_no {P : Program} {op : BinOp} {t : TypeId} {ox oy : Operand} {xs ys : Array Value} (hg : P.eqGuardType P.depth t = false) : semPure P (eqGuard op t ox oy (.agg xs) (.agg ys)) = some () := by
  have e : semPure P program = some P := rfl
  unfold eqGuard
  cases op <;> simp [semPure_bind, e, hg, semPure_pure]

section
variable {P : Program} {t n : Nat} {ox oy : Operand} {a b : List AV} {K : AV → Option Entry → Prop} {σ : Nat → Option Entry}

/-- Arrays of numbers. -/
theorem eBin_eql_ints (hk : kds P Op.maxDepth t = some (List.replicate n (.i .i64))) (hg : P.eqGuardType P.depth t = false) (hA : agT P t = true)
    (ha : isInts n a = true) (hb : isInts n b = true) : eBin P .eql t ox oy [.agg a, .agg b] K = K (bv (decide (intsA a = intsA b))) none := by
  simp only [isInts, Bool.and_eq_true, decide_eq_true_eq] at ha hb
  obtain ⟨xs, rfl⟩ := ints_of ha.2
  obtain ⟨ys, rfl⟩ := ints_of hb.2
  simp only [List.length_map] at ha hb
  have e := pure_equalIn Op.maxDepth t _ (xs.map (Value.int .i64)) (ys.map (Value.int .i64)) hk (by rw [← ha.1]; exact fitL_iv xs) (by rw [← hb.1]; exact fitL_iv ys)
  simp only [valOf, hA, if_true] at e
  have e2 : semPure P (Op.equal t (.agg (xs.map (Value.int .i64)).toArray) (.agg (ys.map (Value.int .i64)).toArray)) = some (decide (xs = ys)) := by rw [← eqL_iv]; exact e
  have e1 : binOp .eql t (.agg (xs.map (Value.int .i64)).toArray) (.agg (ys.map (Value.int .i64)).toArray) = (do pure (.bool (← Op.equal t (.agg (xs.map (Value.int .i64)).toArray) (.agg (ys.map (Value.int .i64)).toArray)))) := rfl
  simp only [eBin, toV, toVs_iv, Option.map_some, semPure_bind, eqGuard_no hg, e1, e2, Option.bind_some, semPure_pure, optV, ofV, ofV1, intsA_map]
theorem eBin_neq_ints (hk : kds P Op.maxDepth t = some (List.replicate n (.i .i64))) (hg : P.eqGuardType P.depth t = false) (hA : agT P t = true)
    (ha : isInts n a = true) (hb : isInts n b = true) : eBin P .neq t ox oy [.agg a, .agg b] K = K (bv (!decide (intsA a = intsA b))) none := by
  simp only [isInts, Bool.and_eq_true, decide_eq_true_eq] at ha hb
  obtain ⟨xs, rfl⟩ := ints_of ha.2
  obtain ⟨ys, rfl⟩ := ints_of hb.2
  simp only [List.length_map] at ha hb
  have e := pure_equalIn Op.maxDepth t _ (xs.map (Value.int .i64)) (ys.map (Value.int .i64)) hk (by rw [← ha.1]; exact fitL_iv xs) (by rw [← hb.1]; exact fitL_iv ys)
  simp only [valOf, hA, if_true] at e
  have e2 : semPure P (Op.equal t (.agg (xs.map (Value.int .i64)).toArray) (.agg (ys.map (Value.int .i64)).toArray)) = some (decide (xs = ys)) := by rw [← eqL_iv]; exact e
  have e1 : binOp .neq t (.agg (xs.map (Value.int .i64)).toArray) (.agg (ys.map (Value.int .i64)).toArray) = (do pure (.bool (!(← Op.equal t (.agg (xs.map (Value.int .i64)).toArray) (.agg (ys.map (Value.int .i64)).toArray))))) := rfl
  simp only [eBin, toV, toVs_iv, Option.map_some, semPure_bind, eqGuard_no hg, e1, e2, Option.bind_some, semPure_pure, optV, ofV, ofV1, intsA_map]

theorem eBin_eql_bool {x y : Bool} (hu : P.underlying t = some .bool) : eBin P .eql t ox oy [bv x, bv y] K = K (bv (x == y)) none := by
  have e1 : binOp .eql t (.bool x) (.bool y) = (do pure (.bool (← Op.equal t (.bool x) (.bool y)))) := rfl
  have e2 : semPure P (eqGuard .eql t ox oy (.bool x) (.bool y)) = some () := rfl
  have e3 : semPure P (Op.equal t (.bool x) (.bool y)) = some (x == y) := by
    have e4 : ∀ d : Nat, semPure P (Op.equalIn (d + 1) t (.bool x) (.bool y)) = some (x == y) := fun d => by
      simp only [Op.equalIn, semPure_bind, pure_underlying, hu, Option.bind_some, semPure_pure]
    exact e4 9999
  simp only [eBin, toV, semPure_bind, e1, e2, e3, Option.bind_some, semPure_pure, optV, ofV, ofV1]
theorem eBin_neq_bool {x y : Bool} (hu : P.underlying t = some .bool) : eBin P .neq t ox oy [bv x, bv y] K = K (bv (!(x == y))) none := by
  have e1 : binOp .neq t (.bool x) (.bool y) = (do pure (.bool (!(← Op.equal t (.bool x) (.bool y))))) := rfl
  have e2 : semPure P (eqGuard .neq t ox oy (.bool x) (.bool y)) = some () := rfl
  have e3 : semPure P (Op.equal t (.bool x) (.bool y)) = some (x == y) := by
    have e4 : ∀ d : Nat, semPure P (Op.equalIn (d + 1) t (.bool x) (.bool y)) = some (x == y) := fun d => by
      simp only [Op.equalIn, semPure_bind, pure_underlying, hu, Option.bind_some, semPure_pure]
    exact e4 9999
  simp only [eBin, toV, semPure_bind, e1, e2, e3, Option.bind_some, semPure_pure, optV, ofV, ofV1]

theorem eCall_i {f : FuncId} {xs args : List AV} {r : AV} (h : SoundCall P f args r) (hs : mapO (snap σ) xs = some args) (hp : xs.any hasRef = false ∨ pf r = true) (hk : K r none) : eCall P f σ xs K := by
  unfold eCall
  rw [hs]
  refine ⟨r, h, fun hr => ?_, hk⟩
  rcases hp with hp | hp
  · rw [hp] at hr; cases hr
  · exact hp

end

/-! ### what holds behind, may be weakened -/
theorem optV_mono {k k' : AV → Option Entry → Prop} (hk : ∀ x e, k x e → k' x e) : ∀ {x : Option Value}, optV x k → optV x k'
  | some _, h => hk _ _ h
  | none, h => h
theorem optA_mono {k k' : AV → Option Entry → Prop} (hk : ∀ x e, k x e → k' x e) : ∀ {x : Option AV}, optA x k → optA x k'
  | some _, h => hk _ _ h
  | none, h => h
theorem bnds_mono' {n lo hi mx xs} {k k' : Nat → Nat → Bool → Prop} (hk : ∀ x e f, k x e f → k' x e f) : bnds n lo hi mx xs k → bnds n lo hi mx xs k' := by
  unfold bnds
  repeat' split
  all_goals grind
theorem eBin_mono {P : Program} {op t ox oy xs} {k k' : AV → Option Entry → Prop} (hk : ∀ x e, k x e → k' x e) : eBin P op t ox oy xs k → eBin P op t ox oy xs k' := by
  match xs with
  | [] => exact id
  | [_] => exact id
  | [x, y] =>
    simp only [eBin]
    cases toV x <;> cases toV y <;> first | exact id | exact optV_mono hk
  | _ :: _ :: _ :: _ => exact id
theorem eLoad_mono {σ n xs} {k k' : AV → Option Entry → Prop} (hk : ∀ x e, k x e → k' x e) : eLoad σ n xs k → eLoad σ n xs k' := by
  unfold eLoad
  split
  · split
    · exact optA_mono hk
    · exact id
  · split
    · refine fun ⟨a, b⟩ => ⟨a, ?_⟩
      revert b
      split
      · exact optA_mono hk
      · exact id
    · exact id
  · exact optA_mono hk
  · split
    · refine fun ⟨a, b⟩ => ⟨a, ?_⟩
      revert b
      split
      · exact optA_mono hk
      · exact id
    · exact id
  · exact id
theorem eLen1_mono {str x} {k k' : AV → Option Entry → Prop} (hk : ∀ x e, k x e → k' x e) : eLen1 str k x → eLen1 str k' x := by
  unfold eLen1
  split <;> first | exact id | exact fun ⟨a, b⟩ => ⟨a, hk _ _ b⟩
theorem eCall_mono {P : Program} {f σ xs} {k k' : AV → Option Entry → Prop} (hk : ∀ x e, k x e → k' x e) : eCall P f σ xs k → eCall P f σ xs k' := by
  unfold eCall
  cases mapO (snap σ) xs with
  | none => exact id
  | some args => exact fun ⟨r, h1, h2, h3⟩ => ⟨r, h1, h2, hk _ _ h3⟩
theorem evalE_mono {P : Program} {d op xs σ} {k k' : AV → Option Entry → Prop} (hk : ∀ x e, k x e → k' x e) : evalE P d op xs σ k → evalE P d op xs σ k' := by
  unfold evalE
  repeat' split
  all_goals first
    | exact id
    | exact hk _ _
    | exact optV_mono hk
    | exact optA_mono hk
    | exact eBin_mono hk
    | exact eLoad_mono hk
    | exact eCall_mono hk
    | (unfold eIaddrA; repeat' split <;> first | exact id | grind)
    | (unfold eIaddrS; repeat' split <;> first | exact id | grind)
    | (unfold eMk; repeat' split <;> first | exact id | grind)
    | (unfold eLen; split <;> first | exact id | exact eLen1_mono hk)
    | (unfold eSlice; repeat' split <;> first | exact id | exact fun ⟨h1, h2⟩ => ⟨h1, bnds_mono' (fun _ _ _ => hk _ _) h2⟩)
    | exact bnds_mono' (fun _ _ _ h => ⟨h.1, hk _ _ h.2⟩)
    | exact fun ⟨a, b⟩ => ⟨a, eCall_mono hk b⟩
    | exact fun ⟨a, b⟩ => ⟨a, hk _ _ b⟩
    | exact fun ⟨a, b, c⟩ => ⟨a, b, hk _ _ c⟩
    | exact fun ⟨a, b, c⟩ => ⟨a, b, optA_mono hk c⟩
    | exact fun ⟨a, b⟩ => ⟨fun h => hk _ _ (a h), fun h => hk _ _ (b h)⟩
    | skip
theorem addRows_mono {σ sz x} {k k' : List (List AV) → Prop} (hk : ∀ x, k x → k' x) : addRows σ sz x k → addRows σ sz x k' := by
  unfold addRows
  repeat' split
  all_goals grind
theorem eStore_mono {n s dst xs} {K K' : St → Prop} (hk : ∀ s, K s → K' s) : eStore n s dst xs K → eStore n s dst xs K' := by
  unfold eStore
  repeat' split
  all_goals grind
theorem eAppend_mono {n b s dst xs} {K K' : St → Prop} (hk : ∀ s, K s → K' s) : eAppend n b s dst K xs → eAppend n b s dst K' xs := by
  unfold eAppend
  split
  · refine addRows_mono fun rows h => ⟨h.1, h.2.1, h.2.2.1, ?_⟩
    have := h.2.2.2
    revert this
    repeat' split
    all_goals grind
  · exact id
theorem eCopy_mono {n s dst xs} {K K' : St → Prop} (hk : ∀ s, K s → K' s) : eCopy n s dst K xs → eCopy n s dst K' xs := by
  unfold eCopy
  split
  · refine fun ⟨a, a2, b⟩ => ⟨a, a2, ?_⟩
    unfold cpRows at b ⊢
    revert b
    split
    · exact id
    · refine addRows_mono fun rows h => ?_
      revert h
      split <;> grind
  · exact id
theorem addRowsU_mono {σ sz x} {k k' : List (List AV) → Prop} (hk : ∀ x, k x → k' x) : addRowsU σ sz x k → addRowsU σ sz x k' := by
  unfold addRowsU
  split
  · split
    · exact fun ⟨a, b, c, d⟩ => ⟨a, b, c, hk _ d⟩
    · exact fun ⟨_, h⟩ => h.elim
  · exact addRows_mono hk
theorem eAppendU_mono {n b s dst xs} {K K' : St → Prop} (hk : ∀ s, K s → K' s) : eAppendU n b s dst K xs → eAppendU n b s dst K' xs := by
  unfold eAppendU
  split
  · refine addRowsU_mono fun rows h => ⟨h.1, h.2.1, h.2.2.1, ?_⟩
    have := h.2.2.2
    revert this
    split
    · exact fun ⟨a, b, c⟩ => ⟨a, b, hk _ c⟩
    · exact id
  · refine addRowsU_mono fun rows h => ⟨h.1, h.2.1, h.2.2.1, ?_⟩
    have := h.2.2.2
    revert this
    split
    · exact fun ⟨a, b, c, d, e⟩ => ⟨a, b, c, d, hk _ e⟩
    · exact id
  · exact id
theorem eMksliceU_mono {n b z ps s dst xs} {K K' : St → Prop} (hk : ∀ s, K s → K' s) : eMksliceU n b z ps s dst K xs → eMksliceU n b z ps s dst K' xs := by
  unfold eMksliceU
  split
  · exact fun ⟨a, b, c, d⟩ => ⟨a, b, c, hk _ d⟩
  · exact id
theorem CallI_mono {P f args s} {K K' : AV → St → Prop} (hk : ∀ r s, K r s → K' r s) (h : CallI P f args s K) : CallI P f args s K' :=
  fun F a w I β lam hI vs hs hR => (h F a w I β lam hI vs hs hR).mono fun e w' ⟨v, he, r, s', I', β', lam', hK, h⟩ => ⟨v, he, r, s', I', β', lam', hk _ _ hK, h⟩
theorem eCallI_mono {P f xs s dst} {K K' : St → Prop} (hk : ∀ s, K s → K' s) : eCallI P f xs s dst K → eCallI P f xs s dst K' :=
  CallI_mono fun _ _ h => ⟨h.1, hk _ h.2⟩
theorem awpOper_mono {P o s} {K K' : St → Prop} (hk : ∀ s, K s → K' s) : awpOper P o s K → awpOper P o s K' := by
  have hop : awpOp P o s K → awpOp P o s K' := by
    unfold awpOp
    split
    · unfold eChk
      split
      · exact evalE_mono fun _ _ h => ⟨h.1, h.2.1, hk _ h.2.2⟩
      · exact id
    · exact fun ⟨a, b⟩ => ⟨a, hk _ b⟩
    · exact eStore_mono hk
    · exact eAppend_mono hk
    · exact eCopy_mono hk
    · exact eAppendU_mono hk
    · exact eMksliceU_mono hk
    · unfold eNilS
      split
      · split
        · exact fun ⟨a, b⟩ => ⟨fun h => ⟨hk _ (a h).1, hk _ (a h).2⟩, fun h => hk _ (b h)⟩
        · exact id
      · exact id
    · exact fun ⟨a, b⟩ => ⟨a, eCallI_mono hk b⟩
    · split
      · exact fun ⟨a, b⟩ => ⟨a, eCallI_mono hk b⟩
      · exact id
    · exact evalE_mono fun _ _ => hk _
  unfold awpOper
  repeat' split
  · exact hop
  · exact fun ⟨a, b⟩ => ⟨fun h => hop (a h), fun h => hk _ (b h)⟩
  · exact hk _
  · exact id
theorem awpOps_mono {P} : ∀ {os s} {K K' : St → Prop}, (∀ s, K s → K' s) → awpOps P os s K → awpOps P os s K'
  | [], _, _, _, hk, h => hk _ h
  | _ :: _, _, _, _, hk, h => awpOper_mono (fun _ => awpOps_mono hk) h
theorem freezes_mono : ∀ {ks s} {K K' : St → Prop}, (∀ s, K s → K' s) → freezes ks s K → freezes ks s K'
  | [], _, _, _, hk, h => hk _ h
  | k :: ks, s, K, K', hk, h => by
    simp only [freezes, eFreeze] at h ⊢
    split at h
    · exact ⟨h.1, freezes_mono hk h.2⟩
    · exact h
theorem awp_mono {P} : ∀ {c s} {K K' : Exit → St → Prop}, (∀ e s, K e s → K' e s) → awp P c s K → awp P c s K'
  | .skip, _, _, _, hk, h => hk _ _ h
  | .region .., _, _, _, hk, h => freezes_mono (fun _ => awpOps_mono fun _ h => by
      unfold dropK at h ⊢
      exact ⟨h.1, hk _ _ h.2⟩) h
  | .seq a b, s, K, K', hk, h => by
    simp only [awp] at h ⊢
    refine awp_mono (fun e s h => ?_) h
    cases e <;> first | exact awp_mono hk h | exact hk _ _ h
  | .cond c a b, s, K, K', hk, h => by
    simp only [awp] at h ⊢
    split at h
    · exact ⟨fun e => awp_mono hk (h.1 e), fun e => awp_mono hk (h.2 e)⟩
    · exact h
  | .block i b, s, K, K', hk, h => by
    simp only [awp] at h ⊢
    refine awp_mono (fun e s h => ?_) h
    cases e <;> simp only [blockK] at h ⊢ <;> grind
  | .loop b, s, K, K', hk, ⟨J, n, h0, h⟩ => ⟨J, n, h0, fun n s hj => awp_mono (fun e s h => by
      cases e <;> simp only [loopK] at h ⊢ <;> grind) (h n s hj)⟩
  | .exit i, _, _, _, hk, h => hk _ _ h
  | .ret, _, _, _, hk, h => hk _ _ h

section
variable {P : Program} {s : St} {K : Exit → St → Prop} {KS : St → Prop} {os : List AOper} {d : Nat}

def mmA (P : Program) (b : Builtin) (ts : Array TypeId) (t : TypeId) (xs : List AV) : Option AV :=
  match toVs xs with
  | some vs => (semPure P (if b = .max then Builtin.max_ ts t vs.toArray else Builtin.min_ ts t vs.toArray)).map ofV
  | none => none
theorem ops_mm {b : Builtin} {ts : Array TypeId} {t : TypeId} {xs : List Opd} : awpOps P (⟨some d, .mm b ts t, xs, none⟩ :: os) s KS = optC (mmA P b ts t (xs.map (ev s))) P os s d KS := by
  show evalE P (s.base + d) (.mm b ts t) (xs.map (ev s)) (lk s.sto) (putC P os s (some d) KS) = _
  simp only [evalE, mmA]
  cases toVs (xs.map (ev s)) with
  | none => rfl
  | some vs => simp only [optV_put]
theorem mmA_max {ts : Array TypeId} {t : TypeId} {x y : Int} : mmA P .max ts t [iv x, iv y] = some (iv (max x y)) := by
  simp only [mmA, toVs, toV1, Builtin.max_, Option.map_some, if_true, List.foldlM, semPure_bind]
  simp only [Builtin.max2, semPure_pure, Option.bind_some, Option.map_some, ofV, ofV1]
  by_cases h : y > x
  · rw [if_pos h, Int.max_eq_right (by omega)]
  · rw [if_neg h, Int.max_eq_left (by omega)]
theorem mmA_min {ts : Array TypeId} {t : TypeId} {x y : Int} : mmA P .min ts t [iv x, iv y] = some (iv (min x y)) := by
  have e : (Go.Builtin.min = Go.Builtin.max) = False := by simp
  simp only [mmA, toVs, toV1, Builtin.min_, Option.map_some, e, if_false, List.foldlM, semPure_bind]
  simp only [Builtin.min2, semPure_pure, Option.bind_some, Option.map_some, ofV, ofV1]
  by_cases h : y < x
  · rw [if_pos h, Int.min_eq_right (by omega)]
  · rw [if_neg h, Int.min_eq_left (by omega)]


def stepC (st : Nat → St) (k : Nat) (K : Exit → St → Prop) : Exit → St → Prop
  | .normal, s => s = st k
  | e, s => K e s
def lastC (K : Exit → St → Prop) : Exit → St → Prop
  | .normal, _ => False
  | e, s => K e s
theorem stepC_normal {st : Nat → St} {k : Nat} : stepC st k K .normal s = (s = st k) := rfl
theorem stepC_exit {st : Nat → St} {k j : Nat} : stepC st k K (.exit j) s = K (.exit j) s := rfl
theorem stepC_ret {st : Nat → St} {k : Nat} : stepC st k K .ret s = K .ret s := rfl
theorem lastC_exit {j : Nat} : lastC K (.exit j) s = K (.exit j) s := rfl
theorem lastC_ret : lastC K .ret s = K .ret s := rfl
theorem lastC_normal : lastC K .normal s = False := rfl

theorem awp_for {a : ACode} (st : Nat → St) (N : Nat) (h0 : s = st 0) (h1 : ∀ k, k < N → awp P a (st k) (stepC st (k + 1) K)) (h2 : awp P a (st N) (lastC K)) : awp P (.loop a) s K := by
  refine ⟨fun n s => ∃ k, k ≤ N ∧ n = N - k ∧ s = st k, N, ⟨0, by omega, by omega, h0⟩, ?_⟩
  rintro n s ⟨k, hk, rfl, rfl⟩
  by_cases h : k < N
  · refine awp_mono (fun e s hs => ?_) (h1 k h)
    cases e with
    | normal => exact ⟨N - (k + 1), by omega, k + 1, by omega, rfl, hs⟩
    | _ => exact hs
  · obtain rfl : k = N := by omega
    refine awp_mono (fun e s hs => ?_) h2
    cases e with
    | normal => exact hs.elim
    | _ => exact hs

/-- The same, with something that holds at every round. -/
def stepI (st : Nat → St) (I : Nat → Prop) (k : Nat) (K : Exit → St → Prop) : Exit → St → Prop
  | .normal, s => s = st k ∧ I k
  | e, s => K e s
theorem stepI_normal {st : Nat → St} {I : Nat → Prop} {k : Nat} : stepI st I k K .normal s = (s = st k ∧ I k) := rfl
theorem stepI_exit {st : Nat → St} {I : Nat → Prop} {k j : Nat} : stepI st I k K (.exit j) s = K (.exit j) s := rfl
theorem stepI_ret {st : Nat → St} {I : Nat → Prop} {k : Nat} : stepI st I k K .ret s = K .ret s := rfl
theorem awp_forI {a : ACode} (st : Nat → St) (I : Nat → Prop) (N : Nat) (h0 : s = st 0) (i0 : I 0) (h1 : ∀ k, k < N → I k → awp P a (st k) (stepI st I (k + 1) K)) (h2 : I N → awp P a (st N) (lastC K)) :
    awp P (.loop a) s K := by
  refine ⟨fun n s => ∃ k, k ≤ N ∧ n = N - k ∧ s = st k ∧ I k, N, ⟨0, by omega, by omega, h0, i0⟩, ?_⟩
  rintro n s ⟨k, hk, rfl, rfl, hi⟩
  by_cases h : k < N
  · refine awp_mono (fun e s hs => ?_) (h1 k h hi)
    cases e with
    | normal => exact ⟨N - (k + 1), by omega, k + 1, by omega, rfl, hs⟩
    | _ => exact hs
  · obtain rfl : k = N := by omega
    refine awp_mono (fun e s hs => ?_) (h2 hi)
    cases e with
    | normal => exact hs.elim
    | _ => exact hs
end

/-! ### slices that grow by append -/

/-- A slice that began as nil, and to which the function itself has appended (owner: slot d). -/
def appV (sz d : Nat) (rows : List (List AV)) : AV := .list (if rows = [] then 0 else sz) (if rows = [] then .full else .own d) rows
/-- How others see it. -/
abbrev outV (sz : Nat) (rows : List (List AV)) : AV := .list (if rows = [] then 0 else sz) (if rows = [] then .full else .plain) rows
theorem strip_appV {sz d : Nat} {rows : List (List AV)} : strip (appV sz d rows) = outV sz rows := by
  unfold appV outV
  split <;> rfl
theorem rf_appV {sz d : Nat} {rows : List (List AV)} : rf (appV sz d rows) = true := rfl
theorem refsTo_appV {sz d k : Nat} {rows : List (List AV)} : refsTo k (appV sz d rows) = false := by simp [appV, refsTo]
theorem eLen_appV {sz d : Nat} {rows : List (List AV)} {K : AV → Option Entry → Prop} : eLen false [appV sz d rows] K = K (.val (.int .i64 rows.length)) none := by simp [appV, eLen]
theorem appV_nil {sz d : Nat} : appV sz d [] = .list 0 .full [] := rfl
theorem snap_appV {sz d : Nat} {rows : List (List AV)} {σ : Nat → Option Entry} : snap σ (appV sz d rows) = some (outV sz rows) := by
  rw [← strip_appV (d := d)]; rfl
theorem dg_val {l : Nat} {v : Value} : dg l (.val v) = .val v := rfl
theorem dg_agg {l : Nat} {v : List AV} : dg l (.agg v) = .agg v := rfl
theorem dg_ro {l : Nat} {v : List AV} : dg l (.ro v) = .ro v := rfl
theorem dg_ptr {l k o : Nat} : dg l (.ptr k o) = .ptr k o := rfl
theorem dg_plain {l sz : Nat} {r : List (List AV)} : dg l (.list sz .plain r) = .list sz .plain r := rfl
theorem dg_full {l sz : Nat} {r : List (List AV)} : dg l (.list sz .full r) = .list sz .full r := rfl
theorem dg_sl {l k sz off n : Nat} : dg l (.sl k sz off n) = .sl k sz off n := rfl
theorem dg_us {l k sz off n : Nat} : dg l (.us k sz off n) = if k = l then .undef else .us k sz off n := rfl
theorem dg_up {l k sz i off : Nat} : dg l (.up k sz i off) = if k = l then .undef else .up k sz i off := rfl
theorem dg_undef {l : Nat} : dg l .undef = .undef := rfl
theorem dg_eptr {l k sz i o : Nat} : dg l (.eptr k sz i o) = .eptr k sz i o := rfl
theorem dg_iface {l : Nat} {t : TypeId} {x : AV} : dg l (.iface t x) = .iface t x := rfl
theorem dg_fn {l : Nat} {f : Fn} {caps : List AV} : dg l (.fn f caps) = if caps.any (tok1 l) = true then .undef else .fn f caps := rfl
theorem dg_tuple {l : Nat} {caps : List AV} : dg l (.tuple caps) = if caps.any (tok1 l) = true then .undef else .tuple caps := rfl
theorem dg_appV {l sz d : Nat} {rows : List (List AV)} (h : d ≠ l) : dg l (appV sz d rows) = appV sz d rows := by
  by_cases e : rows = []
  · simp [appV, e, dg]
  · simp [appV, e, dg, h]
theorem eAppend_appV {sz by_ d l : Nat} {s : St} {KS : St → Prop} {rows : List (List AV)} {m : Mode} {x : List AV} {xs : List (List AV)} (h0 : 0 < sz) (h1 : s.base + d = l) :
    eAppend sz by_ s (some d) KS [appV sz l rows, .list sz m (x :: xs)] =
      ((rows.length + (xs.length + 1)) * by_ ≤ 140737488355328 ∧ rows.length + (xs.length + 1) ≤ 9223372036854775807 ∧ lk s.sto l = none ∧ KS ((s.dg l).put (some d) (appV sz l (rows ++ x :: xs)))) := by
  subst h1
  unfold appV
  by_cases h : rows = []
  · subst h
    simp [eAppend, addRows, h0, St.put]
  · simp [eAppend, addRows, h0, h, St.put]
/-! ### what is filled from the front -/

/-- To append to what was grown elsewhere. -/
theorem eAppend_appV2 {sz by_ d l sz' : Nat} {s : St} {KS : St → Prop} {rows xs : List (List AV)} {m : Mode} (h0 : 0 < sz) (hx : xs = [] ∨ sz' = sz) (h1 : lk s.sto (s.base + d) = none) (h2 : lk s.sto l = none)
    (hb : (rows.length + xs.length) * by_ ≤ 140737488355328) (hb2 : rows.length + xs.length ≤ 9223372036854775807)
    (hK : ∀ t, t = l ∨ t = s.base + d → KS ((s.dg t).put (some d) (.list sz (.own t) (rows ++ xs)))) : eAppend sz by_ s (some d) KS [appV sz l rows, .list sz' m xs] := by
  by_cases hr : rows = []
  · subst hr
    exact ⟨hx, h0, hb, hb2, .inl rfl, h1, hK _ (.inr rfl)⟩
  · simp only [appV, hr, if_false]
    exact ⟨hx, h0, hb, hb2, rfl, h2, hK _ (.inl rfl)⟩

def mix {α : Type} (L a : List α) (k : Nat) : List α := L.take k ++ a.drop k
theorem mix_zero {α : Type} {L a : List α} : mix L a 0 = a := by simp [mix]
theorem mix_all {α : Type} {L a : List α} {k : Nat} (h1 : L.length = k) (h2 : a.length = k) : mix L a k = L := by
  unfold mix
  rw [List.take_of_length_le (by omega), List.drop_of_length_le (by omega), List.append_nil]
theorem mix_len {α : Type} {L a : List α} {k : Nat} (h : L.length = a.length) : (mix L a k).length = a.length := by
  simp [mix]; omega
theorem mix_get {α : Type} {L a : List α} {k i : Nat} (h : L.length = a.length) (hi : k ≤ i) : (mix L a k)[i]? = a[i]? := by
  unfold mix
  by_cases hk : k ≤ L.length
  · rw [List.getElem?_append_right (by simp; omega), List.getElem?_drop]
    congr 1
    simp; omega
  · rw [List.getElem?_eq_none (by simp; omega), List.getElem?_eq_none (by omega)]
theorem mix_getElem {α : Type} {L a : List α} {k : Nat} (h : L.length = a.length) (hi : k < (mix L a k).length) (hj : k < a.length) : (mix L a k)[k] = a[k] := by
  have := mix_get (k := k) (i := k) h (by omega)
  rw [List.getElem?_eq_getElem hi, List.getElem?_eq_getElem hj] at this
  simpa using this
theorem mix_set {α : Type} {L a : List α} {k : Nat} {x : α} (h : L.length = a.length) (hx : L[k]? = some x) : (mix L a k).set k x = mix L a (k + 1) := by
  have hk : k < L.length := by
    have := List.getElem?_eq_some_iff.mp hx
    exact this.1
  apply List.ext_getElem?
  intro i
  rw [List.getElem?_set]
  unfold mix
  by_cases e : k = i
  · subst e
    rw [if_pos rfl, if_pos (by simp; omega), List.getElem?_append_left (by simp; omega), List.getElem?_take, if_pos (by omega), hx]
  · rw [if_neg e, List.getElem?_append, List.getElem?_append]
    simp only [List.length_take]
    by_cases h2 : i < k
    · rw [if_pos (by omega), if_pos (by omega), List.getElem?_take, List.getElem?_take, if_pos h2, if_pos (by omega)]
    · rw [if_neg (by omega), if_neg (by omega), List.getElem?_drop, List.getElem?_drop]
      congr 1
      omega
theorem mix_same {α : Type} {L a : List α} {k : Nat} {x : α} (h : L.length = a.length) (hx : L[k]? = some x) (ha : a[k]? = some x) : mix L a (k + 1) = mix L a k := by
  rw [← mix_set h hx]
  apply List.ext_getElem?
  intro i
  rw [List.getElem?_set]
  by_cases e : k = i
  · subst e
    have hk : k < L.length := (List.getElem?_eq_some_iff.mp hx).1
    rw [if_pos rfl, if_pos (by rw [mix_len h]; omega), mix_get h (by omega), ha]
  · rw [if_neg e]

theorem goLoad_full {l : List Int} {off n : Nat} (h : l.length = n) (h0 : off = 0) : goLoad (l.map iv) off (some n) = some (.agg (l.map iv)) := by
  subst h0
  exact goLoad_iv h
/-- How others see the mode of a slice. -/
def stm : Mode → Mode
  | .own _ => .plain
  | m => m
theorem strip_list {sz : Nat} {m : Mode} {rows : List (List AV)} : strip (.list sz m rows) = .list sz (stm m) rows := by cases m <;> rfl
theorem stm_plain : stm .plain = .plain := rfl
theorem stm_full : stm .full = .full := rfl
theorem stm_own {l : Nat} : stm (.own l) = .plain := rfl
theorem goLoad_all {cells : List AV} {n : Nat} (h : cells.length = n) (h2 : cells.all rf = true) : goLoad cells 0 (some n) = some (.agg (cells.map strip)) := by
  simp only [goLoad, List.drop_zero]
  rw [List.take_of_length_le (by omega), if_pos ⟨by omega, h2⟩]
theorem stm_stm {m : Mode} : stm (stm m) = stm m := by cases m <;> rfl
theorem dg_list {l sz : Nat} {m : Mode} {r : List (List AV)} (h : stm m = m) : dg l (.list sz m r) = .list sz m r := by
  cases m with
  | own k => cases h
  | _ => rfl
theorem put_some {s : St} {d : Nat} {x : AV} : s.put (some d) x = ⟨pt s.env d x, s.sto, s.out, s.base⟩ := rfl

end Go.Am

namespace Go.Am
attribute [simp] stepI_normal stepI_exit stepI_ret ops_mm mmA_max mmA_min stepC_normal stepC_exit stepC_ret lastC_normal lastC_exit lastC_ret intsA_map isInts_map intsA isInts strip_appV rf_appV refsTo_appV eLen_appV
  appV_nil snap_appV dg_val dg_agg dg_ro dg_ptr dg_plain dg_full dg_sl dg_appV dg_us dg_up dg_undef dg_eptr dg_iface dg_fn dg_tuple tok1 eAppend_appV put_some rowsA fillA St.dg dgE splice_one splice_all strip_list stm_plain stm_full stm_own stm_stm dg_list hasRef ref1 pf pf1 isVal mix_zero mix_len mix_getElem goLoad_full goLoad_all
end Go.Am
