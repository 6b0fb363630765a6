/- Functions and rounds: from the body's walk to what a call does; the handler that runs bodies. -/
import Derived.Test.YtdggbdjpcbiofaaGreatAiExec
namespace Go.Ai

def chkRes (P : Program) : List ResultVar → List (Tmp × Option (Bool × Nat)) → Bool
  | [], [] => true
  | .tmp t :: l, (t', none) :: l' => t == t' && chkRes P l l'
  | .cell a t :: l, (a', some (agg, size)) :: l' => a == a' && decide (isAggT P t = some agg) && decide (sizeT P t = some size) && chkRes P l l'
  | _, _ => false

def resOf (tmps : Array Value) : ResultVar → Sem Value
  | .tmp t => pure (tmps.getD t undef)
  | .cell a t => do loadVar t (← asAddr (tmps.getD a undef))

def chkFunc (P : Program) (eqs : List TypeId) (fn : Func) (af : AFunc) : Bool :=
  fn.ntmps == af.ntmps && fn.name != "runtime.NumGoroutine" && (match fn.body with
    | some c => chkCode P eqs true af.body c
    | none => false) && chkRes P fn.results.toList af.results

section
variable {α : Type} {good : α → Prop} {P : Program} {eqs : List TypeId}

theorem loadA_ptr {fail : α} (hf : ¬ good fail) {agg : Bool} {size : Nat} {p : AVal} {heap : List AObj} {K : AVal → α} (h : good (loadA fail agg size p heap K)) {E : Env} {u : Value} (hp : VRel p E u) : ∃ a, u = .pointer (some a) := by
  cases p <;> simp only [loadA] at h <;> first | (exact absurd h hf) | skip
  · simp only [VRel] at hp; obtain ⟨r, _, rfl⟩ := hp; exact ⟨_, rfl⟩
  · simp only [VRel] at hp; obtain ⟨r, off, rfl, _⟩ := hp; exact ⟨_, rfl⟩

theorem results_good {fail : α} (hf : ¬ good fail) {E : Env} {st : St} {tmps : Array Value} (T : TRel E st.tmps tmps) {CR : Code → ACode → Prop} {w : World} (H : HRel CR E st.heap w) :
    ∀ {rs : List ResultVar} {as : List (Tmp × Option (Bool × Nat))}, chkRes P rs as = true → ∀ {K : List AVal → α}, good (resultsA fail as st K) →
      ∃ vs us, good (K vs) ∧ (rs.mapM (resOf tmps) : Sem (List Value)).run P w = .ok us w ∧ VRels vs E us
  | [], [], _, K, h => ⟨[], [], h, by simp, by simp [VRels]⟩
  | .tmp t :: rs, (t', none) :: as, hk, K, h => by
    simp only [chkRes, Bool.and_eq_true, beq_iff_eq] at hk
    obtain ⟨rfl, hk⟩ := hk
    simp only [resultsA] at h
    obtain ⟨vs, us, h1, h2, h3⟩ := results_good hf T H hk h
    refine ⟨_, tmps.getD t undef :: us, h1, ?_, ?_⟩
    · simp only [List.mapM_cons, resOf, Sem.run_bind, Sem.run_pure, Result.andThen_ok, h2]
    · simp only [VRels]; exact ⟨_, _, rfl, T.2 t, h3⟩
  | .cell a t :: rs, (a', some (agg, size)) :: as, hk, K, h => by
    simp only [chkRes, Bool.and_eq_true, beq_iff_eq, decide_eq_true_eq] at hk
    obtain ⟨⟨⟨rfl, hagg⟩, hsize⟩, hk⟩ := hk
    simp only [resultsA] at h
    obtain ⟨ad, had⟩ := loadA_ptr hf h (T.2 a)
    obtain ⟨v, u', h1, h2, h3⟩ := load_good hf h (T.2 a) H hagg hsize (P := P)
    obtain ⟨vs, us, k1, k2, k3⟩ := results_good hf T H hk h1
    refine ⟨_, u' :: us, k1, ?_, ?_⟩
    · rw [had] at h2
      have h2' : (loadVar t ad).run P w = .ok u' w := by simpa [Instr.loadAt, Instr.sureAddr] using h2
      have had' : asAddr (.pointer (some ad)) = pure ad := rfl
      simp only [List.mapM_cons, resOf, Sem.run_bind, had, had', Sem.run_pure, Result.andThen_ok, h2', k2]
    · simp only [VRels]; exact ⟨_, _, rfl, h3, k3⟩
  | [], _ :: _, hk, _, _ => by simp [chkRes] at hk
  | .tmp _ :: _, [], hk, _, _ => by simp [chkRes] at hk
  | .cell _ _ :: _, [], hk, _, _ => by simp [chkRes] at hk
  | .tmp _ :: _, (_, some _) :: _, hk, _, _ => by simp [chkRes] at hk
  | .cell _ _ :: _, (_, none) :: _, hk, _, _ => by simp [chkRes] at hk

theorem pack_rel {vs : List AVal} {E : Env} {us : List Value} (h : VRels vs E us) : VRel (packA vs) E (if h : us.toArray.size = 1 then us.toArray[0] else .tuple us.toArray) := by
  cases vs with
  | nil => simp only [VRels] at h; subst h; simp [packA, VRel, VRels]
  | cons v vs =>
    simp only [VRels] at h
    obtain ⟨u, us', rfl, h1, h2⟩ := h
    cases vs with
    | nil => simp only [VRels] at h2; subst h2; simpa [packA] using h1
    | cons v' vs =>
      have h2' := h2
      simp only [VRels] at h2
      obtain ⟨u', us'', rfl, h3, h4⟩ := h2
      simp only [packA, VRel]
      refine ⟨(u :: u' :: us'').toArray, by simp, ?_⟩
      simp only [VRels]
      exact ⟨u, _, rfl, h1, u', us'', rfl, h3, h4⟩

theorem results_run {fn : Func} {tmps : Array Value} {w : World} {us : List Value} (h : (fn.results.toList.mapM (resOf tmps) : Sem (List Value)).run P w = .ok us w) :
    (results fn tmps).run P w = .ok (if h : us.toArray.size = 1 then us.toArray[0] else .tuple us.toArray) w := by
  have h' : (fn.results.mapM (resOf tmps) : Sem (Array Value)).run P w = .ok us.toArray w := by
    rw [← Array.toArray_toList (xs := fn.results), List.mapM_toArray]
    simp only [Sem.run_map, h, Result.andThen_ok]
  show ((do let vs ← fn.results.mapM (resOf tmps); pure (if h : vs.size = 1 then vs[0] else .tuple vs)) : Sem Value).run P w = _
  simp only [Sem.run_bind, Sem.run_pure, h', Result.andThen_ok]

/-- The marks are taken at the end. -/
theorem leave_sound {F : Fence} {n N0 : Nat} {CR : Code → ACode → Prop} {E E' : Env} {h h' : List AObj} {w : World} {fn : Func} {tmps : Array Value} {R : Ending → World → Prop} (hN : w.heap.size ≤ N0)
    (hfin : ∀ w', HRel CR E' h' w' → Step E h w E' h' w' → ∃ v, (results fn tmps).run P w' = .ok v w' ∧ R (.returned v) w') :
    ∀ (rs : List Nat) (w' : World), rs.Nodup → (∀ r ∈ rs, N0 ≤ r ∧ w'.heap[r]? = some (.deferred (some [])) ∧ ¬ Own E' h' r) → HRel CR E' h' w' → Step E h w E' h' w' → LeavesInM F n P fn tmps R (rs.map markOf) .returning w'
  | [], w', _, _, H, s => hfin w' H s
  | r :: rs, w', hnd, hr, H, s => by
    obtain ⟨hnd1, hnd2⟩ := List.nodup_cons.1 hnd
    obtain ⟨k1, k2, k3⟩ := hr r (by simp)
    have hlt : r < w'.heap.size := (Array.getElem?_eq_some_iff.1 k2).1
    have hg : (getObj r).run P w' = .ok (.deferred (some [])) w' := by simp [getObj, Sem.run, k2]
    have hs : ∀ o, (setObj r o).run P w' = .ok () (w'.putObj r o) := fun o => by simp [setObj, Sem.run, k2, World.putObj]
    simp only [List.map_cons, LeavesInM]
    refine ⟨(by intro e; cases e), .inl ⟨r, w'.putObj r (.deferred none), rfl, ?_, ?_⟩⟩
    · simp only [Instr.takeDeferred, Sem.run_bind, hg, Result.andThen_ok, hs, Sem.run_pure]
    · refine leave_sound hN hfin rs _ hnd2 (fun r' hr' => ?_) (H.quiet hlt k3 fun off => ?_) (s.quiet (Nat.le_trans hN k1))
      · obtain ⟨m1, m2, m3⟩ := hr r' (by simp [hr'])
        refine ⟨m1, ?_, m3⟩
        have hne : r' ≠ r := fun e => hnd1 (e ▸ hr')
        show (w'.heap.setIfInBounds r _)[r']? = _
        rw [Array.getElem?_setIfInBounds_ne (fun e => hne e.symm)]
        exact m2
      · cases hv : E'.fz r off with
        | none => rfl
        | some v =>
          have := H.fz r off v hv
          simp [World.cell?, k2] at this

/-- What a call that the interpreter answers does. -/
def Ret (good : α → Prop) (CR : Code → ACode → Prop) (K : AVal → List AObj → α) (E : Env) (heap : List AObj) (w : World) (v : Value) (w' : World) : Prop :=
  ∃ z h' E', good (K z h') ∧ VRel z E' v ∧ HRel CR E' h' w' ∧ Step E heap w E' h' w'

theorem trel_start {E : Env} {args : List AVal} {ras : Array Value} (hv : VRels args E ras.toList) (n : Nat) : TRel E (args ++ List.replicate (n - args.length) .undef) (ras ++ Array.replicate (n - ras.size) undef) := by
  have hl : ras.size = args.length := by simpa using hv.length
  refine ⟨by simp [hl], fun i => ?_⟩
  simp only [List.getD_eq_getElem?_getD, Array.getD_eq_getD_getElem?]
  by_cases hi : i < args.length
  · rw [List.getElem?_append_left hi, Array.getElem?_append_left (by omega)]
    obtain ⟨v, k1, k2⟩ := hv.get (List.getElem?_eq_getElem hi)
    rw [Array.getElem?_toList] at k1
    rw [k1, List.getElem?_eq_getElem hi]
    exact k2
  · rw [List.getElem?_append_right (by omega)]
    have : ((List.replicate (n - args.length) AVal.undef)[i - args.length]?).getD AVal.undef = .undef := by
      rw [List.getElem?_replicate]; split <;> rfl
    rw [this]
    simp only [VRel]

theorem body_sound {C : Cfg α} (hf : ¬ good C.fail) (hsm : ∀ x y k, good (C.same x y k) → x = y ∧ good k) (EQ : ∀ t, eqs.contains t = true → EqPlain P t) (HC : HOK good (CRof P eqs) P C.H) {f : FuncId} {fn : Func} {af : AFunc} (hfn : P.funcs[f]? = some fn) (hk : chkFunc P eqs fn af = true)
    {args : List AVal} {heap : List AObj} {K : AVal → List AObj → α} {E : Env} {w : World} {ras : Array Value} (h : good (bodyA C af args heap K)) (hv : VRels args E ras.toList) (H : HRel (CRof P eqs) E heap w) :
    CallsIn Fence.wide 0 P f ras w fun | .returned v, w' => Ret good (CRof P eqs) K E heap w v w' | _, _ => False := by
  simp only [chkFunc, Bool.and_eq_true, beq_iff_eq] at hk
  obtain ⟨⟨⟨hn, _⟩, hb⟩, hres⟩ := hk
  split at hb
  · rename_i c hc
    refine callsIn_of_wp_marks hfn hc trivial ?_
    have R0 : SR (CRof P eqs) w.heap.size E ⟨args ++ List.replicate (af.ntmps - args.length) .undef, heap⟩ { tmps := ras ++ Array.replicate (fn.ntmps - ras.size) undef, defers := [] } w :=
      ⟨by rw [hn]; exact trel_start hv _, H, ⟨[], rfl, List.nodup_nil, fun _ h => by cases h⟩⟩
    unfold bodyA at h
    refine wpIn_mono (exec_sound (N0 := w.heap.size) (n := 0) (ro := none) hf hsm EQ HC af.body true c hb (fun _ => rfl) R0 (Nat.le_refl _) h) fun e a' w' p => ?_
    obtain ⟨e', st', E', rfl, h2, R', s'⟩ := p
    have key : good (resultsA C.fail af.results st' fun vs => match af.hold with
        | true => K (packA vs) st'.heap
        | false => K (killA heap.length (packA vs)) ((st'.heap.take heap.length).map (killO heap.length))) →
        LeavesInM Fence.wide 0 P fn a'.tmps (fun | .returned v, w' => Ret good (CRof P eqs) K E heap w v w' | _, _ => False) a'.defers .returning w' := by
      intro hr
      obtain ⟨rs, m1, m2, m3⟩ := R'.M
      rw [m1]
      refine leave_sound (E := E) (h := heap) (w := w) (Nat.le_refl _) (fun w'' H'' s'' => ?_) rs w' m2 m3 R'.H s'
      obtain ⟨vs, us, k1, k2, k3⟩ := results_good hf R'.T H'' hres hr (P := P)
      refine ⟨_, results_run k2, ?_⟩
      have hp := pack_rel k3
      cases hh : af.hold with
      | true => rw [hh] at k1; exact ⟨_, _, E', k1, hp, H'', s''⟩
      | false => rw [hh] at k1; exact ⟨_, _, _, k1, hp.kill _, H''.kill _, s''.kill H _ (Nat.le_refl _)⟩
    cases e' with
    | normal => exact key h2
    | ret => exact key h2
    | exit id => exact absurd h2 hf
  · cases hb

/-! ### Rounds -/

theorem put_loop {CR : Code → ACode → Prop} {E : Env} {heap : List AObj} {w : World} {b : Nat} {rd rd' : Bool} {pe pe' : Option AExit} {ts : List AVal} {ps : List Tmp} {x y : ACode} {r : Nat} {L : Loop} (H : HRel CR E heap w)
    (hb : heap[b]? = some (.loop rd pe ts ps x y)) (hr : E.ρ b = some r) (hw : w.heap[r]? = some (.loop L)) (hT : TRel E ts L.tmps) (hp : L.params = ps.toArray) (hx : CR L.assign x) (hy : CR L.body y) :
    HRel CR E (heap.set b (.loop rd' pe' ts ps x y)) (w.putObj r (.loop { L with state := loopState rd' pe', pending := pe'.bind jumpCode })) ∧
      Step E heap w E (heap.set b (.loop rd' pe' ts ps x y)) (w.putObj r (.loop { L with state := loopState rd' pe', pending := pe'.bind jumpCode })) := by
  generalize hL : ({ L with state := loopState rd' pe', pending := pe'.bind jumpCode } : Loop) = L'
  have hlt : r < w.heap.size := (Array.getElem?_eq_some_iff.1 hw).1
  have hro : realOf E b (.loop rd pe ts ps x y) = some r := hr
  have hoth : ∀ k, k ≠ r → (w.putObj r (.loop L')).heap[k]? = w.heap[k]? := by
    intro k hk
    show (w.heap.setIfInBounds r _)[k]? = _
    rw [Array.getElem?_setIfInBounds_ne (fun e => hk e.symm)]
  have hnew : (w.putObj r (.loop L')).heap[r]? = some (.loop L') := by
    show (w.heap.setIfInBounds r _)[r]? = _
    simp [hlt]
  refine H.update hb (.refl E) (fun _ _ => rfl) (fun _ _ _ => rfl) (by show w.heap.size ≤ (w.heap.setIfInBounds r _).size; simp) (fun k hk hne => hoth k (fun e => hne (by rw [hro, e]))) (fun z hz => .inl (by simpa [realOf] using hz))
    ⟨r, L', hr, hnew, by rw [← hL], by rw [← hL], by rw [← hL]; exact hT, by rw [← hL]; exact hp, by rw [← hL]; exact hx, by rw [← hL]; exact hy⟩ ?_ (fun _ _ _ _ => rfl) ?_ ?_
  · intro r' o v hv
    have hne : r' ≠ r := fun e => by
      have := H.sep b _ r hb hro (fun _ _ e => by cases e) o
      rw [← e, hv] at this; cases this
    simp only [World.cell?]
    rw [hoth r' hne]
    exact H.fz r' o v hv
  · intro z hz _ off
    have : z = r := by have : E.ρ b = some z := hz; rw [hr] at this; cases this; rfl
    subst this
    exact H.sep b _ z hb hro (fun _ _ e => by cases e) off
  · intro n x hx
    obtain ⟨_, ho, hn⟩ := H.domt b n x hx
    rw [hb] at ho; cases ho
    exact hn.elim

theorem trel_params {E : Env} : ∀ (ps : List Tmp) (args : List AVal) (us : List Value) {ts : List AVal} {tmps : Array Value}, VRels args E us → TRel E ts tmps →
    TRel E ((ps.zip args).foldl (fun ts p => ts.set p.1 p.2) ts) ((ps.zip us).foldl (fun ts p => ts.setIfInBounds p.1 p.2) tmps)
  | [], _, _, _, _, _, T => by simpa using T
  | p :: ps, [], us, _, _, hv, T => by simp only [VRels] at hv; subst hv; simpa using T
  | p :: ps, v :: args, us, _, _, hv, T => by
    simp only [VRels] at hv
    obtain ⟨u, us', rfl, h1, h2⟩ := hv
    simp only [List.zip_cons_cons, List.foldl_cons]
    exact trel_params ps args us' h2 (T.put h1 p)

theorem round_sound {C : Cfg α} (hf : ¬ good C.fail) (hsm : ∀ x y k, good (C.same x y k) → x = y ∧ good k) (EQ : ∀ t, eqs.contains t = true → EqPlain P t) (HC : HOK good (CRof P eqs) P C.H) {l : Nat} {args : List AVal} {heap : List AObj} {K : AVal → List AObj → α} {E : Env} {w : World} {ras : Array Value} {r : Nat}
    (h : good (roundA C l args heap K)) (hr : E.ρ l = some r) (hv : VRels args E ras.toList) (H : HRel (CRof P eqs) E heap w) :
    ∃ L, w.heap[r]? = some (.loop L) ∧ ras.size = L.params.size ∧
      RoundIn Fence.wide 0 P r L.fn ((L.params.zip ras).foldl (fun tmps (t, a) => tmps.setIfInBounds t a) L.tmps) L.assign L.body w fun | .returned v, w' => Ret good (CRof P eqs) K E heap w v w' | _, _ => False := by
  unfold roundA at h
  split at h
  · rename_i rd pe ts ps x y hb
    obtain ⟨hlen, h⟩ := need_good hf h
    have hlen : args.length = ps.length := by simpa using hlen
    obtain ⟨r', L, k1, k2, k3, k4, k5, k6, k7, k8⟩ := H.obj _ _ hb
    rw [hr] at k1; cases k1
    have hsz : ras.size = args.length := by simpa using hv.length
    refine ⟨L, k2, by rw [k6]; simp; omega, ?_⟩
    refine roundIn_of_wpIn trivial ?_
    have hT : TRel E ((ps.zip args).foldl (fun ts p => ts.set p.1 p.2) ts) ((L.params.zip ras).foldl (fun tmps (t, a) => tmps.setIfInBounds t a) L.tmps) := by
      rw [k6]
      have := trel_params ps args ras.toList hv k5
      rw [← Array.foldl_toList, Array.toList_zip]
      exact this
    have R0 : SR (CRof P eqs) 0 E ⟨(ps.zip args).foldl (fun ts p => ts.set p.1 p.2) ts, heap⟩ { tmps := (L.params.zip ras).foldl (fun tmps (t, a) => tmps.setIfInBounds t a) L.tmps, defers := [] } w :=
      ⟨hT, H, ⟨[], rfl, List.nodup_nil, fun _ h => by cases h⟩⟩
    refine wpIn_mono (exec_sound (N0 := 0) (n := 0) (ro := some r) hf hsm EQ HC x false L.assign k7 (fun e => by cases e) R0 (Nat.zero_le _) h) fun e a' w' p => ?_
    obtain ⟨e', st1, E1, rfl, h2, R1, s1⟩ := p
    cases e' with
    | exit id => exact absurd h2 hf
    | ret => exact absurd h2 hf
    | normal =>
      simp only at h2
      split at h2
      · rename_i ts1 ps1 x1 y1 hb1
        have hr1 : E1.ρ l = some r := s1.le.ρ _ _ hr
        obtain ⟨r', L1, q1, q2, q3, q4, q5, q6, q7, q8⟩ := R1.H.obj _ _ hb1
        rw [hr1] at q1; cases q1
        have hg : (getObj r).run P w' = .ok (.loop L1) w' := by simp [getObj, Sem.run, q2]
        have hs : ∀ o, (setObj r o).run P w' = .ok () (w'.putObj r o) := fun o => by simp [setObj, Sem.run, q2, World.putObj]
        have hpend : L1.pending = none := q4
        have hbegin : (Instr.beginRound r).run P w' = .ok () (w'.putObj r (.loop { L1 with state := loopState false none, pending := (none : Option AExit).bind jumpCode })) := by
          have hst : L1.state = .ready := q3
          have : ({ L1 with state := loopState false none, pending := (none : Option AExit).bind jumpCode } : Loop) = { L1 with state := .busy } := by
            simp only [loopState, Option.bind_none, ← hpend]
          rw [this]
          simp only [Instr.beginRound, Instr.getLoop, Sem.run_bind, hg, Result.andThen_ok, Sem.run_pure, hs, hst]
        obtain ⟨H2, s2⟩ := put_loop (rd' := false) (pe' := none) R1.H hb1 hr1 q2 q5 q6 q7 q8
        refine ⟨_, hbegin, ?_⟩
        have R2 := exec_sound (N0 := 0) (n := 0) (ro := some r) hf hsm EQ HC y false L.body k8 (fun e => by cases e) (st := ⟨st1.tmps, st1.heap.set l (.loop false none ts1 ps1 x1 y1)⟩) ⟨R1.T, H2, R1.M.step s2⟩ (Nat.zero_le _) h2
        refine wpIn_mono R2 fun e a2 w2 p => ?_
        obtain ⟨e2, st2, E2, rfl, h3, R3, s3⟩ := p
        have h3 : good (endA C.fail l heap.length e2 st2.heap K) := h3
        unfold endA at h3
        split at h3
        · rename_i rd2 pe2 ts2 ps2 x2 y2 hb2
          have hr2 : E2.ρ l = some r := s3.le.ρ _ _ hr1
          obtain ⟨r', L2, p1, p2, p3, p4, p5, p6, p7, p8⟩ := R3.H.obj _ _ hb2
          rw [hr2] at p1; cases p1
          have hg2 : (getObj r).run P w2 = .ok (.loop L2) w2 := by simp [getObj, Sem.run, p2]
          have hs2 : ∀ o, (setObj r o).run P w2 = .ok () (w2.putObj r o) := fun o => by simp [setObj, Sem.run, p2, World.putObj]
          have hend : ∀ j, (Instr.endRound r j).run P w2 = .ok (.bool j.isNone) (w2.putObj r (.loop { L2 with state := if j.isNone then .ready else .done, pending := j })) := fun j => by
            simp only [Instr.endRound, Instr.getLoop, Sem.run_bind, hg2, Result.andThen_ok, Sem.run_pure, hs2]
          have s123 := (s1.trans s2).trans s3
          cases e2 with
          | normal =>
            obtain ⟨H4, s4⟩ := put_loop (rd' := true) (pe' := none) R3.H hb2 hr2 p2 p5 p6 p7 p8
            exact ⟨_, _, hend none, _, _, _, h3, by simp only [VRel]; rfl, H4.kill _, (s123.trans s4).kill H _ (Nat.le_refl _)⟩
          | exit id =>
            obtain ⟨H4, s4⟩ := put_loop (rd' := false) (pe' := some (.exit id)) R3.H hb2 hr2 p2 p5 p6 p7 p8
            exact ⟨_, _, hend (some (.exit id)), _, _, _, h3, by simp only [VRel]; rfl, H4.kill _, (s123.trans s4).kill H _ (Nat.le_refl _)⟩
          | ret =>
            obtain ⟨H4, s4⟩ := put_loop (rd' := false) (pe' := some .ret) R3.H hb2 hr2 p2 p5 p6 p7 p8
            exact ⟨_, _, hend (some .ret), _, _, _, h3, by simp only [VRel]; rfl, H4.kill _, (s123.trans s4).kill H _ (Nat.le_refl _)⟩
        · exact absurd h3 hf
      · exact absurd h2 hf
  · exact absurd h hf

/-! ### The handler that runs bodies -/

/-- Functions whose bodies are run, as deep as the fuel lasts; what is left goes to 'H0'. -/
def run {α : Type} (fail : α) (same : AVal → AVal → α → α) (N : Nat) (tbl : FuncId → Option AFunc) (H0 : AVal → List AVal → List AObj → (AVal → List AObj → α) → α) : Nat → AVal → List AVal → List AObj → (AVal → List AObj → α) → α
  | 0, _, _, _, _ => fail
  | k + 1, g, args, heap, K => match g with
    | .func f first caps => match tbl f with
      | some af => bodyA ⟨fail, run fail same N tbl H0 k, same, N⟩ af (first ++ args ++ caps) heap K
      | none => H0 g args heap K
    | .yield l => match args with
      | [.yield _] => fail
      | _ => roundA ⟨fail, run fail same N tbl H0 k, same, N⟩ l args heap K
    | _ => H0 g args heap K

/-- The table's bodies are the program's. -/
def TblOK (P : Program) (eqs : List TypeId) (tbl : FuncId → Option AFunc) : Prop :=
  ∀ f af, tbl f = some af → ∃ fn, P.funcs[f]? = some fn ∧ chkFunc P eqs fn af = true

theorem call_func {f : FuncId} {fn : Func} {af : AFunc} (hfn : P.funcs[f]? = some fn) (hk : chkFunc P eqs fn af = true) (as : Array Value) (w : World) : (callFunc f as).run P w = .ok (.enter f as) w := by
  simp only [chkFunc, Bool.and_eq_true, bne_iff_ne, ne_eq] at hk
  obtain ⟨⟨⟨_, hname⟩, hb⟩, _⟩ := hk
  split at hb
  · rename_i c hc
    have hp : (program).run P w = .ok P w := rfl
    have hn : (fn.name == "runtime.NumGoroutine") = false := by simpa using hname
    simp only [callFunc, Sem.run_bind, hp, Result.andThen_ok, hfn, hn, Bool.false_eq_true, if_false, hc, Option.isNone_some, Sem.run_pure]
  · cases hb

theorem run_ok {fail : α} (hf : ¬ good fail) {same : AVal → AVal → α → α} (hsm : ∀ x y k, good (same x y k) → x = y ∧ good k) {N : Nat} {tbl : FuncId → Option AFunc} {H0 : AVal → List AVal → List AObj → (AVal → List AObj → α) → α}
    (EQ : ∀ t, eqs.contains t = true → EqPlain P t) (ht : TblOK P eqs tbl) (h0 : HOK good (CRof P eqs) P H0) : ∀ k, HOK good (CRof P eqs) P (run fail same N tbl H0 k)
  | 0 => ⟨fun _ _ _ _ _ _ _ _ h => absurd h hf, fun _ _ _ _ _ _ _ _ h => absurd h hf⟩
  | k + 1 => by
    have ih := run_ok hf hsm EQ ht h0 k (same := same) (N := N)
    have enter : ∀ {f : FuncId} {first caps args : List AVal} {af : AFunc} {heap : List AObj} {K : AVal → List AObj → α} {E : Env} {w : World} {fv : Value} {ras : Array Value}, tbl f = some af →
        good (bodyA ⟨fail, run fail same N tbl H0 k, same, N⟩ af (first ++ args ++ caps) heap K) → VRel (.func f first caps) E fv → VRels args E ras.toList → HRel (CRof P eqs) E heap w →
        EnterOK P fv ras w (Ret good (CRof P eqs) K E heap w) := by
      intro f first caps args af heap K E w fv ras htb h hg ha H
      obtain ⟨fn, hfn, hk⟩ := ht f af htb
      simp only [VRel] at hg
      obtain ⟨vs, ws, rfl, h1, h2⟩ := hg
      have hv : VRels (first ++ args ++ caps) E (vs ++ ras ++ ws).toList := by
        simpa using (h1.append ha).append h2
      exact ⟨_, f, _, rfl, call_func hfn hk _ _, body_sound (C := ⟨fail, run fail same N tbl H0 k, same, N⟩) hf hsm EQ ih hfn hk h hv H⟩
    refine ⟨?_, ?_⟩
    · intro g args heap K E w fv ras h hg ha H
      simp only [run] at h
      split at h
      · rename_i f first caps
        split at h
        · rename_i af htb
          obtain ⟨d, f', as, h1, h2, h3⟩ := enter htb h hg ha H
          exact ⟨d, h1, by rw [h2]; exact h3⟩
        · exact h0.call _ _ _ _ _ _ _ _ h hg ha H
      · rename_i l
        split at h
        · exact absurd h hf
        simp only [VRel] at hg
        obtain ⟨r, hr, rfl⟩ := hg
        obtain ⟨L, k1, k2, k3⟩ := round_sound (C := ⟨fail, run fail same N tbl H0 k, same, N⟩) hf hsm EQ ih h hr ha H
        refine ⟨_, rfl, ?_⟩
        have hgo : (getObj r).run P w = .ok (.loop L) w := by simp [getObj, Sem.run, k1]
        have hi : (invoke (.fn (.yield r) #[]) (#[] ++ ras)).run P w = .ok (.round r L.fn ((L.params.zip ras).foldl (fun tmps (t, a) => tmps.setIfInBounds t a) L.tmps) L.assign L.body) w := by
          have hne : ¬ (ras.size ≠ L.params.size) := by simp [k2]
          simp only [invoke, Instr.yield, Instr.getLoop, Sem.run_bind, hgo, Result.andThen_ok, Sem.run_pure, Array.empty_append, if_neg hne]
        rw [hi]
        exact k3
      · exact h0.call _ _ _ _ _ _ _ _ h hg ha H
    · intro g l heap K E w fv r h hg hr H
      simp only [run] at h
      split at h
      · rename_i f first caps
        split at h
        · rename_i af htb
          exact enter htb h hg (by simp only [VRels]; exact ⟨_, [], rfl, by simp only [VRel]; exact ⟨r, hr, rfl⟩, rfl⟩) H
        · exact h0.range _ _ _ _ _ _ _ _ h hg hr H
      · exact absurd h hf
      · exact h0.range _ _ _ _ _ _ _ _ h hg hr H

end
end Go.Ai
