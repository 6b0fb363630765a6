/- Code: the interpreter's answer over a piece of code stands for what the machine does with it. -/
import Derived.Test.YtdggbdjpcbiofaaGreatAiDraw
import Derived.RangeFuncCalls
import Derived.RangeFuncLeaves
namespace Go.Ai

def exOf : AExit → Exit
  | .normal => .normal
  | .exit id => .exit id
  | .ret => .ret

def markOf (r : Nat) : Deferred := { target := .collected r, args := #[] }

/-- The blocks for the deferred calls of the rounds: empty, and no one's. -/
def Marks (N0 : Nat) (E : Env) (h : List AObj) (w : World) (ds : List Deferred) : Prop :=
  ∃ rs : List Nat, ds = rs.map markOf ∧ rs.Nodup ∧ ∀ r ∈ rs, N0 ≤ r ∧ w.heap[r]? = some (.deferred (some [])) ∧ ¬ Own E h r

theorem Marks.step {N0 : Nat} {E E' : Env} {h h' : List AObj} {w w' : World} {ds : List Deferred} (m : Marks N0 E h w ds) (s : Step E h w E' h' w') : Marks N0 E' h' w' ds := by
  obtain ⟨rs, h1, h2, h3⟩ := m
  refine ⟨rs, h1, h2, fun r hr => ?_⟩
  obtain ⟨k1, k2, k3⟩ := h3 r hr
  have hlt : r < w.heap.size := (Array.getElem?_eq_some_iff.1 k2).1
  refine ⟨k1, (s.keep r hlt k3).trans k2, fun o => ?_⟩
  rcases s.own r o with o | o
  · exact k3 o
  · omega

structure SR (CR : Code → ACode → Prop) (N0 : Nat) (E : Env) (st : St) (a : Act) (w : World) : Prop where
  T : TRel E st.tmps a.tmps
  H : HRel CR E st.heap w
  M : Marks N0 E st.heap w a.defers

theorem TRel.put {E : Env} {ts : List AVal} {a : Array Value} (T : TRel E ts a) {v : AVal} {u : Value} (hv : VRel v E u) (d : Tmp) : TRel E (ts.set d v) (a.setIfInBounds d u) := by
  refine ⟨by simpa using T.1, fun i => ?_⟩
  by_cases hi : i = d
  · subst hi
    by_cases hl : i < ts.length
    · have hl' : i < a.size := Nat.lt_of_lt_of_le hl T.1
      simp only [List.getD_eq_getElem?_getD, List.getElem?_set_self hl, Option.getD_some, Array.getD_eq_getD_getElem?, Array.getElem?_setIfInBounds_self_of_lt hl']
      exact hv
    · simp only [List.getD_eq_getElem?_getD]
      rw [List.getElem?_eq_none (by simpa using hl)]
      simp [VRel]
  · have := T.2 i
    simp only [List.getD_eq_getElem?_getD, Array.getD_eq_getD_getElem?] at this ⊢
    rw [List.getElem?_set_ne (fun e => hi e.symm), Array.getElem?_setIfInBounds_ne (fun e => hi e.symm)]
    exact this

theorem TRel.putL {E : Env} {ts : List AVal} {a : Act} (T : TRel E ts a.tmps) {v : AVal} {u : Value} (hv : VRel v E u) (d : Option Tmp) : TRel E (putL ts d v) (a.put d u).tmps := by
  cases d with
  | none => exact T
  | some d => exact T.put hv d

theorem put_defers (a : Act) (d : Option Tmp) (u : Value) : (a.put d u).defers = a.defers := by cases d <;> rfl

/-! ### Calls -/

/-- What a call of a function value does. -/
def CallOK (P : Program) (fv : Value) (args : Array Value) (w : World) (R : Value → World → Prop) : Prop :=
  ∃ d, (Deferred.ofValue fv args).run P w = .ok d w ∧
    match (invoke d.target d.args).run P w with
    | .ok (.value v) w' => R v w'
    | .ok (.enter f as) w' => CallsIn Fence.wide 0 P f as w' fun | .returned v, w'' => R v w'' | _, _ => False
    | .ok (.round l f tmps assign body) w' => RoundIn Fence.wide 0 P l f tmps assign body w' fun | .returned v, w'' => R v w'' | _, _ => False
    | _ => False

/-- A call that enters a function. -/
def EnterOK (P : Program) (fv : Value) (args : Array Value) (w : World) (R : Value → World → Prop) : Prop :=
  ∃ d f as, (Deferred.ofValue fv args).run P w = .ok d w ∧ (invoke d.target d.args).run P w = .ok (.enter f as) w ∧
    CallsIn Fence.wide 0 P f as w fun | .returned v, w'' => R v w'' | _, _ => False

/-- What is asked of the handler. -/
structure HOK {α : Type} (good : α → Prop) (CR : Code → ACode → Prop) (P : Program) (H : AVal → List AVal → List AObj → (AVal → List AObj → α) → α) : Prop where
  call : ∀ (g : AVal) (args : List AVal) (heap : List AObj) (K : AVal → List AObj → α) (E : Env) (w : World) (fv : Value) (ras : Array Value),
    good (H g args heap K) → VRel g E fv → VRels args E ras.toList → HRel CR E heap w →
    CallOK P fv ras w fun v w' => ∃ z h' E', good (K z h') ∧ VRel z E' v ∧ HRel CR E' h' w' ∧ Step E heap w E' h' w'
  range : ∀ (g : AVal) (l : Nat) (heap : List AObj) (K : AVal → List AObj → α) (E : Env) (w : World) (fv : Value) (r : Nat),
    good (H g [.yield l] heap K) → VRel g E fv → E.ρ l = some r → HRel CR E heap w →
    EnterOK P fv #[.func (.yield r) #[] #[]] w fun v w' => ∃ z h' E', good (K z h') ∧ VRel z E' v ∧ HRel CR E' h' w' ∧ Step E heap w E' h' w'

/-! ### The checker -/

def chkCall (o : Oper) (ao : AOp) : Bool :=
  match o.op, ao with
  | .call { callee := .value f, args := as, argTypes := _ }, .call f' as' => argOk f f' && argsOk as.toList as'
  | _, _ => false

def isCall : AOp → Bool
  | .call .. => true
  | _ => false

def chkGuard (ops : List Oper) : Option (Nat × Bool) → Option (Tmp × Bool) → Bool
  | none, none => true
  | some (j, b), some (t, b') => b == b' && ((ops[j]?).bind (·.dst)) == some t
  | _, _ => false

def chkOper (P : Program) (eqs : List TypeId) (ops : List Oper) (o : Oper) (ao : AOper) : Bool :=
  o.dst == ao.dst && chkGuard ops o.guard ao.guard && (cond (isCall ao.op) (chkCall o ao.op) (chkOp P eqs o ao.op))

def chkOpers (P : Program) (eqs : List TypeId) (ops : List Oper) : List Oper → List AOper → Bool
  | [], [] => true
  | o :: l, ao :: l' => chkOper P eqs ops o ao && chkOpers P eqs ops l l'
  | _, _ => false

def preOf (pre : List (List Nat)) (i : Nat) : List Nat := pre.getD i []

def share (x y : AOper) : Bool := x.writes.any fun t => y.looks.contains t || y.writes.contains t

def isPend (d : Tmp) (size : Nat) (it : AItem) : Bool :=
  match it.o.op with
  | .pend s => s == size && it.o.dst == some d
  | _ => false

def isPst (d : Tmp) (size : Nat) (it : AItem) : Bool :=
  match it.o.op with
  | .pstore s d' _ => s == size && d' == d
  | _ => false

/-- The operation of the text and the item. -/
def chkItem (P : Program) (eqs : List TypeId) (ops : List Oper) (items : List AItem) (pre : List (List Nat)) (it : AItem) (o : Oper) : Bool :=
  match it.o.op with
  | .pend size => (match o.op with
    | .alloc t => (match P.info? t with
      | some i => match i.zero with
        | some v => decide (v.cells.size = size)
        | none => false
      | none => false)
    | _ => false) && o.dst == it.o.dst && it.o.dst.isSome && o.guard.isNone && it.o.guard.isNone &&
    (it.o.dst.toList.all fun d => items.all fun j => !j.o.writes.contains d || j.idx == it.idx || isPst d size j)
  | .pstore size d v => (match o.op with
    | .store t (.tmp d') v' => d' == d && decide (sizeT P t = some size) && argOk v' v
    | _ => false) && o.dst.isNone && it.o.dst.isNone && o.guard.isNone && it.o.guard.isNone &&
    (items.any fun j => isPend d size j && (preOf pre it.idx).contains j.idx) &&
    (items.all fun j => !j.o.writes.contains d || j.idx == it.idx || isPend d size j)
  | _ => chkOper P eqs ops o it.o

def chkAt (P : Program) (eqs : List TypeId) (ops : List Oper) (items : List AItem) (pre : List (List Nat)) (D : List AItem) (it : AItem) (R : List AItem) : Bool :=
  match ops[it.idx]? with
  | none => false
  | some o => chkItem P eqs ops items pre it o &&
    ((preOf pre it.idx).all fun j => o.after.toList.any fun e => Region.binds .any e && (e.on == j || (preOf pre e.on).contains j)) &&
    (o.after.toList.all fun e => !Region.binds .any e || (preOf pre it.idx).contains e.on) &&
    ((preOf pre it.idx).all fun j => D.any fun x => x.idx == j) &&
    (match it.o.op.effect with
    | true => (R.all fun r => (preOf pre r.idx).contains it.idx) && (D.all fun j => !share it.o j.o || (preOf pre it.idx).contains j.idx) &&
        (D.all fun r => !r.o.op.reads || (preOf pre it.idx).contains r.idx || it.late.contains r.idx)
    | false => (it.o.writes.all fun t => !it.o.looks.contains t) && (D.all fun j => !share it.o j.o) && (R.all fun j => !share it.o j.o || (preOf pre j.idx).contains it.idx))

def chkRest (P : Program) (eqs : List TypeId) (ops : List Oper) (items : List AItem) (pre : List (List Nat)) : List AItem → List AItem → Bool
  | _, [] => true
  | D, it :: R => chkAt P eqs ops items pre D it R && chkRest P eqs ops items pre (D ++ [it]) R

def nodupB : List Nat → Bool
  | [] => true
  | x :: l => !l.contains x && nodupB l

def chkDraw (P : Program) (eqs : List TypeId) (ops : List Oper) (items : List AItem) (pre : List (List Nat)) : Bool :=
  P.follows .mixedOrders && Nat.ble items.length ops.length && nodupB (items.map (·.idx)) && ((List.range ops.length).all fun i => items.any fun it => it.idx == i) && chkRest P eqs ops items pre [] items

def chkCode (P : Program) (eqs : List TypeId) : Bool → ACode → Code → Bool
  | _, .skip, .skip => true
  | _, .label, .label _ => true
  | _, .exit id, .exit id' => id == id'
  | _, .ret, .ret => true
  | _, .region aops, .region _ ops false => chkOpers P eqs ops.toList ops.toList aops
  | _, .draw items pre, .region _ ops true => chkDraw P eqs ops.toList items pre
  | m, .seq a b, .seq x y => chkCode P eqs m a x && chkCode P eqs m b y
  | m, .cond c a b, .cond c' x y => argOk c' c && chkCode P eqs m a x && chkCode P eqs m b y
  | m, .block id a, .block id' x => id == id' && chkCode P eqs m a x
  | m, .loop _ a, .loop x => chkCode P eqs m a x
  | true, .rangeFunc g ps as b, .rangeFunc g' ps' as' b' => argOk g' g && ps'.toList == ps && chkCode P eqs false as as' && chkCode P eqs false b b'
  | _, _, _ => false

def CRof (P : Program) (eqs : List TypeId) (c : Code) (ac : ACode) : Prop := chkCode P eqs false ac c = true

section
variable {α : Type} {good : α → Prop} {P : Program} {eqs : List TypeId} {F : Fence} {n N0 : Nat}

/-- What is left behind. -/
def Post (good : α → Prop) (P : Program) (eqs : List TypeId) (N0 : Nat) (E : Env) (h : List AObj) (w : World) (K : AExit → St → α) (e : Exit) (a' : Act) (w' : World) : Prop :=
  ∃ e' st' E', exOf e' = e ∧ good (K e' st') ∧ SR (CRof P eqs) N0 E' st' a' w' ∧ Step E h w E' st'.heap w'

theorem SR.step {CR : Code → ACode → Prop} {E E' : Env} {st : St} {h' : List AObj} {a : Act} {w w' : World} (R : SR CR N0 E st a w) (s : Step E st.heap w E' h' w') (H : HRel CR E' h' w') {v : AVal} {u : Value} (hv : VRel v E' u) (d : Option Tmp) :
    SR CR N0 E' ⟨putL st.tmps d v, h'⟩ (a.put d u) w' :=
  ⟨(R.T.mono s.le).putL hv d, H, by rw [put_defers]; exact R.M.step s⟩

theorem guard_ok {fail : α} (hf : ¬ good fail) {ops : List Oper} {o : Oper} {ao : AOper} (hk : chkGuard ops o.guard ao.guard = true) {E : Env} {st : St} {a : Act} (T : TRel E st.tmps a.tmps) {run skip : α}
    (h : good (guardA fail ao st.tmps run skip)) : (Region.wanted o (yielded ops.toArray a.tmps) = true ∧ good run) ∨ (Region.wanted o (yielded ops.toArray a.tmps) = false ∧ good skip) := by
  unfold guardA at h
  unfold chkGuard at hk
  split at hk
  · rename_i h1 h2
    rw [h2] at h
    exact .inl ⟨by simp [Region.wanted, h1], h⟩
  · rename_i j b t b' h1 h2
    rw [h2] at h
    simp only [Bool.and_eq_true, beq_iff_eq] at hk
    obtain ⟨rfl, hj⟩ := hk
    simp only at h
    have hv := T.2 t
    have hw : Region.wanted o (yielded ops.toArray a.tmps) = (yielded ops.toArray a.tmps j == some b) := by simp [Region.wanted, h1]
    have hy : yielded ops.toArray a.tmps j = match a.tmps[t]? with | some (.bool b) => some b | _ => none := by
      unfold yielded
      have : (ops.toArray[j]?).bind (·.dst) = some t := by rw [List.getElem?_toArray]; exact hj
      rw [this]
      rfl
    rw [hw, hy]
    have hgd : a.tmps.getD t undef = (a.tmps[t]?).getD undef := by rw [Array.getD_eq_getD_getElem?]
    rw [hgd] at hv
    split at h
    · rename_i c hc
      rw [hc] at hv
      simp only [VRel] at hv
      have ht : a.tmps[t]? = some (.bool c) := by
        cases ht : a.tmps[t]? with
        | none => rw [ht] at hv; simp [undef] at hv
        | some x => rw [ht] at hv; simpa using hv
      rw [ht]
      cases b <;> cases c <;> simp_all
    · rename_i hc
      rw [hc] at hv
      simp only [VRel] at hv
      obtain ⟨vs, hv, hvs⟩ := hv
      have ht : ∀ c, a.tmps[t]? ≠ some (.bool c) := by
        intro c ht; rw [ht] at hv; simp at hv
      refine .inr ⟨?_, h⟩
      cases ht' : a.tmps[t]? with
      | none => rfl
      | some x =>
        cases x <;> first | rfl | (exact absurd ht' (ht _))
    · exact absurd h hf
  · cases hk

/-- The fences of the walks: all functions; perhaps a round's. -/
def fenceOf (ro : Option Nat) : Fence := { fn := fun _ => True, depth := none, alive := false, round := ro }

theorem callsIn_open {ro : Option Nat} {f : FuncId} {as : Array Value} {w : World} {R : Ending → World → Prop} (h : CallsIn Fence.wide 0 P f as w R) : CallsIn (fenceOf ro) n P f as w R :=
  ⟨trivial, fun cs _ => h.2 cs (room_wide _)⟩

theorem callsIn_shut {f : FuncId} {as : Array Value} {w : World} {R : Ending → World → Prop} (h : CallsIn Fence.wide n P f as w R) : CallsIn Fence.wide 0 P f as w R :=
  ⟨trivial, fun cs _ => h.2 cs (room_wide _)⟩

theorem roundIn_open {ro : Option Nat} {l : Nat} {f : FuncId} {tmps : Array Value} {assign body : Code} {w : World} {R : Ending → World → Prop} (h : RoundIn Fence.wide 0 P l f tmps assign body w R) : RoundIn (fenceOf ro) n P l f tmps assign body w R :=
  ⟨trivial, fun c cs _ => h.2 c cs (room_wide _)⟩

theorem chkOp_defer {o : Oper} {ao : AOp} (hk : chkOp P eqs o ao = true) : ∀ c, o.op ≠ .defer c := by
  intro c e
  unfold chkOp at hk
  rw [e] at hk
  simp at hk

theorem oper_sound {C : Cfg α} (hf : ¬ good C.fail) (EQ : ∀ t, eqs.contains t = true → EqPlain P t) (HC : HOK good (CRof P eqs) P C.H) {ops : List Oper} {o : Oper} {ao : AOper} (hk : chkOper P eqs ops o ao = true)
    {ro : Option Nat} {E : Env} {st : St} {a : Act} {w : World} (R : SR (CRof P eqs) N0 E st a w) {K : St → α} (h : good (opA C ao.op st fun v h' => K ⟨putL st.tmps ao.dst v, h'⟩)) {next : Act → World → Prop} {Q : Exit → Act → World → Prop}
    (hn : ∀ st' E' a' w', good (K st') → SR (CRof P eqs) N0 E' st' a' w' → Step E st.heap w E' st'.heap w' → next a' w') : o.wpIn (fenceOf ro) n P a w next Q := by
  refine ⟨fun _ _ => trivial, ?_⟩
  simp only [chkOper, Bool.and_eq_true, beq_iff_eq] at hk
  obtain ⟨⟨hd, _⟩, hk⟩ := hk
  cases hc : isCall ao.op with
  | true =>
    rw [hc] at hk
    simp only [cond_true] at hk
    unfold chkCall at hk
    split at hk
    · rename_i f as ts f' as' h1 h2
      simp only [Bool.and_eq_true] at hk
      rw [h2] at h
      simp only [opA] at h
      obtain ⟨d, hd1, hd2⟩ := HC.call _ _ _ _ E w (a.eval f) (as.map a.eval) h (argOk_rel hk.1 R.T) (by simpa using argsOk_rel hk.2 R.T) R.H
      have hsem : o.semAt (fenceOf ro).round a.eval = execOp a.eval o := Oper.semAt_eq _ _ _ (by rw [h1]; intro c e; cases e)
      rw [hsem]
      have hrun : (execOp a.eval o).run P w = (invoke d.target d.args).run P w := by
        simp only [execOp, h1, resolve, Sem.run_bind, hd1, Result.andThen_ok]
      rw [hrun]
      split at hd2
      · rename_i v w' hr
        rw [hr]
        obtain ⟨z, h', E', k1, k2, k3, k4⟩ := hd2
        simp only [Oper.uponIn]
        rw [hd]
        exact hn _ _ _ _ k1 (R.step k4 k3 k2 ao.dst) k4
      · rename_i g as' w' hr
        rw [hr]
        simp only [Oper.uponIn]
        refine ⟨fun e => by simp [fenceOf] at e, callsIn_open (hd2.mono fun e w'' he => ?_)⟩
        cases e with
        | returned v =>
          obtain ⟨z, h', E', k1, k2, k3, k4⟩ := he
          rw [hd]
          exact hn _ _ _ _ k1 (R.step k4 k3 k2 ao.dst) k4
        | panicked c => exact he.elim
        | outgrown => exact he.elim
      · rename_i l f tmps assign body w' hr
        rw [hr]
        simp only [Oper.uponIn]
        refine ⟨fun e => by simp [fenceOf] at e, roundIn_open (hd2.mono fun e w'' he => ?_)⟩
        cases e with
        | returned v =>
          obtain ⟨z, h', E', k1, k2, k3, k4⟩ := he
          rw [hd]
          exact hn _ _ _ _ k1 (R.step k4 k3 k2 ao.dst) k4
        | panicked c => exact he.elim
        | outgrown => exact he.elim
      · exact hd2.elim
    · cases hk
  | false =>
    rw [hc] at hk
    simp only [cond_false] at hk
    rw [Oper.semAt_eq _ _ _ (chkOp_defer hk)]
    obtain ⟨v, u, h', E', w', k1, k2, k3, k4, k5⟩ := op_sound hf EQ hk R.T R.H h
    rcases k2 with k2 | ⟨k2, rfl⟩
    · rw [k2]
      simp only [Oper.uponIn]
      rw [hd]
      exact hn _ _ _ _ k1 (R.step k5 k4 k3 ao.dst) k5
    · rw [k2]
      simp only [Oper.uponIn]
      rw [hd]
      exact hn _ _ _ _ k1 (R.step k5 k4 k3 ao.dst) k5

theorem ops_sound {C : Cfg α} (hf : ¬ good C.fail) (EQ : ∀ t, eqs.contains t = true → EqPlain P t) (HC : HOK good (CRof P eqs) P C.H) {ops : List Oper} {ro : Option Nat} {Q : Exit → Act → World → Prop} :
    ∀ (l : List Oper) (al : List AOper) (pre : List Oper), ops = pre ++ l → chkOpers P eqs ops l al = true → ∀ {E : Env} {st : St} {a : Act} {w : World}, SR (CRof P eqs) N0 E st a w → ∀ {K : St → α}, good (opsA C al st K) →
      (∀ st' E' a' w', good (K st') → SR (CRof P eqs) N0 E' st' a' w' → Step E st.heap w E' st'.heap w' → Q .normal a' w') → wpOpsIn (fenceOf ro) n P ops.toArray Q (List.range' pre.length l.length) a w
  | [], al, pre, hl, hk, E, st, a, w, R, K, h, hn => by
    cases al with
    | nil => exact hn _ _ _ _ h R (.refl _ _ _)
    | cons _ _ => simp [chkOpers] at hk
  | o :: l, al, pre, hl, hk, E, st, a, w, R, K, h, hn => by
    cases al with
    | nil => simp [chkOpers] at hk
    | cons ao al =>
      simp only [chkOpers, Bool.and_eq_true] at hk
      obtain ⟨hk1, hk2⟩ := hk
      simp only [List.length_cons, List.range'_succ, wpOpsIn]
      have hget : ops.toArray[pre.length]? = some o := by simp [hl]
      rw [hget]
      have hpre : (pre ++ [o]).length = pre.length + 1 := by simp
      have hl' : ops = (pre ++ [o]) ++ l := by simp [hl]
      simp only [opsA] at h
      have hg : chkGuard ops o.guard ao.guard = true := by
        simp only [chkOper, Bool.and_eq_true] at hk1; exact hk1.1.2
      have hdst : o.dst = ao.dst := by
        simp only [chkOper, Bool.and_eq_true, beq_iff_eq] at hk1; exact hk1.1.1
      rcases guard_ok hf hg R.T h with ⟨hw, h⟩ | ⟨hw, h⟩
      · simp only [hw, if_true]
        refine oper_sound hf EQ HC hk1 R h (K := fun st' => opsA C al st' K) fun st' E' a' w' k1 k2 k3 => ?_
        rw [← hpre]
        exact ops_sound hf EQ HC l al (pre ++ [o]) hl' hk2 k2 k1 fun st'' E'' a'' w'' m1 m2 m3 => hn _ _ _ _ m1 m2 (k3.trans m3)
      · simp only [hw, Bool.false_eq_true, if_false]
        refine ⟨fun _ _ => trivial, ?_⟩
        rw [← hpre, hdst]
        have R' : SR (CRof P eqs) N0 E ⟨putL st.tmps ao.dst (.tuple []), st.heap⟩ (a.put ao.dst undef) w := R.step (.refl _ _ _) R.H (by simp only [VRel]; exact ⟨#[], rfl, by simp [VRels]⟩) ao.dst
        exact ops_sound hf EQ HC l al (pre ++ [o]) hl' hk2 R' h hn

end
end Go.Ai
