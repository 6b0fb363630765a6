/- The checker of resolved operations against the model's, and the operations that touch no memory. -/
import Derived.Test.YtdggbdjpcbiofaaGreatAiHeap
import Derived.Laws.StructEq
namespace Go.Ai

/-! ### Constants -/

def sEq : Value → AVal → Bool
  | .bool b, .bool b' => b == b'
  | .int k n, .int k' n' => decide (k = k') && decide (n = n')
  | .string s, .str s' => decide (s = s')
  | .pointer none, .nilp => true
  | .slice none 0 0, .nils => true
  | .map none, .nilm => true
  | .nilFunc, .nilf => true
  | _, _ => false

def sEqs : List Value → List AVal → Bool
  | [], [] => true
  | v :: vs, x :: xs => sEq v x && sEqs vs xs
  | _, _ => false

def vEq : Value → AVal → Bool
  | .agg cs, .agg xs => sEqs cs.toList xs
  | v, x => sEq v x

theorem sEq_rel {v : Value} {x : AVal} (h : sEq v x = true) (E : Env) : VRel x E v ∧ v.oneCell' = true := by
  unfold sEq at h
  split at h <;> first
    | (simp at h; done)
    | (simp at h; obtain ⟨rfl, rfl⟩ := h; simp [VRel, Value.oneCell'])
    | (simp at h; subst h; simp [VRel, Value.oneCell'])
    | simp [VRel, Value.oneCell']

theorem sEqs_rel : ∀ {vs : List Value} {xs : List AVal}, sEqs vs xs = true → ∀ E : Env, VRels xs E vs ∧ ∀ v ∈ vs, v.oneCell' = true
  | [], [], _, E => by simp [VRels]
  | v :: vs, x :: xs, h, E => by
    simp only [sEqs, Bool.and_eq_true] at h
    have h1 := sEq_rel h.1 E
    have h2 := sEqs_rel h.2 E
    refine ⟨?_, ?_⟩
    · simp only [VRels]; exact ⟨v, vs, rfl, h1.1, h2.1⟩
    · intro y hy
      cases hy with
      | head => exact h1.2
      | tail _ hy => exact h2.2 y hy
  | [], _ :: _, h, _ => by simp [sEqs] at h
  | _ :: _, [], h, _ => by simp [sEqs] at h

theorem vEq_rel {v : Value} {x : AVal} (h : vEq v x = true) (E : Env) : VRel x E v ∧ oneC v := by
  unfold vEq at h
  split at h
  · rename_i cs xs
    have := sEqs_rel h E
    exact ⟨by simp only [VRel]; exact ⟨cs, rfl, this⟩, fun v hv => this.2 v (by simpa [Value.cells] using hv)⟩
  · have := sEq_rel h E
    refine ⟨this.1, fun y hy => ?_⟩
    have e : y = v := by
      cases v <;> first | (simpa [Value.cells] using hy) | (simp [Value.oneCell'] at this)
    rw [e]; exact this.2

def argOk : Operand → Arg → Bool
  | .tmp t, .t t' => t == t'
  | .const v, .c x => vEq v x
  | .func f, .c (.func f' [] []) => f == f'
  | _, _ => false

theorem argOk_rel {x : Operand} {y : Arg} (h : argOk x y = true) {E : Env} {st : St} {a : Act} (T : TRel E st.tmps a.tmps) : VRel (st.ev y) E (a.eval x) := by
  unfold argOk at h
  split at h
  · simp at h; subst h; exact T.2 _
  · exact (vEq_rel h E).1
  · simp at h; subst h
    simp only [St.ev, Act.eval, VRel]; exact ⟨#[], #[], rfl, rfl, rfl⟩
  · cases h

def argsOk : List Operand → List Arg → Bool
  | [], [] => true
  | x :: xs, y :: ys => argOk x y && argsOk xs ys
  | _, _ => false

theorem argsOk_rel : ∀ {xs : List Operand} {ys : List Arg}, argsOk xs ys = true → ∀ {E : Env} {st : St} {a : Act}, TRel E st.tmps a.tmps → VRels (ys.map st.ev) E (xs.map a.eval)
  | [], [], _, _, _, _, _ => by simp [VRels]
  | x :: xs, y :: ys, h, E, st, a, T => by
    simp only [argsOk, Bool.and_eq_true] at h
    simp only [List.map_cons, VRels]
    exact ⟨_, _, rfl, argOk_rel h.1 T, argsOk_rel h.2 T⟩
  | [], _ :: _, h, _, _, _, _ => by simp [argsOk] at h
  | _ :: _, [], h, _, _, _, _ => by simp [argsOk] at h

/-! ### Values -/

theorem storable_one {v : AVal} {E : Env} {u : Value} (h : VRel v E u) (hs : storable v = true) : oneC u := by
  cases v <;> simp only [storable, Bool.false_eq_true] at hs <;> simp only [VRel] at h
  case bool => subst h; simp [oneC, Value.cells, Value.oneCell']
  case int => subst h; simp [oneC, Value.cells, Value.oneCell']
  case str => subst h; simp [oneC, Value.cells, Value.oneCell']
  case nilp => subst h; simp [oneC, Value.cells, Value.oneCell']
  case hp => obtain ⟨r, _, rfl⟩ := h; simp [oneC, Value.cells, Value.oneCell']
  case fp => obtain ⟨r, off, rfl, _⟩ := h; simp [oneC, Value.cells, Value.oneCell']
  case nils => subst h; simp [oneC, Value.cells, Value.oneCell']
  case emp => obtain ⟨a, rfl⟩ := h; simp [oneC, Value.cells, Value.oneCell']
  case fs => obtain ⟨a, cap, rfl, _⟩ := h; simp [oneC, Value.cells, Value.oneCell']
  case hs => obtain ⟨r, a, cap, _, rfl, _⟩ := h; simp [oneC, Value.cells, Value.oneCell']
  case gs => obtain ⟨a, cap, rfl, _⟩ := h; simp [oneC, Value.cells, Value.oneCell']
  case nilm => subst h; simp [oneC, Value.cells, Value.oneCell']
  case map => obtain ⟨r, _, rfl⟩ := h; simp [oneC, Value.cells, Value.oneCell']
  case nilf => subst h; simp [oneC, Value.cells, Value.oneCell']
  case func => obtain ⟨vs, ws, rfl, _⟩ := h; simp [oneC, Value.cells, Value.oneCell']
  case yield => obtain ⟨r, _, rfl⟩ := h; simp [oneC, Value.cells, Value.oneCell']
  case agg => obtain ⟨vs, rfl, _, h3⟩ := h; simpa [oneC, Value.cells] using h3

theorem VRels.length : ∀ {xs : List AVal} {E : Env} {vs : List Value}, VRels xs E vs → vs.length = xs.length
  | [], _, _, h => by simp only [VRels] at h; subst h; rfl
  | _ :: xs, _, _, h => by
    simp only [VRels] at h
    obtain ⟨v, vs', rfl, _, h3⟩ := h
    simp [VRels.length h3]

theorem VRels.get : ∀ {xs : List AVal} {E : Env} {vs : List Value}, VRels xs E vs → ∀ {i : Nat} {x : AVal}, xs[i]? = some x → ∃ v, vs[i]? = some v ∧ VRel x E v
  | [], _, _, _, _, _, hi => by simp at hi
  | y :: xs, _, _, h, i, x, hi => by
    simp only [VRels] at h
    obtain ⟨v, vs', rfl, h2, h3⟩ := h
    cases i with
    | zero => simp at hi; subst hi; exact ⟨v, rfl, h2⟩
    | succ i => simpa using VRels.get h3 (by simpa using hi)

theorem VRels.append : ∀ {xs ys : List AVal} {E : Env} {vs ws : List Value}, VRels xs E vs → VRels ys E ws → VRels (xs ++ ys) E (vs ++ ws)
  | [], _, _, _, _, h, k => by simp only [VRels] at h; subst h; exact k
  | x :: xs, _, _, _, _, h, k => by
    simp only [VRels] at h
    obtain ⟨v, vs', rfl, h2, h3⟩ := h
    simp only [List.cons_append, VRels]
    exact ⟨v, _, rfl, h2, VRels.append h3 k⟩

theorem VRels.drop : ∀ {xs : List AVal} {E : Env} {vs : List Value} (n : Nat), VRels xs E vs → VRels (xs.drop n) E (vs.drop n)
  | [], _, _, n, h => by simp only [VRels] at h; subst h; simp [VRels]
  | x :: xs, _, _, 0, h => by simpa using h
  | x :: xs, _, _, n + 1, h => by
    simp only [VRels] at h
    obtain ⟨v, vs', rfl, h2, h3⟩ := h
    simpa using VRels.drop n h3

theorem VRels.take : ∀ {xs : List AVal} {E : Env} {vs : List Value} (n : Nat), VRels xs E vs → VRels (xs.take n) E (vs.take n)
  | [], _, _, n, h => by simp only [VRels] at h; subst h; simp [VRels]
  | x :: xs, _, _, 0, h => by simp [VRels]
  | x :: xs, _, _, n + 1, h => by
    simp only [VRels] at h
    obtain ⟨v, vs', rfl, h2, h3⟩ := h
    simp only [List.take_succ_cons, VRels]
    exact ⟨v, _, rfl, h2, VRels.take n h3⟩

/-- The cells of a value are its cells' values. -/
theorem VRel.cells {x : AVal} {E : Env} {u : Value} (h : VRel x E u) (hs : storable x = true) : VRels x.cells E u.cells.toList := by
  cases x <;> simp only [storable, Bool.false_eq_true] at hs
  case agg cs =>
    simp only [VRel] at h
    obtain ⟨vs, rfl, h2, _⟩ := h
    simpa [AVal.cells, Value.cells] using h2
  all_goals
    have h0 := h
    have ho := storable_one h (by rfl)
    have e : u.cells = #[u] := by
      simp only [VRel] at h
      first
        | (subst h; rfl)
        | (obtain ⟨r, _, rfl⟩ := h; rfl)
        | (obtain ⟨r, off, rfl, _⟩ := h; rfl)
        | (obtain ⟨a, rfl⟩ := h; rfl)
        | (obtain ⟨a, cap, rfl, _⟩ := h; rfl)
        | (obtain ⟨r, a, cap, _, rfl, _⟩ := h; rfl)
        | (obtain ⟨vs, ws, rfl, _⟩ := h; rfl)
    rw [e]
    simp only [AVal.cells, VRels]
    exact ⟨u, [], rfl, h0, rfl⟩

theorem oneC.of_get {u : Value} (h : oneC u) {i : Nat} {v : Value} (hi : u.cells[i]? = some v) : v.oneCell' = true :=
  h v (by rw [Array.mem_toList_iff]; exact Array.mem_of_getElem? hi)

theorem cells_one {v : Value} (h : v.oneCell' = true) : v.cells = #[v] := by cases v <;> simp [Value.oneCell', Value.cells] at h ⊢
theorem oneC_one {v : Value} (h : v.oneCell' = true) : oneC v := by rw [oneC, cells_one h]; simpa using h


/-! ### Types -/

def isAggT (P : Program) (t : TypeId) : Option Bool :=
  match P.underlying t with
  | some (.struct _) => some true
  | some (.array _ _) => some true
  | some _ => some false
  | none => none

def sizeT (P : Program) (t : TypeId) : Option Nat := (P.info? t).map (·.size)

def bytesT (P : Program) (t : TypeId) : Option Nat := (P.info? t).map (·.bytes)

section
variable {P : Program} {w : World}

theorem run_isAgg {t : TypeId} {b : Bool} (h : isAggT P t = some b) : (isAgg t).run P w = .ok b w := by
  unfold isAggT at h
  split at h <;> rename_i hu <;> first
    | (simp at h; subst h; simp [isAgg, underlying, hu])
    | (simp at h)

theorem run_sizeOf {t : TypeId} {n : Nat} (h : sizeT P t = some n) : (sizeOf t).run P w = .ok n w := by
  unfold sizeT at h
  cases hi : P.info? t with
  | none => simp [hi] at h
  | some i =>
    simp [hi] at h; subst h
    simp [sizeOf, typeInfo, hi]

theorem run_underlying' {t : TypeId} {d : TypeDesc} (h : P.underlying t = some d) : (underlying t).run P w = .ok d w := by
  simp [underlying, h]
end

/-! ### Answers -/

section
variable {α : Type} {good : α → Prop} {fail : α} (hf : ¬ good fail)
include hf

theorem need_good {b : Bool} {x : α} (h : good (cond b x fail)) : b = true ∧ good x := by
  cases b
  · exact absurd h hf
  · exact ⟨rfl, h⟩

theorem asI_good {v : AVal} {K : IntKind → Int → α} (h : good (asI fail v K)) : ∃ k n, v = .int k n ∧ good (K k n) := by
  cases v <;> simp only [asI] at h <;> first | exact absurd h hf | exact ⟨_, _, rfl, h⟩

theorem asB_good {v : AVal} {K : Bool → α} (h : good (asB fail v K)) : ∃ b, v = .bool b ∧ good (K b) := by
  cases v <;> simp only [asB] at h <;> first | exact absurd h hf | exact ⟨_, rfl, h⟩

theorem aggA_good {x : AVal} {K : List AVal → α} (h : good (aggA fail x K)) : ∃ cs, x = .agg cs ∧ good (K cs) := by
  unfold aggA at h
  split at h
  · exact ⟨_, rfl, h⟩
  · exact absurd h hf

theorem partOf_good {agg : Bool} {size o : Nat} {x : AVal} {K : AVal → α} (h : good (partOf fail agg size x o K)) {E : Env} {u : Value} (hx : VRel x E u) (ho : oneC u) :
    ∃ v, good (K v) ∧ (agg = true → o + size ≤ u.cells.size ∧ VRel v E (.agg (u.cells.extract o (o + size)))) ∧ (agg = false → ∃ c, u.cells[o]? = some c ∧ VRel v E c) := by
  unfold partOf at h
  cases agg with
  | true =>
    cases x <;> first | (exact absurd h hf) | skip
    rename_i cs
    obtain ⟨h1, h2⟩ := need_good hf h
    simp only [VRel] at hx
    obtain ⟨vs, rfl, h3, h4⟩ := hx
    have hl := h3.length
    have hle : o + size ≤ cs.length := by simpa using h1
    refine ⟨_, h2, fun _ => ⟨by simp [Value.cells] at hl ⊢; omega, ?_⟩, (fun e => by cases e)⟩
    simp only [VRel]
    refine ⟨_, rfl, ?_, ?_⟩
    · have := (h3.drop o).take size
      rw [show ((Value.agg vs).cells.extract o (o + size)).toList = (vs.toList.drop o).take size by
        simp [Value.cells, Array.toList_extract, List.extract_eq_take_drop]]
      exact this
    · intro v hv
      apply h4
      rw [show ((Value.agg vs).cells.extract o (o + size)).toList = (vs.toList.drop o).take size by
        simp [Value.cells, Array.toList_extract, List.extract_eq_take_drop]] at hv
      exact List.mem_of_mem_drop (List.mem_of_mem_take hv)
  | false =>
    cases x
    case agg cs =>
      simp only at h
      cases hc : cs[o]? with
      | none => rw [hc] at h; exact absurd h hf
      | some v =>
        rw [hc] at h
        simp only [VRel] at hx
        obtain ⟨vs, rfl, h3, h4⟩ := hx
        obtain ⟨c, hc1, hc2⟩ := h3.get hc
        exact ⟨v, h, (fun e => by cases e), fun _ => ⟨c, by simpa [Value.cells] using hc1, hc2⟩⟩
    case undef => exact absurd h hf
    case tuple => exact absurd h hf
    all_goals
      simp only at h
      obtain ⟨h1, h2⟩ := need_good hf h
      have e : o = 0 := by simpa using h1
      subst e
      refine ⟨_, h2, (fun e => by cases e), fun _ => ?_⟩
      have hc := hx.cells rfl
      simp only [AVal.cells, VRels] at hc
      obtain ⟨v, vs', e1, e2, e3⟩ := hc
      refine ⟨v, ?_, e2⟩
      rw [← Array.getElem?_toList, e1]; rfl
end

/-! ### Binary operations -/

/-- Kinds of equality. -/
def ekOk (P : Program) (t : TypeId) (ek : Nat) : Bool :=
  match ek, P.underlying t with
  | 0, _ => true
  | 1, some .bool => true
  | 2, some (.pointer _) => true
  | 3, some (.slice _) => true
  | 4, some (.map _ _) => true
  | 5, some (.func _ _ _) => true
  | _, _ => false

/-- Structs of plain fields compare cell by cell. -/
def codeF (P : Program) : List Field → Option Nat
  | [] => some 0
  | f :: fs => match P.underlying f.type, codeF P fs with
    | some (.int _), some n => some (3 * n + 1)
    | some .bool, some n => some (3 * n + 2)
    | _, _ => none

/-- The kinds of a struct's fields. -/
def codeT (P : Program) (t : TypeId) : Option Nat :=
  match P.underlying t with
  | some (.struct fs) => codeF P fs.toList
  | _ => none

def EqPlain (P : Program) (t : TypeId) : Prop :=
  ∀ (xs ys : List AVal) (b : Bool), codeT P t = some (codeOf xs) → plainEqs xs ys = some b → ∀ (E : Env) (u v : Value) (x y : Operand) (op : BinOp) (w : World), VRel (.agg xs) E u → VRel (.agg ys) E v →
    (eqGuard op t x y u v).run P w = .ok () w ∧ (Op.equal t u v).run P w = .ok b w

theorem ek1 {P : Program} {t : TypeId} (h : ekOk P t 1 = true) : P.underlying t = some .bool := by
  unfold ekOk at h; split at h <;> simp_all
theorem ek2 {P : Program} {t : TypeId} (h : ekOk P t 2 = true) : ∃ e, P.underlying t = some (.pointer e) := by
  unfold ekOk at h; split at h <;> simp_all
theorem ek3 {P : Program} {t : TypeId} (h : ekOk P t 3 = true) : ∃ e, P.underlying t = some (.slice e) := by
  unfold ekOk at h; split at h <;> simp_all
theorem ek4 {P : Program} {t : TypeId} (h : ekOk P t 4 = true) : ∃ k e, P.underlying t = some (.map k e) := by
  unfold ekOk at h; split at h <;> simp_all
theorem ek5 {P : Program} {t : TypeId} (h : ekOk P t 5 = true) : ∃ a b c, P.underlying t = some (.func a b c) := by
  unfold ekOk at h; split at h <;> simp_all

section
variable {P : Program} {w : World} {t : TypeId}
theorem eqIn_bool (d : Nat) (hu : P.underlying t = some .bool) (a b : Bool) : (Op.equalIn (d + 1) t (.bool a) (.bool b)).run P w = .ok (a == b) w := by
  simp [Op.equalIn, underlying, hu]
theorem eqIn_ptrL (d : Nat) {e : TypeId} (hu : P.underlying t = some (.pointer e)) (b : Option Addr) : (Op.equalIn (d + 1) t (.pointer none) (.pointer b)).run P w = .ok b.isNone w := by
  simp [Op.equalIn, underlying, hu]
theorem eqIn_ptrR (d : Nat) {e : TypeId} (hu : P.underlying t = some (.pointer e)) (a : Addr) : (Op.equalIn (d + 1) t (.pointer (some a)) (.pointer none)).run P w = .ok false w := by
  simp [Op.equalIn, underlying, hu]
theorem eqIn_slL (d : Nat) {e : TypeId} (hu : P.underlying t = some (.slice e)) (b : Option Addr) (m n k l : Nat) : (Op.equalIn (d + 1) t (.slice none k l) (.slice b m n)).run P w = .ok b.isNone w := by
  simp [Op.equalIn, underlying, hu]
theorem eqIn_slR (d : Nat) {e : TypeId} (hu : P.underlying t = some (.slice e)) (a : Addr) (m n k l : Nat) : (Op.equalIn (d + 1) t (.slice (some a) k l) (.slice none m n)).run P w = .ok false w := by
  simp [Op.equalIn, underlying, hu]
theorem eqIn_mapL (d : Nat) {k e : TypeId} (hu : P.underlying t = some (.map k e)) (b : Option Nat) : (Op.equalIn (d + 1) t (.map none) (.map b)).run P w = .ok b.isNone w := by
  simp [Op.equalIn, underlying, hu]
theorem eqIn_mapR (d : Nat) {k e : TypeId} (hu : P.underlying t = some (.map k e)) (a : Nat) : (Op.equalIn (d + 1) t (.map (some a)) (.map none)).run P w = .ok false w := by
  simp [Op.equalIn, underlying, hu]
theorem eqIn_fnL (d : Nat) {a b : Array TypeId} {c : Bool} (hu : P.underlying t = some (.func a b c)) : (Op.equalIn (d + 1) t .nilFunc .nilFunc).run P w = .ok true w := by
  simp [Op.equalIn, underlying, hu]
theorem eqIn_fnR (d : Nat) {a b : Array TypeId} {c : Bool} (hu : P.underlying t = some (.func a b c)) (f : Fn) (x y : Array Value) : (Op.equalIn (d + 1) t (.func f x y) .nilFunc).run P w = .ok false w := by
  simp [Op.equalIn, underlying, hu]
end

section
variable {α : Type} {good : α → Prop} {fail : α} (hf : ¬ good fail) {P : Program} {w : World}
include hf

theorem eql_good {ek : Nat} {x y : AVal} {K : Bool → α} (h : good (eqlA fail ek x y K)) {t : TypeId} (hk : ekOk P t ek = true ∨ (∃ n, ek = n + 6 ∧ codeT P t = some n ∧ EqPlain P t)) {E : Env} {u v : Value} (hx : VRel x E u) (hy : VRel y E v) (xo yo : Operand) (op : BinOp) :
    ∃ b, good (K b) ∧ (eqGuard op t xo yo u v).run P w = .ok () w ∧ (Op.equal t u v).run P w = .ok b w ∧ binOp .eql t u v = (do pure (.bool (← Op.equal t u v))) ∧ binOp .neq t u v = (do pure (.bool (!(← Op.equal t u v)))) := by
  have g (u v : Value) (hu : eqGuard op t xo yo u v = pure ()) : (eqGuard op t xo yo u v).run P w = .ok () w := by rw [hu]; rfl
  unfold eqlA at h
  split at h
  case h_16 xs ys =>
    obtain ⟨hl, h'⟩ := need_good hf h
    clear h
    have h := h'
    have hl := eq_of_beq hl
    split at h
    · rename_i b hb
      rcases hk with hk | ⟨n, hn, hsz, hk⟩
      · simp [ekOk] at hk
      · have := hk xs ys b (by rw [hsz, hl]; congr 1; omega) hb E u v xo yo op w hx hy
        simp only [VRel] at hx hy; obtain ⟨vs, rfl, _⟩ := hx; obtain ⟨ws, rfl, _⟩ := hy
        exact ⟨b, h, this.1, this.2, rfl, rfl⟩
    · exact absurd h hf
  case h_17 => exact absurd h hf
  case h_1 a b =>
    have hu := ek1 (hk.resolve_right (by simp))
    simp only [VRel] at hx hy; subst hx; subst hy
    exact ⟨_, h, g _ _ (eqGuard_at_bool _ _ _ _ _ _), eqIn_bool 9999 hu _ _, rfl, rfl⟩
  case h_2 =>
    obtain ⟨e, hu⟩ := ek2 (hk.resolve_right (by simp))
    simp only [VRel] at hx hy; subst hx; subst hy
    exact ⟨_, h, g _ _ (eqGuard_at_pointer _ _ _ _ _ _), eqIn_ptrL 9999 hu _, rfl, rfl⟩
  case h_3 =>
    obtain ⟨e, hu⟩ := ek2 (hk.resolve_right (by simp))
    simp only [VRel] at hx hy; subst hx; obtain ⟨r, _, rfl⟩ := hy
    exact ⟨_, h, g _ _ (eqGuard_at_pointer _ _ _ _ _ _), eqIn_ptrL 9999 hu _, rfl, rfl⟩
  case h_4 =>
    obtain ⟨e, hu⟩ := ek2 (hk.resolve_right (by simp))
    simp only [VRel] at hx hy; subst hx; obtain ⟨r, off, rfl, _⟩ := hy
    exact ⟨_, h, g _ _ (eqGuard_at_pointer _ _ _ _ _ _), eqIn_ptrL 9999 hu _, rfl, rfl⟩
  case h_5 =>
    obtain ⟨e, hu⟩ := ek2 (hk.resolve_right (by simp))
    simp only [VRel] at hx hy; obtain ⟨r, _, rfl⟩ := hx; subst hy
    exact ⟨_, h, g _ _ (eqGuard_at_pointer _ _ _ _ _ _), eqIn_ptrR 9999 hu _, rfl, rfl⟩
  case h_6 =>
    obtain ⟨e, hu⟩ := ek2 (hk.resolve_right (by simp))
    simp only [VRel] at hx hy; obtain ⟨r, off, rfl, _⟩ := hx; subst hy
    exact ⟨_, h, g _ _ (eqGuard_at_pointer _ _ _ _ _ _), eqIn_ptrR 9999 hu _, rfl, rfl⟩
  case h_7 =>
    obtain ⟨e, hu⟩ := ek3 (hk.resolve_right (by simp))
    simp only [VRel] at hx hy; subst hx; subst hy
    exact ⟨_, h, g _ _ (eqGuard_at_slice _ _ _ _ _ _ _ _), eqIn_slL 9999 hu _ _ _ _ _, rfl, rfl⟩
  case h_8 =>
    obtain ⟨e, hu⟩ := ek3 (hk.resolve_right (by simp))
    simp only [VRel] at hx hy; obtain ⟨a, rfl⟩ := hx; subst hy
    exact ⟨_, h, g _ _ (eqGuard_at_slice _ _ _ _ _ _ _ _), eqIn_slR 9999 hu _ _ _ _ _, rfl, rfl⟩
  case h_9 =>
    obtain ⟨e, hu⟩ := ek3 (hk.resolve_right (by simp))
    simp only [VRel] at hx hy; obtain ⟨r, a, cap, _, rfl, _⟩ := hx; subst hy
    exact ⟨_, h, g _ _ (eqGuard_at_slice _ _ _ _ _ _ _ _), eqIn_slR 9999 hu _ _ _ _ _, rfl, rfl⟩
  case h_10 =>
    obtain ⟨e, hu⟩ := ek3 (hk.resolve_right (by simp))
    simp only [VRel] at hx hy; obtain ⟨a, cap, rfl, _, h2, _⟩ := hx; subst hy
    obtain ⟨r, off, rfl, _⟩ := h2 (by simp)
    exact ⟨_, h, g _ _ (eqGuard_at_slice _ _ _ _ _ _ _ _), eqIn_slR 9999 hu _ _ _ _ _, rfl, rfl⟩
  case h_11 =>
    obtain ⟨k, e, hu⟩ := ek4 (hk.resolve_right (by simp))
    simp only [VRel] at hx hy; subst hx; subst hy
    exact ⟨_, h, g _ _ (eqGuard_at_map _ _ _ _ _ _), eqIn_mapL 9999 hu _, rfl, rfl⟩
  case h_12 =>
    obtain ⟨k, e, hu⟩ := ek4 (hk.resolve_right (by simp))
    simp only [VRel] at hx hy; obtain ⟨r, _, rfl⟩ := hx; subst hy
    exact ⟨_, h, g _ _ (eqGuard_at_map _ _ _ _ _ _), eqIn_mapR 9999 hu _, rfl, rfl⟩
  case h_13 =>
    obtain ⟨a, b, c, hu⟩ := ek5 (hk.resolve_right (by simp))
    simp only [VRel] at hx hy; subst hx; subst hy
    exact ⟨_, h, g _ _ (eqGuard_at_nilFunc _ _ _ _ _), eqIn_fnL 9999 hu, rfl, rfl⟩
  case h_14 =>
    obtain ⟨a, b, c, hu⟩ := ek5 (hk.resolve_right (by simp))
    simp only [VRel] at hx hy; obtain ⟨vs, ws, rfl, _⟩ := hx; subst hy
    exact ⟨_, h, g _ _ (eqGuard_at_func _ _ _ _ _ _ _ _), eqIn_fnR 9999 hu _ _ _, rfl, rfl⟩
  case h_15 =>
    obtain ⟨a, b, c, hu⟩ := ek5 (hk.resolve_right (by simp))
    simp only [VRel] at hx hy; obtain ⟨r, _, rfl⟩ := hx; subst hy
    exact ⟨_, h, g _ _ (eqGuard_at_func _ _ _ _ _ _ _ _), eqIn_fnR 9999 hu _ _ _, rfl, rfl⟩
end

end Go.Ai
