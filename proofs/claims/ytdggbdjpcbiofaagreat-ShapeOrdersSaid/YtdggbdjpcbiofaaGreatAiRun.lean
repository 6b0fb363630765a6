/- Closed calls: run by the kernel. -/
import Derived.Test.YtdggbdjpcbiofaaGreatAiSem
namespace Go.Ai

mutual
/-- Are two values the same? (No for what is not compared.) -/
def eqb : AVal → AVal → Bool
  | .bool a, .bool b => a == b
  | .int j a, .int k b => decide (j = k) && decide (a = b)
  | .str a, .str b => decide (a.data = b.data)
  | .nilp, .nilp => true
  | .hp a b c d, .hp a' b' c' d' => (a == a') && (b == b') && (c == c') && (d == d')
  | .fp e xs i o, .fp e' xs' i' o' => (e == e') && eqbs xs xs' && (i == i') && (o == o')
  | .nils, .nils => true
  | .emp, .emp => true
  | .fs e xs none, .fs e' xs' none => (e == e') && eqbs xs xs'
  | .fs e xs (some t), .fs e' xs' (some t') => (e == e') && eqbs xs xs' && (t == t')
  | .hs a b c d, .hs a' b' c' d' => (a == a') && (b == b') && (c == c') && (d == d')
  | .nilm, .nilm => true
  | .map a, .map b => a == b
  | .nilf, .nilf => true
  | .agg xs, .agg ys => eqbs xs ys
  | .tuple xs, .tuple ys => eqbs xs ys
  | _, _ => false
def eqbs : List AVal → List AVal → Bool
  | [], [] => true
  | x :: xs, y :: ys => eqb x y && eqbs xs ys
  | _, _ => false
end

mutual
theorem eqb_eq : ∀ (x y : AVal), eqb x y = true → x = y
  | .undef, y, h => by cases y <;> simp [eqb] at h
  | .bool a, y, h => by cases y <;> simp [eqb] at h; subst h; rfl
  | .int k a, y, h => by cases y <;> simp [eqb] at h; obtain ⟨h1, h2⟩ := h; subst h1; subst h2; rfl
  | .str a, y, h => by
    cases y <;> simp [eqb] at h
    rename_i b
    cases a; cases b
    simp only at h
    subst h; rfl
  | .nilp, y, h => by cases y <;> simp [eqb] at h; rfl
  | .hp a b c d, y, h => by cases y <;> simp [eqb] at h; obtain ⟨⟨⟨h1, h2⟩, h3⟩, h4⟩ := h; subst h1; subst h2; subst h3; subst h4; rfl
  | .fp e xs i o, y, h => by
    cases y <;> simp [eqb] at h
    obtain ⟨⟨⟨h1, h2⟩, h3⟩, h4⟩ := h
    have := eqbs_eq xs _ h2
    subst h1; subst this; subst h3; subst h4; rfl
  | .nils, y, h => by cases y <;> simp [eqb] at h; rfl
  | .emp, y, h => by cases y <;> simp [eqb] at h; rfl
  | .fs e xs none, y, h => by
    cases y with
    | fs e' xs' t' =>
      cases t' with
      | none =>
        simp [eqb] at h
        obtain ⟨h1, h2⟩ := h
        have := eqbs_eq xs _ h2
        subst h1; subst this; rfl
      | some t' => simp [eqb] at h
    | _ => simp [eqb] at h
  | .fs e xs (some t), y, h => by
    cases y with
    | fs e' xs' t' =>
      cases t' with
      | none => simp [eqb] at h
      | some t' =>
        simp [eqb] at h
        obtain ⟨⟨h1, h2⟩, h3⟩ := h
        have := eqbs_eq xs _ h2
        subst h1; subst this; subst h3; rfl
    | _ => simp [eqb] at h
  | .hs a b c d, y, h => by cases y <;> simp [eqb] at h; obtain ⟨⟨⟨h1, h2⟩, h3⟩, h4⟩ := h; subst h1; subst h2; subst h3; subst h4; rfl
  | .gs .., y, h => by cases y <;> simp [eqb] at h
  | .nilm, y, h => by cases y <;> simp [eqb] at h; rfl
  | .map a, y, h => by cases y <;> simp [eqb] at h; subst h; rfl
  | .nilf, y, h => by cases y <;> simp [eqb] at h; rfl
  | .func .., y, h => by cases y <;> simp [eqb] at h
  | .yield _, y, h => by cases y <;> simp [eqb] at h
  | .agg xs, y, h => by
    cases y <;> simp [eqb] at h
    rw [eqbs_eq xs _ h]
  | .tuple xs, y, h => by
    cases y <;> simp [eqb] at h
    rw [eqbs_eq xs _ h]
theorem eqbs_eq : ∀ (xs ys : List AVal), eqbs xs ys = true → xs = ys
  | [], [], _ => rfl
  | [], _ :: _, h => by simp [eqbs] at h
  | _ :: _, [], h => by simp [eqbs] at h
  | x :: xs, y :: ys, h => by
    simp [eqbs] at h
    rw [eqb_eq x y h.1, eqbs_eq xs ys h.2]
end

def sameB (x y : AVal) (k : Bool) : Bool := cond (eqb x y) k false

/-- The functions of a table, by their numbers. -/
def tblOf : List (Nat × AFunc) → FuncId → Option AFunc
  | [], _ => none
  | (k, a) :: l, f => cond (Nat.beq k f) (some a) (tblOf l f)

theorem tblOf_ok {P : Program} {eqs : List TypeId} : ∀ {l : List (Nat × AFunc)}, (∀ e ∈ l, ∃ fn, P.funcs[e.1]? = some fn ∧ chkFunc P eqs fn e.2 = true) → TblOK P eqs (tblOf l)
  | [], _ => fun f af h => by simp [tblOf] at h
  | (k, a) :: l, hl => fun f af h => by
    simp only [tblOf] at h
    cases hk : Nat.beq k f with
    | true =>
      rw [hk] at h
      have e := Nat.eq_of_beq_eq_true hk
      subst e
      cases h
      exact hl _ (List.mem_cons_self ..)
    | false =>
      rw [hk] at h
      exact tblOf_ok (fun e he => hl e (List.mem_cons_of_mem _ he)) f af h

/-- A call that the kernel has run. -/
theorem Hs.closed {P : Program} {eqs : List TypeId} (EQ : ∀ t, eqs.contains t = true → EqPlain P t) {tbl : FuncId → Option AFunc} (ht : TblOK P eqs tbl) {N k : Nat} {g : AVal} {args : List AVal} {heap : List AObj} {K : AVal → List AObj → Bool}
    (h : run false sameB N tbl (fun _ _ _ _ => false) k g args heap K = true) : Hs P eqs g args heap fun v h' => K v h' = true := by
  have hf : ¬ (fun b : Bool => b = true) false := by simp
  have hs : ∀ (x y : AVal) (k : Bool), (fun b : Bool => b = true) (sameB x y k) → x = y ∧ (fun b : Bool => b = true) k := fun x y k h => by
    simp only [sameB] at h
    cases he : eqb x y with
    | true => rw [he] at h; exact ⟨eqb_eq x y he, h⟩
    | false => rw [he] at h; cases h
  have h0 : HOK (fun b : Bool => b = true) (CRof P eqs) P (fun _ _ _ _ => false) := ⟨fun _ _ _ _ _ _ _ _ h => (by cases h), fun _ _ _ _ _ _ _ _ h => (by cases h)⟩
  have H := run_ok (good := fun b : Bool => b = true) hf hs EQ ht h0 k (N := N)
  exact ⟨fun E w fv ras a b c => H.call g args heap K E w fv ras h a b c, fun l e E w fv r a b c => H.range g l heap K E w fv r (e ▸ h) a b c⟩
end Go.Ai
