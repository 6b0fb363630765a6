/- Every operation but a call: the checker, and that what the interpreter does is what the model does. -/
import Derived.Test.YtdggbdjpcbiofaaGreatAiMap
namespace Go.Ai

def mapT (P : Program) (t : TypeId) : Option (TypeId × TypeId) :=
  match P.underlying t with
  | some (.map k e) => some (k, e)
  | _ => none

theorem mapT_ok {P : Program} {t k e : TypeId} (h : mapT P t = some (k, e)) : P.underlying t = some (.map k e) := by
  unfold mapT at h; split at h <;> simp_all

def arrT (P : Program) (t : TypeId) : Option (Nat × TypeId) :=
  match P.underlying t with
  | some (.array n e) => some (n, e)
  | _ => none

theorem arrT_ok {P : Program} {t e : TypeId} {n : Nat} (h : arrT P t = some (n, e)) : P.underlying t = some (.array n e) := by
  unfold arrT at h; split at h <;> simp_all

def strT (P : Program) (t : TypeId) : Bool :=
  match P.underlying t with
  | some .string => true
  | _ => false

theorem strT_ok {P : Program} {t : TypeId} (h : strT P t = true) : P.underlying t = some .string := by
  unfold strT at h; split at h <;> simp_all

def structT (P : Program) (t : TypeId) : Option (Array Field) :=
  match P.underlying t with
  | some (.struct fs) => some fs
  | _ => none

theorem structT_ok {P : Program} {t : TypeId} {fs : Array Field} (h : structT P t = some fs) : P.underlying t = some (.struct fs) := by
  unfold structT at h; split at h <;> simp_all

def zeroV (P : Program) (t : TypeId) (z : AVal) : Bool :=
  match P.info? t with
  | some i => match i.zero with
    | some v => vEq v z
    | none => false
  | none => false

theorem zeroV_ok {P : Program} {t : TypeId} {z : AVal} (h : zeroV P t z = true) : ∃ v, (∀ W : World, (zeroValue t).run P W = .ok v W) ∧ vEq v z = true := by
  unfold zeroV at h
  split at h
  · rename_i i hi
    split at h
    · rename_i v hv
      exact ⟨v, fun W => by simp [zeroValue, typeInfo, hi, hv], h⟩
    · cases h
  · cases h

theorem zeroOk_ok {P : Program} {t : TypeId} {esz : Nat} {z : AVal} (h : zeroOk P t esz z = true) : ∃ v, (∀ W : World, (zeroValue t).run P W = .ok v W) ∧ vEq v z = true ∧ v.cells.size = esz ∧ sizeT P t = some esz := by
  unfold zeroOk at h
  split at h
  · rename_i i hi
    split at h
    · rename_i v hv
      simp only [Bool.and_eq_true, decide_eq_true_eq] at h
      exact ⟨v, fun W => by simp [zeroValue, typeInfo, hi, hv], h.1.1, h.1.2, by simp [sizeT, hi, h.2]⟩
    · cases h
  · cases h

/-- All fields of the struct have a size. -/
def sizedFields (P : Program) (fs : Array Field) : Bool := fs.toList.all fun f => (sizeT P f.type).isSome

/-- What struct types may be compared cell by cell: given from outside (each by a proof of its own). -/
def chkOp (P : Program) (eqs : List TypeId) (o : Oper) (ao : AOp) : Bool :=
  match o.op, ao with
  | .move x, .mv y => argOk x y
  | .assign x, .mv y => argOk x y
  | .move x, .tokz esz y => decide (0 < esz) && argOk x y
  | .assign x, .tokz esz y => decide (0 < esz) && argOk x y
  | .pick c a b, .pick c' a' b' => argOk c c' && argOk a a' && argOk b b'
  | .alloc t, .alloc esz z tz => zeroOk P t esz z && tzOk tz
  | .box _ x, .box y tz => argOk x y && tzOk tz
  | .build t parts, .build z qs => zeroV P t z && (match structT P t, z with
    | some fs, .agg _ => sizedFields P fs && buildOk P fs parts.toList qs
    | _, _ => false)
  | .buildSlice t len parts, .lit esz ys => litOk P t len esz parts.toList ys
  | .buildSlice t len parts, .litOwn esz ys => litOk P t len esz parts.toList ys
  | .buildSlice t len parts, .litTok esz ys => litOk P t len esz parts.toList ys
  | .load t p, .load agg size q => decide (isAggT P t = some agg) && decide (sizeT P t = some size) && argOk p q
  | .store t p v, .store size q z tz => decide (sizeT P t = some size) && argOk p q && argOk v z && tzOk tz
  | .nilCheck x, .nilc y => argOk x y
  | .binOp op t x y _, .bin op' ek x' y' => decide (op = op') && (ekOk P t ek || (Nat.ble 6 ek && decide (codeT P t = some (ek - 6)) && eqs.contains t)) && argOk x x' && argOk y y'
  | .unOp op _ x, .un op' x' => decide (op = op') && argOk x x'
  | .convert src dst x, .conv k y => decide (intT P dst = some k) && (intT P src).isSome && argOk x y
  | .makeFunc (.func f) first caps, .mkf f' first' caps' => f == f' && argsOk first.toList first' && argsOk caps.toList caps'
  | .makeMap _ none, .mkmap => true
  | .makeSlice t l c, .mkslice esz z l' c' => (match sliceElem P t with
    | some e => zeroOk P e esz z && decide (0 < esz) && (match P.info? e with
      | some i => decide (i.bytes ≤ 1048576)
      | none => false)
    | none => false) && argOk l l' && argOk c c'
  | .slice t x lo hi none, .slice esz y lo' hi' => (match sliceElem P t with
    | some e => decide (sizeT P e = some esz)
    | none => false) && argOk x y && optOk lo lo' && optOk hi hi'
  | .slice t x lo hi none, .sliceStr y lo' hi' => strT P t && argOk x y && optOk lo lo' && optOk hi hi'
  | .fieldAddr s x f, .addo o' y => (match fieldAtT P s f with
    | some fd => decide (fd.offset = o') && (match sizeT P fd.type with
      | some n => decide (0 < n)
      | none => false)
    | none => false) && argOk x y
  | .field s x f, .field agg size o' y => (match fieldAtT P s f with
    | some fd => decide (fd.offset = o') && decide (isAggT P fd.type = some agg) && decide (sizeT P fd.type = some size)
    | none => false) && decide (isAggT P s = some true) && argOk x y
  | .indexAddr t x i, .idx esz y j => (match sliceElem P t with
    | some e => decide (sizeT P e = some esz)
    | none => false) && argOk x y && argOk i j
  | .indexAddr t x i, .idxArr len esz y j => (match arrT P t with
    | some (n, e) => decide (n = len) && decide (sizeT P e = some esz)
    | none => false) && argOk x y && argOk i j
  | .index t x i, .index len esz agg y j => (match arrT P t with
    | some (n, e) => decide (n = len) && decide (sizeT P e = some esz) && decide (isAggT P e = some agg)
    | none => false) && argOk x y && argOk i j
  | .index t x i, .indexStr y j => strT P t && argOk x y && argOk i j
  | .lookup t m k ok, .lookup zero ok' m' k' => (match mapT P t with
    | some (key, e) => (intT P key).isSome && zeroV P e zero
    | none => false) && ok == ok' && argOk m m' && argOk k k'
  | .mapUpdate t m k v, .mapset m' k' v' => (match mapT P t with
    | some (key, _) => (intT P key).isSome
    | none => false) && argOk m m' && argOk k k' && argOk v v'
  | .insert t m k v, .mapset m' k' v' => (match mapT P t with
    | some (key, _) => (intT P key).isSome
    | none => false) && argOk m m' && argOk k k' && argOk v v'
  | .extract x i, .ext i' y => i == i' && argOk x y
  | .call { callee := .builtin .len, args := as, argTypes := ts }, .len lk y => (match as.toList, ts.toList with
    | [x], [t] => lenOk P t lk && argOk x y
    | _, _ => false)
  | .call { callee := .builtin .append, args := as, argTypes := ts }, .append _ esz d s => (match as.toList, ts.toList with
    | [x, y], [a, b] => appTy P a b esz && argOk x d && argOk y s
    | _, _ => false)
  | .call { callee := .builtin .delete, args := as, argTypes := ts }, .mapdel m k => (match as.toList, ts.toList with
    | [x, y], [t, _] => (match mapT P t with
      | some (key, _) => (intT P key).isSome
      | none => false) && argOk x m && argOk y k
    | _, _ => false)
  | .call { callee := .builtin .min, args := as, argTypes := _ }, .minmax false a b => (match as.toList with
    | [x, y] => argOk x a && argOk y b
    | _ => false)
  | .call { callee := .builtin .max, args := as, argTypes := _ }, .minmax true a b => (match as.toList with
    | [x, y] => argOk x a && argOk y b
    | _ => false)
  | .assign x, .set y => argOk x y
  | .call { callee := .builtin .clear, args := as, argTypes := ts }, .clear esz z y => (match as.toList, ts.toList with
    | [x], [t] => (match sliceElem P t with
      | some e => zeroOk P e esz z && argOk x y
      | none => false)
    | _, _ => false)
  | .move x, .thaw y => argOk x y
  | .assign x, .thaw y => argOk x y
  | .move x, .freeze y => argOk x y
  | .assign x, .freeze y => argOk x y
  | .load t p, .thawLoad q => decide (isAggT P t = some false) && decide (sizeT P t = some 1) && argOk p q
  | _, _ => false

end Go.Ai
namespace Go.Ai

theorem fill_lit {esz : Nat} (h0 : 0 < esz) : ∀ (us : List Value) (k : Nat) (A R : List Value), Sized esz us → A.length = k * esz → R.length = us.length * esz →
    Instr.fill (fun i => some (i * esz, esz)) (A ++ R).toArray ((List.range' k us.length).zip us) = some (A ++ flatC us).toArray
  | [], k, A, R, _, _, hr => by
    have : R = [] := List.eq_nil_of_length_eq_zero (by simpa using hr)
    simp [Instr.fill, flatC, this]
  | u :: us, k, A, R, hs, ha, hr => by
    have hu := (hs u (by simp)).1
    have hRl : esz ≤ R.length := by rw [hr]; simp [Nat.succ_mul]
    simp only [List.length_cons, List.range'_succ, List.zip_cons_cons, Instr.fill]
    rw [if_neg (by simp [hu]; omega)]
    have hfold : (u.cells.zipIdx.foldl (fun cs (x : Value × Nat) => cs.setIfInBounds (k * esz + x.2) x.1) (A ++ R).toArray) = (A ++ u.cells.toList ++ R.drop esz).toArray := by
      rw [← Array.foldl_toList]
      apply Array.ext'
      rw [Array.toList_zipIdx, fold_splice (off := k * esz) u.cells.toList 0 _ (by simp [hu]; omega)]
      simp only [spliceV, Nat.add_zero, Array.length_toList, hu]
      rw [List.take_append, List.drop_append, ha]
      simp [List.take_of_length_le (Nat.le_of_eq ha), List.drop_eq_nil_of_le (show A.length ≤ k * esz + esz by omega)]
    rw [hfold]
    have := fill_lit h0 us (k + 1) (A ++ u.cells.toList) (R.drop esz) (fun x hx => hs x (by simp [hx])) (by simp [ha, hu, Nat.succ_mul]) (by simp [hr, Nat.succ_mul])
    rw [List.append_assoc A u.cells.toList (flatC us)] at this
    rw [this]
    simp [flatC]

section
variable {α : Type} {good : α → Prop} {fail : α} (hf : ¬ good fail) {P : Program} {w : World} {CR : Code → ACode → Prop} {E : Env} {heap : List AObj}

theorem litOk_ok {t : TypeId} {len esz : Nat} {ps : List (Nat × Operand)} {ys : List Arg} (h : litOk P t len esz ps ys = true) :
    ∃ e z, P.underlying t = some (.slice e) ∧ sizeT P e = some esz ∧ 0 < esz ∧ ps.map (·.1) = List.range len ∧ argsOk (ps.map (·.2)) ys = true ∧ len * esz ≤ 16777216 ∧ (∀ W : World, (zeroValue e).run P W = .ok z W) ∧ z.cells.size = esz := by
  unfold litOk at h
  split at h
  · rename_i e he
    simp only [Bool.and_eq_true, decide_eq_true_eq] at h
    obtain ⟨⟨⟨⟨⟨h1, h2⟩, h3⟩, h4⟩, h5⟩, h6⟩ := h
    split at h6
    · rename_i i hi
      split at h6
      · rename_i v hv
        exact ⟨e, v, sliceElem_ok he, h1, h2, h3, h4, h5, fun W => by simp [zeroValue, typeInfo, hi, hv], by simpa using h6⟩
      · cases h6
    · cases h6
  · cases h

/-- A slice literal's block. -/
theorem run_lit {t : TypeId} {len esz : Nat} {ps : List (Nat × Operand)} {ys : List Arg} (h : litOk P t len esz ps ys = true) {a : Act} {us : List Value} (hus : us = ps.map fun p => a.eval p.2) (hz : Sized esz us) :
    ∃ e, (Instr.buildSlice t len (ps.map fun p => (p.1, a.eval p.2)).toArray).run P w = .ok (.slice (some ⟨w.heap.size, 0, none⟩) len len) (w.alloc (.cells (flatC us).toArray e)) ∧ us.length = len := by
  obtain ⟨e, z, h1, h2, h3, h4, h5, h6, h7, h8⟩ := litOk_ok h
  have hlen : us.length = len := by
    have := congrArg List.length h4
    simp at this
    rw [hus]; simpa using this
  refine ⟨e, ?_, hlen⟩
  have hzip : (ps.map fun p => (p.1, a.eval p.2)) = (List.range' 0 us.length).zip us := by
    rw [hlen, ← List.range_eq_range', ← h4, hus]
    clear h4 h5 hus hz hlen h
    induction ps with
    | nil => rfl
    | cons p ps ih => simp [ih]
  have hinit : ∀ n, ((Array.range n).map fun x => z.cells[x % z.cells.size]!).toList.length = n := by intro n; simp
  have hfill : Instr.fill (fun i => some (i * esz, esz)) ((Array.range (len * esz)).map fun x => z.cells[x % z.cells.size]!) (ps.map fun p => (p.1, a.eval p.2)) = some (flatC us).toArray := by
    rw [hzip]
    have := fill_lit h3 us 0 [] (((Array.range (len * esz)).map fun x => z.cells[x % z.cells.size]!).toList) hz (by simp) (by rw [hinit, hlen])
    rw [List.nil_append, List.nil_append, Array.toArray_toList] at this
    exact this
  have hle : ¬ (len * esz > 2 ^ 24) := by omega
  by_cases h0 : len * esz = 0
  · have hfill' : Instr.fill (fun i => some (i * esz, esz)) ((Array.range (len * esz)).map fun x => (#[] : Array Value)[x % (#[] : Array Value).size]!) (ps.map fun p => (p.1, a.eval p.2)) = some (flatC us).toArray := by
      rw [← hfill, h0, Array.range_zero', Array.map_empty, Array.map_empty]
    simp only [Instr.buildSlice, Sem.run_bind, run_underlying' h1, Result.andThen_ok, run_sizeOf h2, Sem.run_ite, if_neg hle, if_pos h0, Sem.run_pure, hfill', newRow, run_newObj]
    rfl
  · simp only [Instr.buildSlice, Sem.run_bind, run_underlying' h1, Result.andThen_ok, run_sizeOf h2, Sem.run_ite, if_neg hle, if_neg h0, h7, Sem.run_pure, hfill, newRow, run_newObj]
    rfl

end
end Go.Ai
