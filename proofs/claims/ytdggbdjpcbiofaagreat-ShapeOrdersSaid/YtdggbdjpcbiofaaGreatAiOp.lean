/- One operation of the interpreter against one of the model's: the checker, and that it is sound. -/
import Derived.Test.YtdggbdjpcbiofaaGreatAiApp
namespace Go.Ai

/-! ### The checker -/

def zeroOk (P : Program) (t : TypeId) (esz : Nat) (z : AVal) : Bool :=
  match P.info? t with
  | some i => match i.zero with
    | some v => vEq v z && decide (v.cells.size = esz) && decide (i.size = esz)
    | none => false
  | none => false

def tzOk (tz : List (Nat × Nat)) : Bool := tz.all fun p => decide (0 < p.2)

def sliceElem (P : Program) (t : TypeId) : Option TypeId :=
  match P.underlying t with
  | some (.slice e) => some e
  | _ => none

def fieldAtT (P : Program) (s : TypeId) (f : Nat) : Option Field :=
  match P.underlying s with
  | some (.struct fs) => fs[f]?
  | _ => none

def intT (P : Program) (t : TypeId) : Option IntKind :=
  match P.underlying t with
  | some (.int k) => some k
  | _ => none

def litOk (P : Program) (t : TypeId) (len esz : Nat) (ps : List (Nat × Operand)) (ys : List Arg) : Bool :=
  match sliceElem P t with
  | some e => decide (sizeT P e = some esz) && decide (0 < esz) && decide (ps.map (·.1) = List.range len) && argsOk (ps.map (·.2)) ys && decide (len * esz ≤ 16777216) && (match P.info? e with
    | some i => match i.zero with
      | some v => decide (v.cells.size = esz)
      | none => false
    | none => false)
  | none => false

def buildOk (P : Program) (fs : Array Field) : List (Nat × Operand) → List ((Nat × Nat) × Arg) → Bool
  | [], [] => true
  | p :: ps, q :: qs => (match fs[p.1]? with
    | some f => decide (f.offset = q.1.1) && decide (sizeT P f.type = some q.1.2)
    | none => false) && argOk p.2 q.2 && buildOk P fs ps qs
  | _, _ => false

def optOk : Option Operand → Option Arg → Bool
  | none, none => true
  | some x, some y => argOk x y
  | _, _ => false

def appTy (P : Program) (sT xT : TypeId) (esz : Nat) : Bool :=
  match sliceElem P sT with
  | some e => decide (0 < esz) && (sliceElem P xT).isSome && (match P.info? e with
    | some i => decide (i.size = esz) && decide (i.bytes ≤ 1048576) && (match i.zero with
      | some z => decide (z.cells.size = esz)
      | none => false)
    | none => false)
  | none => false

def lenOk (P : Program) (t : TypeId) (lk : Nat) : Bool :=
  match lk, P.underlying t with
  | 0, some (.slice _) => true
  | 1, some .string => true
  | 2, some (.map _ _) => true
  | _, _ => false

theorem appTy_ok {P : Program} {sT xT : TypeId} {esz : Nat} (h : appTy P sT xT esz = true) : AppTy P sT xT esz := by
  unfold appTy at h
  split at h
  · rename_i e he
    simp only [Bool.and_eq_true, decide_eq_true_eq] at h
    obtain ⟨⟨h1, h2⟩, h3⟩ := h
    split at h3
    · rename_i i hi
      simp only [Bool.and_eq_true, decide_eq_true_eq] at h3
      obtain ⟨⟨h4, h5⟩, h6⟩ := h3
      split at h6
      · rename_i z hz
        have he' : P.underlying sT = some (.slice e) := by
          unfold sliceElem at he; split at he <;> simp_all
        have hx : ∃ e, P.underlying xT = some (.slice e) := by
          unfold sliceElem at h2; split at h2 <;> simp_all
        exact ⟨⟨e, i, z, he', hi, h4, h5, hz, by simpa using h6⟩, hx, h1⟩
      · cases h6
    · cases h3
  · cases h

theorem sliceElem_ok {P : Program} {t e : TypeId} (h : sliceElem P t = some e) : P.underlying t = some (.slice e) := by
  unfold sliceElem at h; split at h <;> simp_all
theorem intT_ok {P : Program} {t : TypeId} {k : IntKind} (h : intT P t = some k) : P.underlying t = some (.int k) := by
  unfold intT at h; split at h <;> simp_all
theorem fieldAtT_ok {P : Program} {t : TypeId} {i : Nat} {f : Field} (h : fieldAtT P t i = some f) : ∃ fs, P.underlying t = some (.struct fs) ∧ fs[i]? = some f := by
  unfold fieldAtT at h; split at h <;> simp_all

/-! ### Answers of an operation -/

def OpOK {α : Type} (good : α → Prop) (CR : Code → ACode → Prop) (K : AVal → List AObj → α) (E : Env) (heap : List AObj) (w : World) (r : Result Next) : Prop :=
  ∃ v u h' E' w', good (K v h') ∧ (r = .ok (.value u) w' ∨ (r = .ok .skip w' ∧ u = undef)) ∧ VRel v E' u ∧ HRel CR E' h' w' ∧ Step E heap w E' h' w'

theorem run_v {P : Program} {w w' : World} {s : Sem Value} {u : Value} (h : s.run P w = .ok u w') : (do pure (Next.value (← s)) : Sem Next).run P w = .ok (.value u) w' := by
  simp [h]

theorem run_u {P : Program} {w w' : World} {s : Sem Unit} (h : s.run P w = .ok () w') : (do s; pure Next.skip : Sem Next).run P w = .ok .skip w' := by
  simp [h]

section
variable {α : Type} {good : α → Prop} {CR : Code → ACode → Prop} {K : AVal → List AObj → α} {E : Env} {heap : List AObj} {w : World} {P : Program}

theorem OpOK.quiet {r : Result Next} {v : AVal} {u : Value} (H : HRel CR E heap w) (hg : good (K v heap)) (hv : VRel v E u) (hr : r = .ok (.value u) w) : OpOK good CR K E heap w r :=
  ⟨v, u, heap, E, w, hg, .inl hr, hv, H, .refl _ _ _⟩
end

section
variable {α : Type} {good : α → Prop} {fail : α} (hf : ¬ good fail) {P : Program} {w : World} {CR : Code → ACode → Prop} {E : Env} {heap : List AObj}
include hf

theorem un_good {op : UnOp} {x : AVal} {K : AVal → α} (h : good (unA fail op x K)) {u : Value} (hx : VRel x E u) : ∃ z r, good (K z) ∧ (Op.unary op u).run P w = .ok r w ∧ VRel z E r := by
  unfold unA at h
  split at h
  · simp only [VRel] at hx; subst hx
    exact mkR h (by simp only [VRel]; rfl) (by simp [Op.unary])
  · simp only [VRel] at hx; subst hx
    exact mkR h (by simp only [VRel]; rfl) (by simp [Op.unary, Op.intArith])
  · exact absurd h hf

theorem addOff_good {p : AVal} {o' : Nat} {K : AVal → α} (h : good (addOff fail p o' K)) {u : Value} (hp : VRel p E u) :
    ∃ z a, good (K z) ∧ u = .pointer (some a) ∧ VRel z E (.pointer (some (a.add o'))) := by
  cases p <;> simp only [addOff] at h <;> first | (exact absurd h hf) | skip
  · simp only [VRel] at hp
    obtain ⟨r, h1, rfl⟩ := hp
    refine ⟨_, _, h, rfl, ?_⟩
    simp only [VRel, addr_add]
    exact ⟨r, h1, by rw [Nat.add_assoc]⟩
  · simp only [VRel] at hp
    obtain ⟨r, off, rfl, h1⟩ := hp
    refine ⟨_, _, h, rfl, ?_⟩
    simp only [VRel, addr_add]
    exact ⟨r, off, by rw [Nat.add_assoc], h1⟩

theorem index_good {esz : Nat} {x ix : AVal} {K : AVal → α} (h : good (indexA fail esz x ix K)) {u ui : Value} (hx : VRel x E u) (hi : VRel ix E ui)
    {t e : TypeId} (ht : P.underlying t = some (.slice e)) (hs : sizeT P e = some esz) : ∃ z r, good (K z) ∧ (Instr.indexAt t u ui).run P w = .ok r w ∧ VRel z E r := by
  unfold indexA at h
  obtain ⟨k, n, rfl, h⟩ := asI_good hf h
  simp only [VRel] at hi; subst hi
  split at h
  · obtain ⟨h1, h2⟩ := need_good hf h
    simp only [inB, Bool.and_eq_true, beq_iff_eq, decide_eq_true_eq] at h1
    obtain ⟨rfl, h3, h4⟩ := h1
    simp only [VRel] at hx
    obtain ⟨a, cap, rfl, _, k1, _⟩ := hx
    obtain ⟨r, off, rfl, k2⟩ := k1 (fun e => by subst e; simp at h4; omega)
    refine mkR h2 (by simp only [VRel]; exact ⟨r, off, rfl, k2⟩) ?_
    simp [Instr.indexAt, asIntOf, run_underlying' ht, h3, h4, run_sizeOf hs, addr_add]
  · obtain ⟨h1, h2⟩ := need_good hf h
    simp only [inB, Bool.and_eq_true, beq_iff_eq, decide_eq_true_eq] at h1
    obtain ⟨rfl, h3, h4⟩ := h1
    simp only [VRel] at hx
    obtain ⟨r, a, cap, k1, rfl, _, k2⟩ := hx
    have ha := k2 (by omega)
    subst ha
    refine mkR h2 (by simp only [VRel]; exact ⟨r, k1, rfl⟩) ?_
    simp [Instr.indexAt, asIntOf, run_underlying' ht, h3, h4, run_sizeOf hs, addr_add, Nat.add_mul]
  · exact absurd h hf

theorem indexArr_good {len sz : Nat} {x ix : AVal} {K : AVal → α} (h : good (indexArrA fail len sz x ix K)) {u ui : Value} (hx : VRel x E u) (hi : VRel ix E ui)
    {t e : TypeId} (ht : P.underlying t = some (.array len e)) (hs : sizeT P e = some sz) : ∃ z r, good (K z) ∧ (Instr.indexAt t u ui).run P w = .ok r w ∧ VRel z E r := by
  unfold indexArrA at h
  obtain ⟨k, n, rfl, h⟩ := asI_good hf h
  simp only [VRel] at hi; subst hi
  split at h
  · obtain ⟨h1, h2⟩ := need_good hf h
    simp only [inB, Bool.and_eq_true, decide_eq_true_eq] at h1
    obtain ⟨h3, h4⟩ := h1
    simp only [VRel] at hx
    obtain ⟨r, k1, rfl⟩ := hx
    refine mkR h2 (by simp only [VRel]; exact ⟨r, k1, rfl⟩) ?_
    simp [Instr.indexAt, asIntOf, run_underlying' ht, h3, h4, run_sizeOf hs, addr_add, Instr.sureAddr, Nat.add_assoc]
  · obtain ⟨h1, h2⟩ := need_good hf h
    simp only [inB, Bool.and_eq_true, decide_eq_true_eq] at h1
    obtain ⟨h3, h4⟩ := h1
    simp only [VRel] at hx
    obtain ⟨r, off, rfl, k1⟩ := hx
    refine mkR h2 (by simp only [VRel]; exact ⟨r, off, rfl, k1⟩) ?_
    simp [Instr.indexAt, asIntOf, run_underlying' ht, h3, h4, run_sizeOf hs, addr_add, Instr.sureAddr, Nat.add_assoc]
  · exact absurd h hf

theorem bound_good {v : Option AVal} {d : Nat} {k : Nat → α} (h : good (boundA fail v d k)) : (v = none ∧ good (k d)) ∨ ∃ ik n, v = some (.int ik n) ∧ 0 ≤ n ∧ good (k n.toNat) := by
  unfold boundA at h
  split at h
  · exact .inl ⟨rfl, h⟩
  · obtain ⟨h1, h2⟩ := need_good hf h
    exact .inr ⟨_, _, rfl, by simpa using h1, h2⟩
  · exact absurd h hf

/-- The bounds of a slice expression, as the model reads them. -/
theorem run_bounds {isSlice : Bool} {len cap : Nat} {lo hi : Option AVal} {ulo uhi : Option Value} (hlo : ∀ v, lo = some v → ∃ u, ulo = some u ∧ VRel v E u) (hlo' : lo = none → ulo = none)
    (hhi : ∀ v, hi = some v → ∃ u, uhi = some u ∧ VRel v E u) (hhi' : hi = none → uhi = none) {K : Nat → Nat → α} (h : good (boundA fail lo 0 fun l => boundA fail hi len fun h => K l h)) :
    ∃ l h, good (K l h) ∧ (l ≤ h → h ≤ len → len ≤ cap → (Instr.sliceBounds isSlice len cap ulo uhi none).run P w = .ok (l, h, cap) w) := by
  rcases bound_good hf h with ⟨e1, h⟩ | ⟨k1, n1, e1, p1, h⟩
  · have e1' := hlo' e1
    rcases bound_good hf h with ⟨e2, h⟩ | ⟨k2, n2, e2, p2, h⟩
    · have e2' := hhi' e2
      exact ⟨_, _, h, fun _ _ _ => by simp [Instr.sliceBounds, e1', e2']⟩
    · obtain ⟨u2, e2', v2⟩ := hhi _ e2
      simp only [VRel] at v2; subst v2
      exact ⟨_, _, h, fun a b c => by
        have : n2 ≤ (cap : Int) := by omega
        simp [Instr.sliceBounds, Instr.sliceBound, asIntOf, e1', e2', p2, this]⟩
  · obtain ⟨u1, e1', v1⟩ := hlo _ e1
    simp only [VRel] at v1; subst v1
    rcases bound_good hf h with ⟨e2, h⟩ | ⟨k2, n2, e2, p2, h⟩
    · have e2' := hhi' e2
      exact ⟨_, _, h, fun a b c => by
        have : n1 ≤ (len : Int) := by omega
        simp [Instr.sliceBounds, Instr.sliceBound, asIntOf, e1', e2', p1, this]⟩
    · obtain ⟨u2, e2', v2⟩ := hhi _ e2
      simp only [VRel] at v2; subst v2
      exact ⟨_, _, h, fun a b c => by
        have h1 : n2 ≤ (cap : Int) := by omega
        simp [Instr.sliceBounds, Instr.sliceBound, asIntOf, e1', e2', p1, p2, h1]
        intro hx; omega⟩


theorem slice_good {esz : Nat} {x : AVal} {lo hi : Option AVal} {ulo uhi : Option Value} (hlo : ∀ v, lo = some v → ∃ u, ulo = some u ∧ VRel v E u) (hlo' : lo = none → ulo = none)
    (hhi : ∀ v, hi = some v → ∃ u, uhi = some u ∧ VRel v E u) (hhi' : hi = none → uhi = none) {K : AVal → α} (h : good (sliceA fail esz x lo hi K)) {u : Value} (hx : VRel x E u)
    {t e : TypeId} (ht : P.underlying t = some (.slice e)) (hs : sizeT P e = some esz) : ∃ z r, good (K z) ∧ (Instr.sliceAt t u ulo uhi none).run P w = .ok r w ∧ VRel z E r := by
  have hrun : ∀ (a : Option Addr) (n c l h : Nat), (Instr.sliceBounds true n c ulo uhi none).run P w = .ok (l, h, c) w →
      (Instr.sliceAt t (.slice a n c) ulo uhi none).run P w = .ok (.slice (if c = l then a else a.map (·.add (l * esz))) (h - l) (c - l)) w := by
    intro a n c l h hb
    simp [Instr.sliceAt, Instr.slice, run_underlying' ht, hb, run_sizeOf hs]
  unfold sliceA at h
  split at h
  · rename_i e0 xs tok
    simp only [VRel] at hx
    obtain ⟨a, cap, rfl, hc, k1, _⟩ := hx
    obtain ⟨l, hh, hg, hb⟩ := run_bounds hf (isSlice := true) (cap := cap) (w := w) (P := P) hlo hlo' hhi hhi' h
    obtain ⟨h1, h2⟩ := need_good hf hg
    simp only [Bool.and_eq_true, beq_iff_eq, Nat.ble_eq] at h1
    obtain ⟨⟨h0, h1⟩, h3⟩ := h1
    have hlen : ((xs.take hh).drop l).length = hh - l := by simp; omega
    refine ⟨_, _, h2, hrun _ _ _ _ _ (hb h1 h3 hc), ?_⟩
    simp only [VRel]
    refine ⟨_, _, by rw [hlen], by rw [hlen]; omega, fun hne => ?_, fun b hb => by cases hb⟩
    have hpos : 0 < hh - l := by rw [← hlen]; exact List.length_pos_iff.2 hne
    obtain ⟨r, off, rfl, k2⟩ := k1 (fun e => by subst e; simp at h3; omega)
    rw [if_neg (by omega)]
    refine ⟨r, off + l * esz, by simp [addr_add], ?_⟩
    rw [← h0]
    exact (k2.take hh).drop l (by simp; omega)
  · simp only [VRel] at hx; subst hx
    obtain ⟨l, hh, hg, hb⟩ := run_bounds hf (isSlice := true) (cap := 0) (w := w) (P := P) hlo hlo' hhi hhi' h
    obtain ⟨h1, h2⟩ := need_good hf hg
    simp only [Bool.and_eq_true, beq_iff_eq] at h1
    obtain ⟨rfl, rfl⟩ := h1
    exact ⟨_, _, h2, hrun _ _ _ _ _ (hb (Nat.le_refl _) (Nat.le_refl _) (Nat.le_refl _)), by simp [VRel]⟩
  · simp only [VRel] at hx; obtain ⟨a, rfl⟩ := hx
    obtain ⟨l, hh, hg, hb⟩ := run_bounds hf (isSlice := true) (cap := 0) (w := w) (P := P) hlo hlo' hhi hhi' h
    obtain ⟨h1, h2⟩ := need_good hf hg
    simp only [Bool.and_eq_true, beq_iff_eq] at h1
    obtain ⟨rfl, rfl⟩ := h1
    exact ⟨_, _, h2, hrun _ _ _ _ _ (hb (Nat.le_refl _) (Nat.le_refl _) (Nat.le_refl _)), by simp [VRel]⟩
  · rename_i b e0 i len
    simp only [VRel] at hx
    obtain ⟨r, a, cap, k1, rfl, hc, k2⟩ := hx
    obtain ⟨l, hh, hg, hb⟩ := run_bounds hf (isSlice := true) (cap := cap) (w := w) (P := P) hlo hlo' hhi hhi' h
    obtain ⟨h1, h2⟩ := need_good hf hg
    simp only [Bool.and_eq_true, beq_iff_eq, Nat.ble_eq] at h1
    obtain ⟨⟨h0, h1⟩, h3⟩ := h1
    refine ⟨_, _, h2, hrun _ _ _ _ _ (hb h1 h3 hc), ?_⟩
    simp only [VRel]
    by_cases hcl : cap = l
    · rw [if_pos hcl]
      exact ⟨r, a, _, k1, rfl, by omega, fun h => by omega⟩
    · rw [if_neg hcl]
      refine ⟨r, a.add (l * esz), _, k1, rfl, by omega, fun h => ?_⟩
      rw [k2 (by omega), addr_add, Nat.add_mul, h0]
  · exact absurd h hf

theorem sliceStr_good {x : AVal} {lo hi : Option AVal} {ulo uhi : Option Value} (hlo : ∀ v, lo = some v → ∃ u, ulo = some u ∧ VRel v E u) (hlo' : lo = none → ulo = none)
    (hhi : ∀ v, hi = some v → ∃ u, uhi = some u ∧ VRel v E u) (hhi' : hi = none → uhi = none) {K : AVal → α} (h : good (sliceStrA fail x lo hi K)) {u : Value} (hx : VRel x E u)
    {t : TypeId} (ht : P.underlying t = some .string) : ∃ z r, good (K z) ∧ (Instr.sliceAt t u ulo uhi none).run P w = .ok r w ∧ VRel z E r := by
  unfold sliceStrA at h
  split at h
  · rename_i s
    simp only [VRel] at hx; subst hx
    obtain ⟨l, hh, hg, hb⟩ := run_bounds hf (isSlice := false) (cap := s.size) (w := w) (P := P) hlo hlo' hhi hhi' h
    obtain ⟨h1, h2⟩ := need_good hf hg
    simp only [Bool.and_eq_true, Nat.ble_eq] at h1
    refine ⟨_, .string (s.extract l hh), h2, ?_, by simp [VRel]⟩
    simp [Instr.sliceAt, Instr.slice, run_underlying' ht, hb h1.1 h1.2 (Nat.le_refl _)]
  · exact absurd h hf

omit hf in
theorem entRel_length : ∀ {es : List (Int × AVal)} {cs : List MapEntry}, EntRel E es cs → cs.length = es.length
  | [], _, h => by cases h; rfl
  | _ :: _, _, ⟨e, rest, h1, _, _, h⟩ => by subst h1; simp [entRel_length h]

theorem len_good {CR : Code → ACode → Prop} {lk : Nat} {x : AVal} {K : Nat → α} (h : good (lenA fail lk x heap K)) {u : Value} (hx : VRel x E u) (H : HRel CR E heap w)
    {t : TypeId} {ty : TypeId} (ht : lenOk P t lk = true) :
    ∃ n : Nat, good (K n) ∧ (Builtin.len_ #[t] ty #[u]).run P w = .ok (.int .i64 n) w := by
  have t0 : lk = 0 → ∃ e, P.underlying t = some (.slice e) := by rintro rfl; unfold lenOk at ht; split at ht <;> simp_all
  have t1 : lk = 1 → P.underlying t = some .string := by rintro rfl; unfold lenOk at ht; split at ht <;> simp_all
  have t2 : lk = 2 → ∃ k e, P.underlying t = some (.map k e) := by rintro rfl; unfold lenOk at ht; split at ht <;> simp_all
  unfold lenA at h
  split at h
  · obtain ⟨e, he⟩ := t0 rfl
    simp only [VRel] at hx; obtain ⟨a, cap, rfl, _⟩ := hx
    exact ⟨_, h, by simp [Builtin.len_, run_underlying' he, goInt]⟩
  · obtain ⟨e, he⟩ := t0 rfl
    simp only [VRel] at hx; subst hx
    exact ⟨_, h, by simp [Builtin.len_, run_underlying' he, goInt]⟩
  · obtain ⟨e, he⟩ := t0 rfl
    simp only [VRel] at hx; obtain ⟨a, rfl⟩ := hx
    exact ⟨_, h, by simp [Builtin.len_, run_underlying' he, goInt]⟩
  · obtain ⟨e, he⟩ := t0 rfl
    simp only [VRel] at hx; obtain ⟨r, a, cap, _, rfl, _⟩ := hx
    exact ⟨_, h, by simp [Builtin.len_, run_underlying' he, goInt]⟩
  · obtain ⟨e, he⟩ := t0 rfl
    simp only [VRel] at hx; obtain ⟨a, cap, rfl, _⟩ := hx
    exact ⟨_, h, by simp [Builtin.len_, run_underlying' he, goInt]⟩
  · simp only [VRel] at hx; subst hx
    exact ⟨_, h, by simp [Builtin.len_, run_underlying' (t1 rfl), goInt]⟩
  · obtain ⟨k, e, he⟩ := t2 rfl
    simp only [VRel] at hx; subst hx
    exact ⟨_, h, by simp [Builtin.len_, run_underlying' he, goInt]⟩
  · obtain ⟨k, e, he⟩ := t2 rfl
    split at h
    · rename_i es hb
      obtain ⟨r, es', clock, k1, k2, k3⟩ := H.obj _ _ hb
      simp only [VRel] at hx; obtain ⟨r', k4, rfl⟩ := hx
      rw [k1] at k4; cases k4
      have hg : (getObj r).run P w = .ok (.map es' clock) w := by simp [getObj, Sem.run, k2]
      have hl : es'.size = es.length := by simpa using entRel_length k3
      exact ⟨_, h, by simp [Builtin.len_, run_underlying' he, goInt, hg, hl]⟩
    · exact absurd h hf
  · exact absurd h hf

theorem minmax_good {mx : Bool} {x y : AVal} {K : AVal → α} (h : good (minmaxA fail mx x y K)) {u v : Value} (hx : VRel x E u) (hy : VRel y E v) (ts : Array TypeId) (ty : TypeId) :
    ∃ z r, good (K z) ∧ (match mx with | true => Builtin.max_ ts ty #[u, v] | false => Builtin.min_ ts ty #[u, v]).run P w = .ok r w ∧ VRel z E r := by
  unfold minmaxA at h
  split at h
  · obtain ⟨h1, h2⟩ := need_good hf h
    have h1 := of_decide_eq_true h1
    subst h1
    simp only [VRel] at hx hy; subst hx; subst hy
    cases mx with
    | true =>
      refine mkR h2 (by simp only [VRel]; rfl) ?_
      simp [Builtin.max_, Builtin.max2, cond_eq_ite]
    | false =>
      refine mkR h2 (by simp only [VRel]; rfl) ?_
      simp [Builtin.min_, Builtin.min2, cond_eq_ite]
  · exact absurd h hf


omit hf in
theorem fold_splice {off : Nat} : ∀ (cs : List Value) (j : Nat) (b : Array Value), off + j + cs.length ≤ b.size →
    ((cs.zipIdx j).foldl (fun a (p : Value × Nat) => a.setIfInBounds (off + p.2) p.1) b).toList = spliceV b.toList (off + j) cs
  | [], j, b, _ => by simp [spliceV]
  | c :: cs, j, b, h => by
    simp only [List.zipIdx_cons, List.foldl_cons]
    have hlt : off + j < b.size := by simp at h; omega
    rw [fold_splice cs (j + 1) _ (by simp at h ⊢; omega)]
    simp only [Array.toList_setIfInBounds, spliceV]
    have e1 : (b.toList.set (off + j) c).take (off + (j + 1)) = b.toList.take (off + j) ++ [c] := by
      rw [show off + (j + 1) = (off + j) + 1 by omega, List.take_succ_eq_append_getElem (by simpa using hlt)]
      simp [List.take_set_of_le]
    have e2 : (b.toList.set (off + j) c).drop (off + (j + 1) + cs.length) = b.toList.drop (off + j + (c :: cs).length) := by
      rw [List.drop_set_of_lt (by omega)]
      congr 1; simp; omega
    rw [e1, e2]; simp

theorem fill_good {fs : Array Field} {a : Act} {st : St} (T : TRel E st.tmps a.tmps) (place : Nat → Option (Nat × Nat)) (hpl : ∀ i f sz, fs[i]? = some f → sizeT P f.type = some sz → place i = some (f.offset, sz)) :
    ∀ {ps : List (Nat × Operand)} {qs : List ((Nat × Nat) × Arg)}, buildOk P fs ps qs = true → ∀ {z : AVal} {K : AVal → α}, good (buildA fail (qs.map fun p => (p.1, st.ev p.2)) z K) → ∀ {c : Array Value}, VRel z E (.agg c) → (∀ v ∈ c.toList, v.oneCell' = true) →
      ∃ v c', good (K v) ∧ Instr.fill place c (ps.map fun p => (p.1, a.eval p.2)) = some c' ∧ VRel v E (.agg c')
  | [], [], _, z, K, h, c, hz, _ => ⟨z, c, h, by simp [Instr.fill], hz⟩
  | p :: ps, q :: qs, hk, z, K, h, c, hz, ho => by
    simp only [buildOk, Bool.and_eq_true] at hk
    obtain ⟨⟨hk1, hk2⟩, hk3⟩ := hk
    simp only [List.map_cons] at h ⊢
    unfold buildA at h
    cases z <;> first | (exact absurd h hf) | skip
    rename_i cs
    simp only at h
    obtain ⟨h1, h2⟩ := need_good hf h
    simp only [Bool.and_eq_true, beq_iff_eq, Nat.ble_eq] at h1
    obtain ⟨⟨h3, h4⟩, h5⟩ := h1
    split at hk1
    · rename_i f hfi
      simp only [Bool.and_eq_true, decide_eq_true_eq] at hk1
      obtain ⟨h6, h7⟩ := hk1
      have hv := argOk_rel hk2 T
      have hcv := hv.cells h3
      have hone := storable_one hv h3
      have hlv : (a.eval p.2).cells.size = q.1.2 := by have := hcv.length; simp at this; omega
      have hz' := hz
      simp only [VRel] at hz
      obtain ⟨vs, e, hz1, hz2⟩ := hz
      cases e
      have hlc := hz1.length
      simp only [Array.length_toList] at hlc
      have hsp := fold_splice (off := q.1.1) (a.eval p.2).cells.toList 0 c (by simp; omega)
      have hfold : ((a.eval p.2).cells.zipIdx.foldl (fun cs (x : Value × Nat) => cs.setIfInBounds (q.1.1 + x.2) x.1) c) = (spliceV c.toList q.1.1 (a.eval p.2).cells.toList).toArray := by
        rw [← Array.foldl_toList]
        apply Array.ext'
        rw [Array.toList_zipIdx]
        simpa using hsp
      obtain ⟨v, c', k1, k2, k3⟩ := fill_good T place hpl hk3 h2 (c := (spliceV c.toList q.1.1 (a.eval p.2).cells.toList).toArray)
        (by simp only [VRel]; exact ⟨_, rfl, by simpa using hz1.splice hcv, fun v hv => (mem_splice (by simpa using hv)).elim (hz2 v) (hone v)⟩)
        (fun v hv => (mem_splice (by simpa using hv)).elim (hz2 v) (hone v))
      refine ⟨v, c', k1, ?_, k3⟩
      simp only [Instr.fill, hpl p.1 f q.1.2 hfi h7, h6]
      rw [if_neg (by simp [hlv]; omega), hfold]
      exact k2
    · cases hk1
  | [], _ :: _, hk, _, _, _, _, _, _ => by simp [buildOk] at hk
  | _ :: _, [], hk, _, _, _, _, _, _ => by simp [buildOk] at hk

end
end Go.Ai
