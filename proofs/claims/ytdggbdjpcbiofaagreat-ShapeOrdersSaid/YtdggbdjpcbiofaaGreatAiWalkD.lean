/- Aids for walking through regions whose order is open. -/
import Derived.Test.YtdggbdjpcbiofaaGreatAiWalk
namespace Go.Ai

section
variable {F : AVal → Prop}
theorem opt_some {v : AVal} : optK False (some v) F = F v := by
  rfl
theorem opt_none  : optK False (none) F = False := by
  rfl
theorem opt_cond {c : Bool} {a b : Option AVal} : optK False (cond c a b) F = cond c (optK False a F) (optK False b F) := by
  cases c <;> rfl
theorem opt_asI {x : AVal} {K : IntKind → Int → Option AVal} : optK False (asI none x K) F = asI False x fun k n => optK False (K k n) F := by
  cases x <;> rfl
theorem opt_asB {x : AVal} {K : Bool → Option AVal} : optK False (asB none x K) F = asB False x fun b => optK False (K b) F := by
  cases x <;> rfl
theorem opt_aggA {x : AVal} {K : List AVal → Option AVal} : optK False (aggA none x K) F = aggA False x fun b => optK False (K b) F := by
  cases x <;> rfl
theorem opt_optM {x : Option AVal} {K : AVal → Option AVal} : optK False (match x with | some v => K v | none => none) F = match x with | some v => optK False (K v) F | none => False := by
  cases x <;> rfl
theorem opt_partOf {g : Bool} {n o : Nat} {x : AVal} {K : AVal → Option AVal} : optK False (partOf none g n x o K) F = partOf False g n x o fun v => optK False (K v) F := by
  cases g <;> cases x <;> simp only [partOf] <;> first | rfl | (rw [opt_cond]; rfl) | (rename_i cs; cases cs[o]? <;> rfl)
theorem opt_loadA {g : Bool} {n : Nat} {p : AVal} {h : List AObj} {K : AVal → Option AVal} : optK False (loadA none g n p h K) F = loadA False g n p h fun v => optK False (K v) F := by
  cases p <;> simp only [loadA] <;> first | rfl | skip
  · rename_i b e i o
    cases h[b]? with
    | none => rfl
    | some x =>
      cases x <;> first | rfl | skip
      rename_i e' es
      simp only [opt_cond, opt_none]
      congr 1
      cases es[i]? with
      | none => rfl
      | some x => exact opt_partOf
  · rename_i e xs i o
    cases xs[i]? with
    | none => rfl
    | some x => exact opt_partOf
theorem opt_addOff {o : Nat} {x : AVal} {K : AVal → Option AVal} : optK False (addOff none x o K) F = addOff False x o fun v => optK False (K v) F := by
  cases x <;> rfl
theorem opt_indexA {e : Nat} {x i : AVal} {K : AVal → Option AVal} : optK False (indexA none e x i K) F = indexA False e x i fun v => optK False (K v) F := by
  cases i <;> cases x <;> simp only [indexA, asI] <;> first | rfl | (rw [opt_cond]; rfl)
theorem opt_indexArrA {l e : Nat} {x i : AVal} {K : AVal → Option AVal} : optK False (indexArrA none l e x i K) F = indexArrA False l e x i fun v => optK False (K v) F := by
  cases i <;> cases x <;> simp only [indexArrA, asI] <;> first | rfl | (rw [opt_cond]; rfl)
theorem opt_lenA {k : Nat} {x : AVal} {h : List AObj} {K : Nat → Option AVal} : optK False (lenA none k x h K) F = lenA False k x h fun v => optK False (K v) F := by
  unfold lenA
  split <;> first | rfl | (split <;> rfl)
theorem opt_boundA {x : Option AVal} {d : Nat} {K : Nat → Option AVal} : optK False (boundA none x d K) F = boundA False x d fun v => optK False (K v) F := by
  unfold boundA
  split <;> first | rfl | (rw [opt_cond]; rfl)
theorem opt_sliceA {e : Nat} {x : AVal} {lo hi : Option AVal} {K : AVal → Option AVal} : optK False (sliceA none e x lo hi K) F = sliceA False e x lo hi fun v => optK False (K v) F := by
  unfold sliceA
  split <;> first | rfl | (simp only [opt_boundA, opt_cond, opt_none])
theorem opt_sliceStrA {x : AVal} {lo hi : Option AVal} {K : AVal → Option AVal} : optK False (sliceStrA none x lo hi K) F = sliceStrA False x lo hi fun v => optK False (K v) F := by
  unfold sliceStrA
  split <;> first | rfl | (simp only [opt_boundA, opt_cond, opt_none])
theorem opt_eqlA {e : Nat} {x y : AVal} {K : Bool → Option AVal} : optK False (eqlA none e x y K) F = eqlA False e x y fun v => optK False (K v) F := by
  unfold eqlA
  split <;> first | rfl | skip
  rename_i n xs ys
  rw [opt_cond]
  congr 1
  cases plainEqs xs ys <;> rfl
theorem opt_binA {op : BinOp} {e : Nat} {x y : AVal} {K : AVal → Option AVal} : optK False (binA none op e x y K) F = binA False op e x y fun v => optK False (K v) F := by
  unfold binA
  split
  · split <;> first | rfl | (rw [opt_cond]; rfl)
  · split <;> rfl
  · split <;> first | rfl | (rw [opt_eqlA])
theorem opt_unA {op : UnOp} {x : AVal} {K : AVal → Option AVal} : optK False (unA none op x K) F = unA False op x fun v => optK False (K v) F := by
  unfold unA
  split <;> rfl
theorem opt_buildA : ∀ {ps : List ((Nat × Nat) × AVal)} {z : AVal} {K : AVal → Option AVal}, optK False (buildA none ps z K) F = buildA False ps z fun v => optK False (K v) F
  | [], z, K => rfl
  | (p, v) :: rest, z, K => by
    cases z <;> simp only [buildA] <;> first | rfl | skip
    rw [opt_cond, opt_buildA]; rfl
theorem opt_withMap {m : AVal} {h : List AObj} {K : Nat → List (Int × AVal) → Option AVal} : optK False (withMap none m h K) F = withMap False m h fun b es => optK False (K b es) F := by
  unfold withMap
  split <;> first | rfl | (split <;> rfl)
theorem opt_minmaxA {mx : Bool} {x y : AVal} {K : AVal → Option AVal} : optK False (minmaxA none mx x y K) F = minmaxA False mx x y fun v => optK False (K v) F := by
  unfold minmaxA
  split <;> first | rfl | (rw [opt_cond]; rfl)
end

/-- What an operation without effect gives, in either reading. -/
theorem eval_opt {C : Cfg Prop} (hC : C.fail = False) (op : AOp) (he : op.effect = false) (st : St) (F : AVal → Prop) : optK C.fail (evalA op st) F = opA C op st fun v _ => F v := by
  rw [hC]
  cases op <;> first | (simp [AOp.effect] at he; done) | skip
  all_goals simp only [evalA, opA, hC, opt_asI, opt_asB, opt_aggA, opt_partOf, opt_loadA, opt_addOff, opt_indexA, opt_indexArrA, opt_lenA, opt_sliceA, opt_sliceStrA, opt_binA, opt_unA, opt_buildA, opt_withMap, opt_minmaxA, opt_cond, opt_some, opt_none]
  all_goals first | rfl | skip
  case lit esz ps => cases ps <;> rfl
  case nilc x => split <;> rfl
  case ext i x =>
    split <;> first | rfl | skip
    split <;> rfl
  case indexStr x i =>
    congr 1; funext k n
    split <;> first | rfl | (rw [opt_cond]; rfl)
  case lookup z ok m k =>
    congr 1; funext ik n
    congr 2; funext b es
    split <;> rfl

def kpure (C : Cfg Prop) (done rest : List AItem) (T : List AVal) (h : List AObj) (d : Option Tmp) (K : St → Prop) (v : AVal) (_ : List AObj) : Prop := Dr C done rest ⟨putL T d v, h⟩ K
def klate (C : Cfg Prop) (l : List AItem) (T : List AVal) (h : List AObj) (d : Tmp) (k : Prop) (v : AVal) (_ : List AObj) : Prop := v = T.getD d .undef ∧ lateA C l ⟨T, h⟩ k

section
variable {P : Program} {eqs : List TypeId} {N : Nat} {done rest : List AItem} {T : List AVal} {h : List AObj} {K : St → Prop} {i : Nat} {d : Option Tmp} {late : List Nat}
@[go_sem] theorem kpure_eq {v : AVal} {h' : List AObj} : kpure (cfg P eqs N) done rest T h d K v h' = Dr (cfg P eqs N) done rest ⟨putL T d v, h⟩ K := ofDef rfl
@[go_sem] theorem klate_eq {l : List AItem} {d : Tmp} {k : Prop} {v : AVal} {h' : List AObj} : klate (cfg P eqs N) l T h d k v h' = (v = T.getD d .undef ∧ lateA (cfg P eqs N) l ⟨T, h⟩ k) := ofDef rfl
@[go_sem] theorem drawA_nil {st : St} : Dr (cfg P eqs N) done [] st K = K st := Dr_eq.trans rfl
theorem kpure_raw {done rest : List AItem} : (fun v _ => drawA (cfg P eqs N) done rest ⟨putL T d v, h⟩ K) = kpure (cfg P eqs N) done rest T h d K := funext fun _ => funext fun _ => Dr_eq.symm
theorem kdraw_raw {done rest l : List AItem} : (fun v h => lateA (cfg P eqs N) l ⟨putL T d v, h⟩ (drawA (cfg P eqs N) done rest ⟨putL T d v, h⟩ K)) = kdraw (cfg P eqs N) done l rest T d K := funext fun _ => funext fun _ => congrArg (lateA _ _ _) Dr_eq.symm
@[go_sem] theorem lateA_nil {st : St} {k : Prop} : lateA (cfg P eqs N) [] st k = k := ofDef rfl
@[congr] theorem kpure_cg {v v' : AVal} {h1 h2 : List AObj} (hv : v = v') (hh : h1 = h2) : kpure (cfg P eqs N) done rest T h d K v h1 = kpure (cfg P eqs N) done rest T h d K v' h2 := by subst hv; subst hh; rfl
@[congr] theorem klate_cg {l : List AItem} {d : Tmp} {k : Prop} {v v' : AVal} {h1 h2 : List AObj} (hv : v = v') (hh : h1 = h2) : klate (cfg P eqs N) l T h d k v h1 = klate (cfg P eqs N) l T h d k v' h2 := by subst hv; subst hh; rfl
theorem drawA_pure {op : AOp} (he : op.effect = false) : Dr (cfg P eqs N) done (⟨i, ⟨d, op, none⟩, late⟩ :: rest) ⟨T, h⟩ K = opA (cfg P eqs N) op ⟨T, h⟩ (kpure (cfg P eqs N) (cond op.reads (done ++ [⟨i, ⟨d, op, none⟩, late⟩]) done) rest T h d K) := by
  rw [Dr_eq, ← kpure_raw]
  simp only [drawA, he]
  exact eval_opt (C := cfg P eqs N) rfl op he ⟨T, h⟩ _
theorem gate_opt {v : AVal} {w : Bool} {x : Option AVal} {F : AVal → Prop} {o : AOper} {t : Tmp} (ho : o.guard = some (t, w)) (hv : T.getD t .undef = v) : optK False (guardA none o T x (some (.tuple []))) F = gateA False v w (optK False x F) (F (.tuple [])) := by
  unfold guardA gateA
  rw [ho]
  simp only [hv]
  cases v <;> first | rfl | (rename_i b; cases w <;> cases b <;> rfl)
theorem drawA_pureG {op : AOp} {t : Tmp} {w : Bool} (he : op.effect = false) : Dr (cfg P eqs N) done (⟨i, ⟨d, op, some (t, w)⟩, late⟩ :: rest) ⟨T, h⟩ K = gateA False (T.getD t .undef) w (opA (cfg P eqs N) op ⟨T, h⟩ (kpure (cfg P eqs N) (cond op.reads (done ++ [⟨i, ⟨d, op, some (t, w)⟩, late⟩]) done) rest T h d K))
    (Dr (cfg P eqs N) (cond op.reads (done ++ [⟨i, ⟨d, op, some (t, w)⟩, late⟩]) done) rest ⟨putL T d (.tuple []), h⟩ K) := by
  refine Eq.trans ?_ (gate_eq (congrArg (opA (cfg P eqs N) op ⟨T, h⟩) kpure_raw) Dr_eq.symm)
  rw [Dr_eq]
  simp only [drawA, he]
  have := gate_opt (T := T) (t := t) (w := w) (o := ⟨d, op, some (t, w)⟩) (x := evalA op ⟨T, h⟩) (F := fun v => drawA (cfg P eqs N) (cond op.reads (done ++ [⟨i, ⟨d, op, some (t, w)⟩, late⟩]) done) rest ⟨putL T d v, h⟩ K) rfl rfl
  exact this.trans (congrArg (fun z => gateA False (T.getD t .undef) w z _) (eval_opt (C := cfg P eqs N) rfl op he ⟨T, h⟩ _))
theorem lateA_pure {op : AOp} {l : List AItem} {d : Tmp} {k : Prop} (he : op.effect = false) : lateA (cfg P eqs N) (⟨i, ⟨some d, op, none⟩, late⟩ :: l) ⟨T, h⟩ k = opA (cfg P eqs N) op ⟨T, h⟩ (klate (cfg P eqs N) l T h d k) := by
  exact eval_opt (C := cfg P eqs N) rfl op he ⟨T, h⟩ _
theorem lateA_pureG {op : AOp} {t : Tmp} {w : Bool} {l : List AItem} {d : Tmp} {k : Prop} (he : op.effect = false) : lateA (cfg P eqs N) (⟨i, ⟨some d, op, some (t, w)⟩, late⟩ :: l) ⟨T, h⟩ k = gateA False (T.getD t .undef) w (opA (cfg P eqs N) op ⟨T, h⟩ (klate (cfg P eqs N) l T h d k)) (.tuple [] = T.getD d .undef ∧ lateA (cfg P eqs N) l ⟨T, h⟩ k) := by
  have := gate_opt (T := T) (t := t) (w := w) (o := ⟨some d, op, some (t, w)⟩) (x := evalA op ⟨T, h⟩) (F := fun v => v = T.getD d .undef ∧ lateA (cfg P eqs N) l ⟨T, h⟩ k) rfl rfl
  exact this.trans (congrArg (fun z => gateA False (T.getD t .undef) w z _) (eval_opt (C := cfg P eqs N) rfl op he ⟨T, h⟩ _))
@[go_sem] theorem drawA_mv {x0 : Arg}  : Dr (cfg P eqs N) done (⟨i, ⟨d, (.mv x0), none⟩, late⟩ :: rest) ⟨T, h⟩ K = opA (cfg P eqs N) (.mv x0) ⟨T, h⟩ (kpure (cfg P eqs N) done rest T h d K) := drawA_pure rfl
@[go_sem] theorem drawA_mvG {x0 : Arg} {t : Tmp} {w : Bool} : Dr (cfg P eqs N) done (⟨i, ⟨d, (.mv x0), (some (t, w))⟩, late⟩ :: rest) ⟨T, h⟩ K = gateA False (T.getD t .undef) w (opA (cfg P eqs N) (.mv x0) ⟨T, h⟩ (kpure (cfg P eqs N) done rest T h d K)) (Dr (cfg P eqs N) done rest ⟨putL T d (.tuple []), h⟩ K) := drawA_pureG rfl
@[go_sem] theorem drawA_pick {c0 : Arg} {a0 : Arg} {b0 : Arg}  : Dr (cfg P eqs N) done (⟨i, ⟨d, (.pick c0 a0 b0), none⟩, late⟩ :: rest) ⟨T, h⟩ K = opA (cfg P eqs N) (.pick c0 a0 b0) ⟨T, h⟩ (kpure (cfg P eqs N) done rest T h d K) := drawA_pure rfl
@[go_sem] theorem drawA_pickG {c0 : Arg} {a0 : Arg} {b0 : Arg} {t : Tmp} {w : Bool} : Dr (cfg P eqs N) done (⟨i, ⟨d, (.pick c0 a0 b0), (some (t, w))⟩, late⟩ :: rest) ⟨T, h⟩ K = gateA False (T.getD t .undef) w (opA (cfg P eqs N) (.pick c0 a0 b0) ⟨T, h⟩ (kpure (cfg P eqs N) done rest T h d K)) (Dr (cfg P eqs N) done rest ⟨putL T d (.tuple []), h⟩ K) := drawA_pureG rfl
@[go_sem] theorem drawA_pend {n0 : Nat}  : Dr (cfg P eqs N) done (⟨i, ⟨d, (.pend n0), none⟩, late⟩ :: rest) ⟨T, h⟩ K = opA (cfg P eqs N) (.pend n0) ⟨T, h⟩ (kpure (cfg P eqs N) done rest T h d K) := drawA_pure rfl
@[go_sem] theorem drawA_pendG {n0 : Nat} {t : Tmp} {w : Bool} : Dr (cfg P eqs N) done (⟨i, ⟨d, (.pend n0), (some (t, w))⟩, late⟩ :: rest) ⟨T, h⟩ K = gateA False (T.getD t .undef) w (opA (cfg P eqs N) (.pend n0) ⟨T, h⟩ (kpure (cfg P eqs N) done rest T h d K)) (Dr (cfg P eqs N) done rest ⟨putL T d (.tuple []), h⟩ K) := drawA_pureG rfl
@[go_sem] theorem drawA_build {z0 : AVal} {ps0 : List ((Nat × Nat) × Arg)}  : Dr (cfg P eqs N) done (⟨i, ⟨d, (.build z0 ps0), none⟩, late⟩ :: rest) ⟨T, h⟩ K = opA (cfg P eqs N) (.build z0 ps0) ⟨T, h⟩ (kpure (cfg P eqs N) done rest T h d K) := drawA_pure rfl
@[go_sem] theorem drawA_buildG {z0 : AVal} {ps0 : List ((Nat × Nat) × Arg)} {t : Tmp} {w : Bool} : Dr (cfg P eqs N) done (⟨i, ⟨d, (.build z0 ps0), (some (t, w))⟩, late⟩ :: rest) ⟨T, h⟩ K = gateA False (T.getD t .undef) w (opA (cfg P eqs N) (.build z0 ps0) ⟨T, h⟩ (kpure (cfg P eqs N) done rest T h d K)) (Dr (cfg P eqs N) done rest ⟨putL T d (.tuple []), h⟩ K) := drawA_pureG rfl
@[go_sem] theorem drawA_lit {e0 : Nat} {ps0 : List Arg}  : Dr (cfg P eqs N) done (⟨i, ⟨d, (.lit e0 ps0), none⟩, late⟩ :: rest) ⟨T, h⟩ K = opA (cfg P eqs N) (.lit e0 ps0) ⟨T, h⟩ (kpure (cfg P eqs N) done rest T h d K) := drawA_pure rfl
@[go_sem] theorem drawA_litG {e0 : Nat} {ps0 : List Arg} {t : Tmp} {w : Bool} : Dr (cfg P eqs N) done (⟨i, ⟨d, (.lit e0 ps0), (some (t, w))⟩, late⟩ :: rest) ⟨T, h⟩ K = gateA False (T.getD t .undef) w (opA (cfg P eqs N) (.lit e0 ps0) ⟨T, h⟩ (kpure (cfg P eqs N) done rest T h d K)) (Dr (cfg P eqs N) done rest ⟨putL T d (.tuple []), h⟩ K) := drawA_pureG rfl
@[go_sem] theorem drawA_load {g0 : Bool} {n0 : Nat} {p0 : Arg}  : Dr (cfg P eqs N) done (⟨i, ⟨d, (.load g0 n0 p0), none⟩, late⟩ :: rest) ⟨T, h⟩ K = opA (cfg P eqs N) (.load g0 n0 p0) ⟨T, h⟩ (kpure (cfg P eqs N) (done ++ [⟨i, ⟨d, (.load g0 n0 p0), none⟩, late⟩]) rest T h d K) := drawA_pure rfl
@[go_sem] theorem lateA_load {g0 : Bool} {n0 : Nat} {p0 : Arg}  {l1 : List AItem} {e1 : Tmp} {k1 : Prop} : lateA (cfg P eqs N) (⟨i, ⟨some e1, (.load g0 n0 p0), none⟩, late⟩ :: l1) ⟨T, h⟩ k1 = opA (cfg P eqs N) (.load g0 n0 p0) ⟨T, h⟩ (klate (cfg P eqs N) l1 T h e1 k1) := lateA_pure rfl
@[go_sem] theorem drawA_loadG {g0 : Bool} {n0 : Nat} {p0 : Arg} {t : Tmp} {w : Bool} : Dr (cfg P eqs N) done (⟨i, ⟨d, (.load g0 n0 p0), (some (t, w))⟩, late⟩ :: rest) ⟨T, h⟩ K = gateA False (T.getD t .undef) w (opA (cfg P eqs N) (.load g0 n0 p0) ⟨T, h⟩ (kpure (cfg P eqs N) (done ++ [⟨i, ⟨d, (.load g0 n0 p0), (some (t, w))⟩, late⟩]) rest T h d K)) (Dr (cfg P eqs N) (done ++ [⟨i, ⟨d, (.load g0 n0 p0), (some (t, w))⟩, late⟩]) rest ⟨putL T d (.tuple []), h⟩ K) := drawA_pureG rfl
@[go_sem] theorem lateA_loadG {g0 : Bool} {n0 : Nat} {p0 : Arg} {t : Tmp} {w : Bool} {l1 : List AItem} {e1 : Tmp} {k1 : Prop} : lateA (cfg P eqs N) (⟨i, ⟨some e1, (.load g0 n0 p0), (some (t, w))⟩, late⟩ :: l1) ⟨T, h⟩ k1 = gateA False (T.getD t .undef) w (opA (cfg P eqs N) (.load g0 n0 p0) ⟨T, h⟩ (klate (cfg P eqs N) l1 T h e1 k1)) (.tuple [] = T.getD e1 .undef ∧ lateA (cfg P eqs N) l1 ⟨T, h⟩ k1) := lateA_pureG rfl
@[go_sem] theorem drawA_nilc {x0 : Arg}  : Dr (cfg P eqs N) done (⟨i, ⟨d, (.nilc x0), none⟩, late⟩ :: rest) ⟨T, h⟩ K = opA (cfg P eqs N) (.nilc x0) ⟨T, h⟩ (kpure (cfg P eqs N) done rest T h d K) := drawA_pure rfl
@[go_sem] theorem drawA_nilcG {x0 : Arg} {t : Tmp} {w : Bool} : Dr (cfg P eqs N) done (⟨i, ⟨d, (.nilc x0), (some (t, w))⟩, late⟩ :: rest) ⟨T, h⟩ K = gateA False (T.getD t .undef) w (opA (cfg P eqs N) (.nilc x0) ⟨T, h⟩ (kpure (cfg P eqs N) done rest T h d K)) (Dr (cfg P eqs N) done rest ⟨putL T d (.tuple []), h⟩ K) := drawA_pureG rfl
@[go_sem] theorem drawA_bin {op0 : BinOp} {e0 : Nat} {x0 : Arg} {y0 : Arg}  : Dr (cfg P eqs N) done (⟨i, ⟨d, (.bin op0 e0 x0 y0), none⟩, late⟩ :: rest) ⟨T, h⟩ K = opA (cfg P eqs N) (.bin op0 e0 x0 y0) ⟨T, h⟩ (kpure (cfg P eqs N) done rest T h d K) := drawA_pure rfl
@[go_sem] theorem drawA_binG {op0 : BinOp} {e0 : Nat} {x0 : Arg} {y0 : Arg} {t : Tmp} {w : Bool} : Dr (cfg P eqs N) done (⟨i, ⟨d, (.bin op0 e0 x0 y0), (some (t, w))⟩, late⟩ :: rest) ⟨T, h⟩ K = gateA False (T.getD t .undef) w (opA (cfg P eqs N) (.bin op0 e0 x0 y0) ⟨T, h⟩ (kpure (cfg P eqs N) done rest T h d K)) (Dr (cfg P eqs N) done rest ⟨putL T d (.tuple []), h⟩ K) := drawA_pureG rfl
@[go_sem] theorem drawA_un {op0 : UnOp} {x0 : Arg}  : Dr (cfg P eqs N) done (⟨i, ⟨d, (.un op0 x0), none⟩, late⟩ :: rest) ⟨T, h⟩ K = opA (cfg P eqs N) (.un op0 x0) ⟨T, h⟩ (kpure (cfg P eqs N) done rest T h d K) := drawA_pure rfl
@[go_sem] theorem drawA_unG {op0 : UnOp} {x0 : Arg} {t : Tmp} {w : Bool} : Dr (cfg P eqs N) done (⟨i, ⟨d, (.un op0 x0), (some (t, w))⟩, late⟩ :: rest) ⟨T, h⟩ K = gateA False (T.getD t .undef) w (opA (cfg P eqs N) (.un op0 x0) ⟨T, h⟩ (kpure (cfg P eqs N) done rest T h d K)) (Dr (cfg P eqs N) done rest ⟨putL T d (.tuple []), h⟩ K) := drawA_pureG rfl
@[go_sem] theorem drawA_conv {k0 : IntKind} {x0 : Arg}  : Dr (cfg P eqs N) done (⟨i, ⟨d, (.conv k0 x0), none⟩, late⟩ :: rest) ⟨T, h⟩ K = opA (cfg P eqs N) (.conv k0 x0) ⟨T, h⟩ (kpure (cfg P eqs N) done rest T h d K) := drawA_pure rfl
@[go_sem] theorem drawA_convG {k0 : IntKind} {x0 : Arg} {t : Tmp} {w : Bool} : Dr (cfg P eqs N) done (⟨i, ⟨d, (.conv k0 x0), (some (t, w))⟩, late⟩ :: rest) ⟨T, h⟩ K = gateA False (T.getD t .undef) w (opA (cfg P eqs N) (.conv k0 x0) ⟨T, h⟩ (kpure (cfg P eqs N) done rest T h d K)) (Dr (cfg P eqs N) done rest ⟨putL T d (.tuple []), h⟩ K) := drawA_pureG rfl
@[go_sem] theorem drawA_mkf {f0 : FuncId} {a0 : List Arg} {c0 : List Arg}  : Dr (cfg P eqs N) done (⟨i, ⟨d, (.mkf f0 a0 c0), none⟩, late⟩ :: rest) ⟨T, h⟩ K = opA (cfg P eqs N) (.mkf f0 a0 c0) ⟨T, h⟩ (kpure (cfg P eqs N) done rest T h d K) := drawA_pure rfl
@[go_sem] theorem drawA_mkfG {f0 : FuncId} {a0 : List Arg} {c0 : List Arg} {t : Tmp} {w : Bool} : Dr (cfg P eqs N) done (⟨i, ⟨d, (.mkf f0 a0 c0), (some (t, w))⟩, late⟩ :: rest) ⟨T, h⟩ K = gateA False (T.getD t .undef) w (opA (cfg P eqs N) (.mkf f0 a0 c0) ⟨T, h⟩ (kpure (cfg P eqs N) done rest T h d K)) (Dr (cfg P eqs N) done rest ⟨putL T d (.tuple []), h⟩ K) := drawA_pureG rfl
@[go_sem] theorem drawA_slice {e0 : Nat} {x0 : Arg} {lo0 : Option Arg} {hi0 : Option Arg}  : Dr (cfg P eqs N) done (⟨i, ⟨d, (.slice e0 x0 lo0 hi0), none⟩, late⟩ :: rest) ⟨T, h⟩ K = opA (cfg P eqs N) (.slice e0 x0 lo0 hi0) ⟨T, h⟩ (kpure (cfg P eqs N) done rest T h d K) := drawA_pure rfl
@[go_sem] theorem drawA_sliceG {e0 : Nat} {x0 : Arg} {lo0 : Option Arg} {hi0 : Option Arg} {t : Tmp} {w : Bool} : Dr (cfg P eqs N) done (⟨i, ⟨d, (.slice e0 x0 lo0 hi0), (some (t, w))⟩, late⟩ :: rest) ⟨T, h⟩ K = gateA False (T.getD t .undef) w (opA (cfg P eqs N) (.slice e0 x0 lo0 hi0) ⟨T, h⟩ (kpure (cfg P eqs N) done rest T h d K)) (Dr (cfg P eqs N) done rest ⟨putL T d (.tuple []), h⟩ K) := drawA_pureG rfl
@[go_sem] theorem drawA_sliceStr {x0 : Arg} {lo0 : Option Arg} {hi0 : Option Arg}  : Dr (cfg P eqs N) done (⟨i, ⟨d, (.sliceStr x0 lo0 hi0), none⟩, late⟩ :: rest) ⟨T, h⟩ K = opA (cfg P eqs N) (.sliceStr x0 lo0 hi0) ⟨T, h⟩ (kpure (cfg P eqs N) done rest T h d K) := drawA_pure rfl
@[go_sem] theorem drawA_sliceStrG {x0 : Arg} {lo0 : Option Arg} {hi0 : Option Arg} {t : Tmp} {w : Bool} : Dr (cfg P eqs N) done (⟨i, ⟨d, (.sliceStr x0 lo0 hi0), (some (t, w))⟩, late⟩ :: rest) ⟨T, h⟩ K = gateA False (T.getD t .undef) w (opA (cfg P eqs N) (.sliceStr x0 lo0 hi0) ⟨T, h⟩ (kpure (cfg P eqs N) done rest T h d K)) (Dr (cfg P eqs N) done rest ⟨putL T d (.tuple []), h⟩ K) := drawA_pureG rfl
@[go_sem] theorem drawA_addo {o0 : Nat} {x0 : Arg}  : Dr (cfg P eqs N) done (⟨i, ⟨d, (.addo o0 x0), none⟩, late⟩ :: rest) ⟨T, h⟩ K = opA (cfg P eqs N) (.addo o0 x0) ⟨T, h⟩ (kpure (cfg P eqs N) done rest T h d K) := drawA_pure rfl
@[go_sem] theorem drawA_addoG {o0 : Nat} {x0 : Arg} {t : Tmp} {w : Bool} : Dr (cfg P eqs N) done (⟨i, ⟨d, (.addo o0 x0), (some (t, w))⟩, late⟩ :: rest) ⟨T, h⟩ K = gateA False (T.getD t .undef) w (opA (cfg P eqs N) (.addo o0 x0) ⟨T, h⟩ (kpure (cfg P eqs N) done rest T h d K)) (Dr (cfg P eqs N) done rest ⟨putL T d (.tuple []), h⟩ K) := drawA_pureG rfl
@[go_sem] theorem drawA_field {g0 : Bool} {n0 : Nat} {o0 : Nat} {x0 : Arg}  : Dr (cfg P eqs N) done (⟨i, ⟨d, (.field g0 n0 o0 x0), none⟩, late⟩ :: rest) ⟨T, h⟩ K = opA (cfg P eqs N) (.field g0 n0 o0 x0) ⟨T, h⟩ (kpure (cfg P eqs N) done rest T h d K) := drawA_pure rfl
@[go_sem] theorem drawA_fieldG {g0 : Bool} {n0 : Nat} {o0 : Nat} {x0 : Arg} {t : Tmp} {w : Bool} : Dr (cfg P eqs N) done (⟨i, ⟨d, (.field g0 n0 o0 x0), (some (t, w))⟩, late⟩ :: rest) ⟨T, h⟩ K = gateA False (T.getD t .undef) w (opA (cfg P eqs N) (.field g0 n0 o0 x0) ⟨T, h⟩ (kpure (cfg P eqs N) done rest T h d K)) (Dr (cfg P eqs N) done rest ⟨putL T d (.tuple []), h⟩ K) := drawA_pureG rfl
@[go_sem] theorem drawA_idx {e0 : Nat} {x0 : Arg} {i0 : Arg}  : Dr (cfg P eqs N) done (⟨i, ⟨d, (.idx e0 x0 i0), none⟩, late⟩ :: rest) ⟨T, h⟩ K = opA (cfg P eqs N) (.idx e0 x0 i0) ⟨T, h⟩ (kpure (cfg P eqs N) done rest T h d K) := drawA_pure rfl
@[go_sem] theorem drawA_idxG {e0 : Nat} {x0 : Arg} {i0 : Arg} {t : Tmp} {w : Bool} : Dr (cfg P eqs N) done (⟨i, ⟨d, (.idx e0 x0 i0), (some (t, w))⟩, late⟩ :: rest) ⟨T, h⟩ K = gateA False (T.getD t .undef) w (opA (cfg P eqs N) (.idx e0 x0 i0) ⟨T, h⟩ (kpure (cfg P eqs N) done rest T h d K)) (Dr (cfg P eqs N) done rest ⟨putL T d (.tuple []), h⟩ K) := drawA_pureG rfl
@[go_sem] theorem drawA_idxArr {l0 : Nat} {e0 : Nat} {x0 : Arg} {i0 : Arg}  : Dr (cfg P eqs N) done (⟨i, ⟨d, (.idxArr l0 e0 x0 i0), none⟩, late⟩ :: rest) ⟨T, h⟩ K = opA (cfg P eqs N) (.idxArr l0 e0 x0 i0) ⟨T, h⟩ (kpure (cfg P eqs N) done rest T h d K) := drawA_pure rfl
@[go_sem] theorem drawA_idxArrG {l0 : Nat} {e0 : Nat} {x0 : Arg} {i0 : Arg} {t : Tmp} {w : Bool} : Dr (cfg P eqs N) done (⟨i, ⟨d, (.idxArr l0 e0 x0 i0), (some (t, w))⟩, late⟩ :: rest) ⟨T, h⟩ K = gateA False (T.getD t .undef) w (opA (cfg P eqs N) (.idxArr l0 e0 x0 i0) ⟨T, h⟩ (kpure (cfg P eqs N) done rest T h d K)) (Dr (cfg P eqs N) done rest ⟨putL T d (.tuple []), h⟩ K) := drawA_pureG rfl
@[go_sem] theorem drawA_index {l0 : Nat} {e0 : Nat} {g0 : Bool} {x0 : Arg} {i0 : Arg}  : Dr (cfg P eqs N) done (⟨i, ⟨d, (.index l0 e0 g0 x0 i0), none⟩, late⟩ :: rest) ⟨T, h⟩ K = opA (cfg P eqs N) (.index l0 e0 g0 x0 i0) ⟨T, h⟩ (kpure (cfg P eqs N) done rest T h d K) := drawA_pure rfl
@[go_sem] theorem drawA_indexG {l0 : Nat} {e0 : Nat} {g0 : Bool} {x0 : Arg} {i0 : Arg} {t : Tmp} {w : Bool} : Dr (cfg P eqs N) done (⟨i, ⟨d, (.index l0 e0 g0 x0 i0), (some (t, w))⟩, late⟩ :: rest) ⟨T, h⟩ K = gateA False (T.getD t .undef) w (opA (cfg P eqs N) (.index l0 e0 g0 x0 i0) ⟨T, h⟩ (kpure (cfg P eqs N) done rest T h d K)) (Dr (cfg P eqs N) done rest ⟨putL T d (.tuple []), h⟩ K) := drawA_pureG rfl
@[go_sem] theorem drawA_indexStr {x0 : Arg} {i0 : Arg}  : Dr (cfg P eqs N) done (⟨i, ⟨d, (.indexStr x0 i0), none⟩, late⟩ :: rest) ⟨T, h⟩ K = opA (cfg P eqs N) (.indexStr x0 i0) ⟨T, h⟩ (kpure (cfg P eqs N) done rest T h d K) := drawA_pure rfl
@[go_sem] theorem drawA_indexStrG {x0 : Arg} {i0 : Arg} {t : Tmp} {w : Bool} : Dr (cfg P eqs N) done (⟨i, ⟨d, (.indexStr x0 i0), (some (t, w))⟩, late⟩ :: rest) ⟨T, h⟩ K = gateA False (T.getD t .undef) w (opA (cfg P eqs N) (.indexStr x0 i0) ⟨T, h⟩ (kpure (cfg P eqs N) done rest T h d K)) (Dr (cfg P eqs N) done rest ⟨putL T d (.tuple []), h⟩ K) := drawA_pureG rfl
@[go_sem] theorem drawA_lookup {z0 : AVal} {ok0 : Bool} {m0 : Arg} {k0 : Arg}  : Dr (cfg P eqs N) done (⟨i, ⟨d, (.lookup z0 ok0 m0 k0), none⟩, late⟩ :: rest) ⟨T, h⟩ K = opA (cfg P eqs N) (.lookup z0 ok0 m0 k0) ⟨T, h⟩ (kpure (cfg P eqs N) (done ++ [⟨i, ⟨d, (.lookup z0 ok0 m0 k0), none⟩, late⟩]) rest T h d K) := drawA_pure rfl
@[go_sem] theorem lateA_lookup {z0 : AVal} {ok0 : Bool} {m0 : Arg} {k0 : Arg}  {l1 : List AItem} {e1 : Tmp} {k1 : Prop} : lateA (cfg P eqs N) (⟨i, ⟨some e1, (.lookup z0 ok0 m0 k0), none⟩, late⟩ :: l1) ⟨T, h⟩ k1 = opA (cfg P eqs N) (.lookup z0 ok0 m0 k0) ⟨T, h⟩ (klate (cfg P eqs N) l1 T h e1 k1) := lateA_pure rfl
@[go_sem] theorem drawA_lookupG {z0 : AVal} {ok0 : Bool} {m0 : Arg} {k0 : Arg} {t : Tmp} {w : Bool} : Dr (cfg P eqs N) done (⟨i, ⟨d, (.lookup z0 ok0 m0 k0), (some (t, w))⟩, late⟩ :: rest) ⟨T, h⟩ K = gateA False (T.getD t .undef) w (opA (cfg P eqs N) (.lookup z0 ok0 m0 k0) ⟨T, h⟩ (kpure (cfg P eqs N) (done ++ [⟨i, ⟨d, (.lookup z0 ok0 m0 k0), (some (t, w))⟩, late⟩]) rest T h d K)) (Dr (cfg P eqs N) (done ++ [⟨i, ⟨d, (.lookup z0 ok0 m0 k0), (some (t, w))⟩, late⟩]) rest ⟨putL T d (.tuple []), h⟩ K) := drawA_pureG rfl
@[go_sem] theorem lateA_lookupG {z0 : AVal} {ok0 : Bool} {m0 : Arg} {k0 : Arg} {t : Tmp} {w : Bool} {l1 : List AItem} {e1 : Tmp} {k1 : Prop} : lateA (cfg P eqs N) (⟨i, ⟨some e1, (.lookup z0 ok0 m0 k0), (some (t, w))⟩, late⟩ :: l1) ⟨T, h⟩ k1 = gateA False (T.getD t .undef) w (opA (cfg P eqs N) (.lookup z0 ok0 m0 k0) ⟨T, h⟩ (klate (cfg P eqs N) l1 T h e1 k1)) (.tuple [] = T.getD e1 .undef ∧ lateA (cfg P eqs N) l1 ⟨T, h⟩ k1) := lateA_pureG rfl
@[go_sem] theorem drawA_ext {i0 : Nat} {x0 : Arg}  : Dr (cfg P eqs N) done (⟨i, ⟨d, (.ext i0 x0), none⟩, late⟩ :: rest) ⟨T, h⟩ K = opA (cfg P eqs N) (.ext i0 x0) ⟨T, h⟩ (kpure (cfg P eqs N) done rest T h d K) := drawA_pure rfl
@[go_sem] theorem drawA_extG {i0 : Nat} {x0 : Arg} {t : Tmp} {w : Bool} : Dr (cfg P eqs N) done (⟨i, ⟨d, (.ext i0 x0), (some (t, w))⟩, late⟩ :: rest) ⟨T, h⟩ K = gateA False (T.getD t .undef) w (opA (cfg P eqs N) (.ext i0 x0) ⟨T, h⟩ (kpure (cfg P eqs N) done rest T h d K)) (Dr (cfg P eqs N) done rest ⟨putL T d (.tuple []), h⟩ K) := drawA_pureG rfl
@[go_sem] theorem drawA_len {k0 : Nat} {x0 : Arg}  : Dr (cfg P eqs N) done (⟨i, ⟨d, (.len k0 x0), none⟩, late⟩ :: rest) ⟨T, h⟩ K = opA (cfg P eqs N) (.len k0 x0) ⟨T, h⟩ (kpure (cfg P eqs N) (done ++ [⟨i, ⟨d, (.len k0 x0), none⟩, late⟩]) rest T h d K) := drawA_pure rfl
@[go_sem] theorem lateA_len {k0 : Nat} {x0 : Arg}  {l1 : List AItem} {e1 : Tmp} {k1 : Prop} : lateA (cfg P eqs N) (⟨i, ⟨some e1, (.len k0 x0), none⟩, late⟩ :: l1) ⟨T, h⟩ k1 = opA (cfg P eqs N) (.len k0 x0) ⟨T, h⟩ (klate (cfg P eqs N) l1 T h e1 k1) := lateA_pure rfl
@[go_sem] theorem drawA_lenG {k0 : Nat} {x0 : Arg} {t : Tmp} {w : Bool} : Dr (cfg P eqs N) done (⟨i, ⟨d, (.len k0 x0), (some (t, w))⟩, late⟩ :: rest) ⟨T, h⟩ K = gateA False (T.getD t .undef) w (opA (cfg P eqs N) (.len k0 x0) ⟨T, h⟩ (kpure (cfg P eqs N) (done ++ [⟨i, ⟨d, (.len k0 x0), (some (t, w))⟩, late⟩]) rest T h d K)) (Dr (cfg P eqs N) (done ++ [⟨i, ⟨d, (.len k0 x0), (some (t, w))⟩, late⟩]) rest ⟨putL T d (.tuple []), h⟩ K) := drawA_pureG rfl
@[go_sem] theorem lateA_lenG {k0 : Nat} {x0 : Arg} {t : Tmp} {w : Bool} {l1 : List AItem} {e1 : Tmp} {k1 : Prop} : lateA (cfg P eqs N) (⟨i, ⟨some e1, (.len k0 x0), (some (t, w))⟩, late⟩ :: l1) ⟨T, h⟩ k1 = gateA False (T.getD t .undef) w (opA (cfg P eqs N) (.len k0 x0) ⟨T, h⟩ (klate (cfg P eqs N) l1 T h e1 k1)) (.tuple [] = T.getD e1 .undef ∧ lateA (cfg P eqs N) l1 ⟨T, h⟩ k1) := lateA_pureG rfl
@[go_sem] theorem drawA_minmax {mx0 : Bool} {a0 : Arg} {b0 : Arg}  : Dr (cfg P eqs N) done (⟨i, ⟨d, (.minmax mx0 a0 b0), none⟩, late⟩ :: rest) ⟨T, h⟩ K = opA (cfg P eqs N) (.minmax mx0 a0 b0) ⟨T, h⟩ (kpure (cfg P eqs N) done rest T h d K) := drawA_pure rfl
@[go_sem] theorem drawA_minmaxG {mx0 : Bool} {a0 : Arg} {b0 : Arg} {t : Tmp} {w : Bool} : Dr (cfg P eqs N) done (⟨i, ⟨d, (.minmax mx0 a0 b0), (some (t, w))⟩, late⟩ :: rest) ⟨T, h⟩ K = gateA False (T.getD t .undef) w (opA (cfg P eqs N) (.minmax mx0 a0 b0) ⟨T, h⟩ (kpure (cfg P eqs N) done rest T h d K)) (Dr (cfg P eqs N) done rest ⟨putL T d (.tuple []), h⟩ K) := drawA_pureG rfl
theorem drawA_eff {op : AOp} (_ : op.effect = true) (hp : ∀ (K : St → Prop), drawA (cfg P eqs N) done (⟨i, ⟨d, op, none⟩, late⟩ :: rest) ⟨T, h⟩ K = opA (cfg P eqs N) op ⟨T, h⟩ (fun v h => lateA (cfg P eqs N) (done.filter fun r => late.contains r.idx) ⟨putL T d v, h⟩ (drawA (cfg P eqs N) done rest ⟨putL T d v, h⟩ K))) :
    Dr (cfg P eqs N) done (⟨i, ⟨d, op, none⟩, late⟩ :: rest) ⟨T, h⟩ K = opA (cfg P eqs N) op ⟨T, h⟩ (kdraw (cfg P eqs N) done (done.filter fun r => late.contains r.idx) rest T d K) :=
  Dr_eq.trans ((hp K).trans (congrArg (opA (cfg P eqs N) op ⟨T, h⟩) kdraw_raw))
theorem drawA_effG {op : AOp} {t : Tmp} {w : Bool} (_ : op.effect = true) (hp : ∀ (K : St → Prop), drawA (cfg P eqs N) done (⟨i, ⟨d, op, some (t, w)⟩, late⟩ :: rest) ⟨T, h⟩ K = gateA False (T.getD t .undef) w (opA (cfg P eqs N) op ⟨T, h⟩ (fun v h => lateA (cfg P eqs N) (done.filter fun r => late.contains r.idx) ⟨putL T d v, h⟩ (drawA (cfg P eqs N) done rest ⟨putL T d v, h⟩ K))) (drawA (cfg P eqs N) done rest ⟨putL T d (.tuple []), h⟩ K)) :
    Dr (cfg P eqs N) done (⟨i, ⟨d, op, some (t, w)⟩, late⟩ :: rest) ⟨T, h⟩ K = gateA False (T.getD t .undef) w (opA (cfg P eqs N) op ⟨T, h⟩ (kdraw (cfg P eqs N) done (done.filter fun r => late.contains r.idx) rest T d K)) (Dr (cfg P eqs N) done rest ⟨putL T d (.tuple []), h⟩ K) :=
  Dr_eq.trans ((hp K).trans (gate_eq (congrArg (opA (cfg P eqs N) op ⟨T, h⟩) kdraw_raw) Dr_eq.symm))
@[go_sem] theorem drawA_set {x0 : Arg}  : Dr (cfg P eqs N) done (⟨i, ⟨d, (.set x0), none⟩, late⟩ :: rest) ⟨T, h⟩ K = opA (cfg P eqs N) (.set x0) ⟨T, h⟩ (kdraw (cfg P eqs N) done (done.filter fun r => late.contains r.idx) rest T d K) := drawA_eff rfl (fun _ => rfl)
@[go_sem] theorem drawA_setG {x0 : Arg} {t : Tmp} {w : Bool} : Dr (cfg P eqs N) done (⟨i, ⟨d, (.set x0), (some (t, w))⟩, late⟩ :: rest) ⟨T, h⟩ K = gateA False (T.getD t .undef) w (opA (cfg P eqs N) (.set x0) ⟨T, h⟩ (kdraw (cfg P eqs N) done (done.filter fun r => late.contains r.idx) rest T d K)) (Dr (cfg P eqs N) done rest ⟨putL T d (.tuple []), h⟩ K) := drawA_effG rfl (fun _ => rfl)
@[go_sem] theorem drawA_tokz {e0 : Nat} {x0 : Arg}  : Dr (cfg P eqs N) done (⟨i, ⟨d, (.tokz e0 x0), none⟩, late⟩ :: rest) ⟨T, h⟩ K = opA (cfg P eqs N) (.tokz e0 x0) ⟨T, h⟩ (kdraw (cfg P eqs N) done (done.filter fun r => late.contains r.idx) rest T d K) := drawA_eff rfl (fun _ => rfl)
@[go_sem] theorem drawA_tokzG {e0 : Nat} {x0 : Arg} {t : Tmp} {w : Bool} : Dr (cfg P eqs N) done (⟨i, ⟨d, (.tokz e0 x0), (some (t, w))⟩, late⟩ :: rest) ⟨T, h⟩ K = gateA False (T.getD t .undef) w (opA (cfg P eqs N) (.tokz e0 x0) ⟨T, h⟩ (kdraw (cfg P eqs N) done (done.filter fun r => late.contains r.idx) rest T d K)) (Dr (cfg P eqs N) done rest ⟨putL T d (.tuple []), h⟩ K) := drawA_effG rfl (fun _ => rfl)
@[go_sem] theorem drawA_alloc {e0 : Nat} {z0 : AVal} {tz0 : List (Nat × Nat)}  : Dr (cfg P eqs N) done (⟨i, ⟨d, (.alloc e0 z0 tz0), none⟩, late⟩ :: rest) ⟨T, h⟩ K = opA (cfg P eqs N) (.alloc e0 z0 tz0) ⟨T, h⟩ (kdraw (cfg P eqs N) done (done.filter fun r => late.contains r.idx) rest T d K) := drawA_eff rfl (fun _ => rfl)
@[go_sem] theorem drawA_allocG {e0 : Nat} {z0 : AVal} {tz0 : List (Nat × Nat)} {t : Tmp} {w : Bool} : Dr (cfg P eqs N) done (⟨i, ⟨d, (.alloc e0 z0 tz0), (some (t, w))⟩, late⟩ :: rest) ⟨T, h⟩ K = gateA False (T.getD t .undef) w (opA (cfg P eqs N) (.alloc e0 z0 tz0) ⟨T, h⟩ (kdraw (cfg P eqs N) done (done.filter fun r => late.contains r.idx) rest T d K)) (Dr (cfg P eqs N) done rest ⟨putL T d (.tuple []), h⟩ K) := drawA_effG rfl (fun _ => rfl)
@[go_sem] theorem drawA_box {x0 : Arg} {tz0 : List (Nat × Nat)}  : Dr (cfg P eqs N) done (⟨i, ⟨d, (.box x0 tz0), none⟩, late⟩ :: rest) ⟨T, h⟩ K = opA (cfg P eqs N) (.box x0 tz0) ⟨T, h⟩ (kdraw (cfg P eqs N) done (done.filter fun r => late.contains r.idx) rest T d K) := drawA_eff rfl (fun _ => rfl)
@[go_sem] theorem drawA_boxG {x0 : Arg} {tz0 : List (Nat × Nat)} {t : Tmp} {w : Bool} : Dr (cfg P eqs N) done (⟨i, ⟨d, (.box x0 tz0), (some (t, w))⟩, late⟩ :: rest) ⟨T, h⟩ K = gateA False (T.getD t .undef) w (opA (cfg P eqs N) (.box x0 tz0) ⟨T, h⟩ (kdraw (cfg P eqs N) done (done.filter fun r => late.contains r.idx) rest T d K)) (Dr (cfg P eqs N) done rest ⟨putL T d (.tuple []), h⟩ K) := drawA_effG rfl (fun _ => rfl)
@[go_sem] theorem drawA_litOwn {e0 : Nat} {ps0 : List Arg}  : Dr (cfg P eqs N) done (⟨i, ⟨d, (.litOwn e0 ps0), none⟩, late⟩ :: rest) ⟨T, h⟩ K = opA (cfg P eqs N) (.litOwn e0 ps0) ⟨T, h⟩ (kdraw (cfg P eqs N) done (done.filter fun r => late.contains r.idx) rest T d K) := drawA_eff rfl (fun _ => rfl)
@[go_sem] theorem drawA_litOwnG {e0 : Nat} {ps0 : List Arg} {t : Tmp} {w : Bool} : Dr (cfg P eqs N) done (⟨i, ⟨d, (.litOwn e0 ps0), (some (t, w))⟩, late⟩ :: rest) ⟨T, h⟩ K = gateA False (T.getD t .undef) w (opA (cfg P eqs N) (.litOwn e0 ps0) ⟨T, h⟩ (kdraw (cfg P eqs N) done (done.filter fun r => late.contains r.idx) rest T d K)) (Dr (cfg P eqs N) done rest ⟨putL T d (.tuple []), h⟩ K) := drawA_effG rfl (fun _ => rfl)
@[go_sem] theorem drawA_litTok {e0 : Nat} {ps0 : List Arg}  : Dr (cfg P eqs N) done (⟨i, ⟨d, (.litTok e0 ps0), none⟩, late⟩ :: rest) ⟨T, h⟩ K = opA (cfg P eqs N) (.litTok e0 ps0) ⟨T, h⟩ (kdraw (cfg P eqs N) done (done.filter fun r => late.contains r.idx) rest T d K) := drawA_eff rfl (fun _ => rfl)
@[go_sem] theorem drawA_litTokG {e0 : Nat} {ps0 : List Arg} {t : Tmp} {w : Bool} : Dr (cfg P eqs N) done (⟨i, ⟨d, (.litTok e0 ps0), (some (t, w))⟩, late⟩ :: rest) ⟨T, h⟩ K = gateA False (T.getD t .undef) w (opA (cfg P eqs N) (.litTok e0 ps0) ⟨T, h⟩ (kdraw (cfg P eqs N) done (done.filter fun r => late.contains r.idx) rest T d K)) (Dr (cfg P eqs N) done rest ⟨putL T d (.tuple []), h⟩ K) := drawA_effG rfl (fun _ => rfl)
@[go_sem] theorem drawA_store {n0 : Nat} {p0 : Arg} {v0 : Arg} {tz0 : List (Nat × Nat)}  : Dr (cfg P eqs N) done (⟨i, ⟨d, (.store n0 p0 v0 tz0), none⟩, late⟩ :: rest) ⟨T, h⟩ K = opA (cfg P eqs N) (.store n0 p0 v0 tz0) ⟨T, h⟩ (kdraw (cfg P eqs N) done (done.filter fun r => late.contains r.idx) rest T d K) := drawA_eff rfl (fun _ => rfl)
@[go_sem] theorem drawA_storeG {n0 : Nat} {p0 : Arg} {v0 : Arg} {tz0 : List (Nat × Nat)} {t : Tmp} {w : Bool} : Dr (cfg P eqs N) done (⟨i, ⟨d, (.store n0 p0 v0 tz0), (some (t, w))⟩, late⟩ :: rest) ⟨T, h⟩ K = gateA False (T.getD t .undef) w (opA (cfg P eqs N) (.store n0 p0 v0 tz0) ⟨T, h⟩ (kdraw (cfg P eqs N) done (done.filter fun r => late.contains r.idx) rest T d K)) (Dr (cfg P eqs N) done rest ⟨putL T d (.tuple []), h⟩ K) := drawA_effG rfl (fun _ => rfl)
@[go_sem] theorem drawA_mkmap   : Dr (cfg P eqs N) done (⟨i, ⟨d, (.mkmap), none⟩, late⟩ :: rest) ⟨T, h⟩ K = opA (cfg P eqs N) (.mkmap) ⟨T, h⟩ (kdraw (cfg P eqs N) done (done.filter fun r => late.contains r.idx) rest T d K) := drawA_eff rfl (fun _ => rfl)
@[go_sem] theorem drawA_mkmapG  {t : Tmp} {w : Bool} : Dr (cfg P eqs N) done (⟨i, ⟨d, (.mkmap), (some (t, w))⟩, late⟩ :: rest) ⟨T, h⟩ K = gateA False (T.getD t .undef) w (opA (cfg P eqs N) (.mkmap) ⟨T, h⟩ (kdraw (cfg P eqs N) done (done.filter fun r => late.contains r.idx) rest T d K)) (Dr (cfg P eqs N) done rest ⟨putL T d (.tuple []), h⟩ K) := drawA_effG rfl (fun _ => rfl)
@[go_sem] theorem drawA_mkslice {e0 : Nat} {z0 : AVal} {l0 : Arg} {c0 : Arg}  : Dr (cfg P eqs N) done (⟨i, ⟨d, (.mkslice e0 z0 l0 c0), none⟩, late⟩ :: rest) ⟨T, h⟩ K = opA (cfg P eqs N) (.mkslice e0 z0 l0 c0) ⟨T, h⟩ (kdraw (cfg P eqs N) done (done.filter fun r => late.contains r.idx) rest T d K) := drawA_eff rfl (fun _ => rfl)
@[go_sem] theorem drawA_mksliceG {e0 : Nat} {z0 : AVal} {l0 : Arg} {c0 : Arg} {t : Tmp} {w : Bool} : Dr (cfg P eqs N) done (⟨i, ⟨d, (.mkslice e0 z0 l0 c0), (some (t, w))⟩, late⟩ :: rest) ⟨T, h⟩ K = gateA False (T.getD t .undef) w (opA (cfg P eqs N) (.mkslice e0 z0 l0 c0) ⟨T, h⟩ (kdraw (cfg P eqs N) done (done.filter fun r => late.contains r.idx) rest T d K)) (Dr (cfg P eqs N) done rest ⟨putL T d (.tuple []), h⟩ K) := drawA_effG rfl (fun _ => rfl)
@[go_sem] theorem drawA_mapset {m0 : Arg} {k0 : Arg} {v0 : Arg}  : Dr (cfg P eqs N) done (⟨i, ⟨d, (.mapset m0 k0 v0), none⟩, late⟩ :: rest) ⟨T, h⟩ K = opA (cfg P eqs N) (.mapset m0 k0 v0) ⟨T, h⟩ (kdraw (cfg P eqs N) done (done.filter fun r => late.contains r.idx) rest T d K) := drawA_eff rfl (fun _ => rfl)
@[go_sem] theorem drawA_mapsetG {m0 : Arg} {k0 : Arg} {v0 : Arg} {t : Tmp} {w : Bool} : Dr (cfg P eqs N) done (⟨i, ⟨d, (.mapset m0 k0 v0), (some (t, w))⟩, late⟩ :: rest) ⟨T, h⟩ K = gateA False (T.getD t .undef) w (opA (cfg P eqs N) (.mapset m0 k0 v0) ⟨T, h⟩ (kdraw (cfg P eqs N) done (done.filter fun r => late.contains r.idx) rest T d K)) (Dr (cfg P eqs N) done rest ⟨putL T d (.tuple []), h⟩ K) := drawA_effG rfl (fun _ => rfl)
@[go_sem] theorem drawA_mapdel {m0 : Arg} {k0 : Arg}  : Dr (cfg P eqs N) done (⟨i, ⟨d, (.mapdel m0 k0), none⟩, late⟩ :: rest) ⟨T, h⟩ K = opA (cfg P eqs N) (.mapdel m0 k0) ⟨T, h⟩ (kdraw (cfg P eqs N) done (done.filter fun r => late.contains r.idx) rest T d K) := drawA_eff rfl (fun _ => rfl)
@[go_sem] theorem drawA_mapdelG {m0 : Arg} {k0 : Arg} {t : Tmp} {w : Bool} : Dr (cfg P eqs N) done (⟨i, ⟨d, (.mapdel m0 k0), (some (t, w))⟩, late⟩ :: rest) ⟨T, h⟩ K = gateA False (T.getD t .undef) w (opA (cfg P eqs N) (.mapdel m0 k0) ⟨T, h⟩ (kdraw (cfg P eqs N) done (done.filter fun r => late.contains r.idx) rest T d K)) (Dr (cfg P eqs N) done rest ⟨putL T d (.tuple []), h⟩ K) := drawA_effG rfl (fun _ => rfl)
@[go_sem] theorem drawA_call {f0 : Arg} {as0 : List Arg}  : Dr (cfg P eqs N) done (⟨i, ⟨d, (.call f0 as0), none⟩, late⟩ :: rest) ⟨T, h⟩ K = opA (cfg P eqs N) (.call f0 as0) ⟨T, h⟩ (kdraw (cfg P eqs N) done (done.filter fun r => late.contains r.idx) rest T d K) := drawA_eff rfl (fun _ => rfl)
@[go_sem] theorem drawA_callG {f0 : Arg} {as0 : List Arg} {t : Tmp} {w : Bool} : Dr (cfg P eqs N) done (⟨i, ⟨d, (.call f0 as0), (some (t, w))⟩, late⟩ :: rest) ⟨T, h⟩ K = gateA False (T.getD t .undef) w (opA (cfg P eqs N) (.call f0 as0) ⟨T, h⟩ (kdraw (cfg P eqs N) done (done.filter fun r => late.contains r.idx) rest T d K)) (Dr (cfg P eqs N) done rest ⟨putL T d (.tuple []), h⟩ K) := drawA_effG rfl (fun _ => rfl)
@[go_sem] theorem drawA_append {own0 : Bool} {e0 : Nat} {d0 : Arg} {s0 : Arg}  : Dr (cfg P eqs N) done (⟨i, ⟨d, (.append own0 e0 d0 s0), none⟩, late⟩ :: rest) ⟨T, h⟩ K = opA (cfg P eqs N) (.append own0 e0 d0 s0) ⟨T, h⟩ (kdraw (cfg P eqs N) done (done.filter fun r => late.contains r.idx) rest T d K) := drawA_eff rfl (fun _ => rfl)
@[go_sem] theorem drawA_appendG {own0 : Bool} {e0 : Nat} {d0 : Arg} {s0 : Arg} {t : Tmp} {w : Bool} : Dr (cfg P eqs N) done (⟨i, ⟨d, (.append own0 e0 d0 s0), (some (t, w))⟩, late⟩ :: rest) ⟨T, h⟩ K = gateA False (T.getD t .undef) w (opA (cfg P eqs N) (.append own0 e0 d0 s0) ⟨T, h⟩ (kdraw (cfg P eqs N) done (done.filter fun r => late.contains r.idx) rest T d K)) (Dr (cfg P eqs N) done rest ⟨putL T d (.tuple []), h⟩ K) := drawA_effG rfl (fun _ => rfl)
@[go_sem] theorem drawA_clear {e0 : Nat} {z0 : AVal} {x0 : Arg}  : Dr (cfg P eqs N) done (⟨i, ⟨d, (.clear e0 z0 x0), none⟩, late⟩ :: rest) ⟨T, h⟩ K = opA (cfg P eqs N) (.clear e0 z0 x0) ⟨T, h⟩ (kdraw (cfg P eqs N) done (done.filter fun r => late.contains r.idx) rest T d K) := drawA_eff rfl (fun _ => rfl)
@[go_sem] theorem drawA_clearG {e0 : Nat} {z0 : AVal} {x0 : Arg} {t : Tmp} {w : Bool} : Dr (cfg P eqs N) done (⟨i, ⟨d, (.clear e0 z0 x0), (some (t, w))⟩, late⟩ :: rest) ⟨T, h⟩ K = gateA False (T.getD t .undef) w (opA (cfg P eqs N) (.clear e0 z0 x0) ⟨T, h⟩ (kdraw (cfg P eqs N) done (done.filter fun r => late.contains r.idx) rest T d K)) (Dr (cfg P eqs N) done rest ⟨putL T d (.tuple []), h⟩ K) := drawA_effG rfl (fun _ => rfl)
@[go_sem] theorem drawA_pstore {size e : Nat} {v : Arg} : Dr (cfg P eqs N) done (⟨i, ⟨d, .pstore size e v, none⟩, late⟩ :: rest) ⟨T, h⟩ K = ifP (storable (St.ev ⟨T, h⟩ v) && (St.ev ⟨T, h⟩ v).cells.length == size && Nat.blt e T.length)
    (lateA (cfg P eqs N) (done.filter fun r => late.contains r.idx) ⟨T.set e (.hp h.length size 0 0), h ++ [.rows size [St.ev ⟨T, h⟩ v]]⟩ (Dr (cfg P eqs N) done rest ⟨T.set e (.hp h.length size 0 0), h ++ [.rows size [St.ev ⟨T, h⟩ v]]⟩ K)) False := by
  simp only [Dr_eq, ifP]; rfl
end
attribute [go_sem] List.filter_cons List.filter_nil Bool.false_eq_true if_false if_true ite_true ite_false true_and and_true

end Go.Ai
