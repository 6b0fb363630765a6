/- Aids for walking: the interpreter over propositions, step by step; loops by an invariant, branches, bounds. -/
import Derived.Test.YtdggbdjpcbiofaaGreatAiSem
namespace Go.Ai
universe u

/-- Keeps simp from taking an equation as one that holds by unfolding alone: each step bears its proof. -/
theorem ofDef {α : Sort u} {a b : α} (h : a = b) : a = b := h

/-- What depends on it keeps simp from turning a branch that is not yet taken. -/
class Tag (x : Prop) : Type where
instance (x : Prop) : Tag x := ⟨⟩

/-- A branch; its own word, so that no rule about 'cond' comes to it. -/
def ifP (c : Bool) (a b : Prop) [Tag a] [Tag b] : Prop := cond c a b

/-- The rest of a walk, as a word that nothing unfolds: the kernel, too, compares it by its parts alone. -/
structure Ex (C : Cfg Prop) (c : ACode) (st : St) (K : AExit → St → Prop) : Prop where
  h : exec C c st K
structure Os (C : Cfg Prop) (ops : List AOper) (st : St) (K : St → Prop) : Prop where
  h : opsA C ops st K
structure Dr (C : Cfg Prop) (done items : List AItem) (st : St) (K : St → Prop) : Prop where
  h : drawA C done items st K
theorem Ex_eq {C : Cfg Prop} {c : ACode} {st : St} {K : AExit → St → Prop} : Ex C c st K = exec C c st K := propext ⟨fun r => r.h, fun h => ⟨h⟩⟩
theorem Os_eq {C : Cfg Prop} {ops : List AOper} {st : St} {K : St → Prop} : Os C ops st K = opsA C ops st K := propext ⟨fun r => r.h, fun h => ⟨h⟩⟩
theorem Dr_eq {C : Cfg Prop} {done items : List AItem} {st : St} {K : St → Prop} : Dr C done items st K = drawA C done items st K := propext ⟨fun r => r.h, fun h => ⟨h⟩⟩
theorem Ex_fun {C : Cfg Prop} {c : ACode} : Ex C c = exec C c := funext fun _ => funext fun _ => Ex_eq

/-! ### What comes behind -/

def kseq (C : Cfg Prop) (b : ACode) (K : AExit → St → Prop) (e : AExit) (st : St) : Prop := match e with
  | .normal => Ex C b st K
  | .exit j => K (.exit j) st
  | .ret => K .ret st
def kblock (id : Nat) (K : AExit → St → Prop) (e : AExit) (st : St) : Prop := match e with
  | .normal => K .normal st
  | .exit j => ifP (j == id) (K .normal st) (K (.exit j) st)
  | .ret => K .ret st
def kfun (C : Cfg Prop) (rs : List (Tmp × Option (Bool × Nat))) (hold : Bool) (n : Nat) (K : AVal → List AObj → Prop) (e : AExit) (st : St) : Prop := match e with
  | .exit _ => C.fail
  | _ => resultsA C.fail rs st fun vs => match hold with
    | true => K (packA vs) st.heap
    | false => K (killA n (packA vs)) ((st.heap.take n).map (killO n))
def kops (C : Cfg Prop) (rest : List AOper) (tmps : List AVal) (d : Option Tmp) (K : St → Prop) (v : AVal) (h : List AObj) : Prop := Os C rest ⟨putL tmps d v, h⟩ K
def kloop (rec : St → Prop) (K : AExit → St → Prop) (e : AExit) (st : St) : Prop := match e with
  | .normal => rec st
  | .exit j => K (.exit j) st
  | .ret => K .ret st
def krange (C : Cfg Prop) (n : Nat) (tmps : List AVal) (K : AExit → St → Prop) (_ : AVal) (h' : List AObj) : Prop := match h'[n]? with
  | some (.loop rd pe _ _ _ _) => match pe with
    | none => ifP rd (K .normal ⟨tmps, (h'.take n).map (killO n)⟩) C.fail
    | some e => K e ⟨tmps, (h'.take n).map (killO n)⟩
  | _ => C.fail
def kdraw (C : Cfg Prop) (done : List AItem) (late : List AItem) (rest : List AItem) (tmps : List AVal) (d : Option Tmp) (K : St → Prop) (v : AVal) (h : List AObj) : Prop :=
  lateA C late ⟨putL tmps d v, h⟩ (Dr C done rest ⟨putL tmps d v, h⟩ K)

def gateA (fail : Prop) (v : AVal) (want : Bool) (run skip : Prop) [Tag run] [Tag skip] : Prop :=
  match v with
  | .bool b => match want with
    | true => ifP b run skip
    | false => ifP b skip run
  | .tuple [] => skip
  | _ => fail
def rowsK (fail : Prop) (x : Option AObj) (K : Nat → List AVal → Prop) : Prop :=
  match x with
  | some (.rows e es) => K e es
  | _ => fail
def tokK (fail : Prop) (x : Option AObj) (K : Nat → Nat → Prop) : Prop :=
  match x with
  | some (.tok e u) => K e u
  | _ => fail
def mapK (fail : Prop) (x : Option AObj) (K : List (Int × AVal) → Prop) : Prop :=
  match x with
  | some (.map es) => K es
  | _ => fail

def lookV (z : AVal) (ok : Bool) (x : Option AVal) : AVal :=
  match x with
  | some v => cond ok (.tuple [v, .bool true]) v
  | none => cond ok (.tuple [z, .bool false]) z
def extK (fail : Prop) (i : Nat) (x : AVal) (K : AVal → Prop) : Prop :=
  match x with
  | .tuple vs => optK fail vs[i]? K
  | _ => fail
def nilcK (fail : Prop) (x : AVal) (K : AVal → Prop) : Prop :=
  match x with
  | .hp b esz i o => K (.hp b esz i o)
  | .fp esz xs i o => K (.fp esz xs i o)
  | _ => fail
def litK (fail : Prop) (esz : Nat) (vs : List AVal) (K : AVal → Prop) : Prop :=
  ifP (partsOk esz vs) (match vs with
    | [] => K .emp
    | _ => K (.fs esz (killL 0 vs) none)) fail

section
variable {C : Cfg Prop}
@[go_sem] theorem exec_skip {st : St} {K : AExit → St → Prop} : Ex C .skip st K = K .normal st := Ex_eq.trans rfl
@[go_sem] theorem exec_label {st : St} {K : AExit → St → Prop} : Ex C .label st K = K .normal st := Ex_eq.trans rfl
@[go_sem] theorem exec_exit {id : Nat} {st : St} {K : AExit → St → Prop} : Ex C (.exit id) st K = K (.exit id) st := Ex_eq.trans rfl
@[go_sem] theorem exec_ret {st : St} {K : AExit → St → Prop} : Ex C .ret st K = K .ret st := Ex_eq.trans rfl
@[go_sem] theorem exec_region {ops : List AOper} {st : St} {K : AExit → St → Prop} : Ex C (.region ops) st K = Os C ops st (K .normal) := Ex_eq.trans (Eq.trans rfl Os_eq.symm)
@[go_sem] theorem exec_draw {items : List AItem} {pre : List (List Nat)} {st : St} {K : AExit → St → Prop} : Ex C (.draw items pre) st K = Dr C [] items st (K .normal) := Ex_eq.trans (Eq.trans rfl Dr_eq.symm)
theorem seq_raw {a b : ACode} {st : St} {K : AExit → St → Prop} : exec C (.seq a b) st K = exec C a st (kseq C b K) :=
  congrArg (exec C a st) (funext fun e => funext fun st' => by cases e <;> first | rfl | exact Ex_eq.symm)
@[go_sem] theorem exec_seq {a b : ACode} {st : St} {K : AExit → St → Prop} : Ex C (.seq a b) st K = Ex C a st (kseq C b K) := Ex_eq.trans (seq_raw.trans Ex_eq.symm)
@[go_sem] theorem exec_cond {c : Arg} {x y : ACode} {st : St} {K : AExit → St → Prop} : Ex C (.cond c x y) st K = asB C.fail (st.ev c) fun t => ifP t (Ex C x st K) (Ex C y st K) := by
  simp only [Ex_eq, ifP]; rfl
@[go_sem] theorem exec_block {id : Nat} {b : ACode} {st : St} {K : AExit → St → Prop} : Ex C (.block id b) st K = Ex C b st (kblock id K) := Ex_eq.trans (Eq.trans (b := exec C b st (kblock id K)) rfl Ex_eq.symm)
@[go_sem] theorem exec_loop {keep : List Tmp} {b : ACode} {st : St} {K : AExit → St → Prop} : Ex C (.loop keep b) st K = loopA C.fail st.heap.length keep (Ex C b) C.N st K := by
  rw [Ex_eq, Ex_fun]; rfl
@[go_sem] theorem exec_range {g : Arg} {ps : List Tmp} {a b : ACode} {st : St} {K : AExit → St → Prop} : Ex C (.rangeFunc g ps a b) st K = C.H (st.ev g) [.yield st.heap.length] (st.heap ++ [.loop true none st.tmps ps a b]) (krange C st.heap.length st.tmps K) := Ex_eq.trans rfl
@[go_sem] theorem kseq_normal {b : ACode} {K : AExit → St → Prop} {st : St} : kseq C b K .normal st = Ex C b st K := ofDef rfl
@[go_sem] theorem kseq_exit {b : ACode} {K : AExit → St → Prop} {j : Nat} {st : St} : kseq C b K (.exit j) st = K (.exit j) st := ofDef rfl
@[go_sem] theorem kseq_ret {b : ACode} {K : AExit → St → Prop} {st : St} : kseq C b K .ret st = K .ret st := ofDef rfl
@[go_sem] theorem kblock_normal {id : Nat} {K : AExit → St → Prop} {st : St} : kblock id K .normal st = K .normal st := ofDef rfl
@[go_sem] theorem kblock_exit {id j : Nat} {K : AExit → St → Prop} {st : St} : kblock id K (.exit j) st = ifP (j == id) (K .normal st) (K (.exit j) st) := ofDef rfl
@[go_sem] theorem kblock_ret {id : Nat} {K : AExit → St → Prop} {st : St} : kblock id K .ret st = K .ret st := ofDef rfl
@[go_sem] theorem kfun_normal {rs : List (Tmp × Option (Bool × Nat))} {hold : Bool} {n : Nat} {K : AVal → List AObj → Prop} {st : St} : kfun C rs hold n K .normal st = resultsA C.fail rs st fun vs => ifP hold (K (packA vs) st.heap) (K (killA n (packA vs)) ((st.heap.take n).map (killO n))) := by
  cases hold <;> rfl
@[go_sem] theorem kfun_ret {rs : List (Tmp × Option (Bool × Nat))} {hold : Bool} {n : Nat} {K : AVal → List AObj → Prop} {st : St} : kfun C rs hold n K .ret st = resultsA C.fail rs st fun vs => ifP hold (K (packA vs) st.heap) (K (killA n (packA vs)) ((st.heap.take n).map (killO n))) := by
  cases hold <;> rfl
@[go_sem] theorem kloop_normal {rec : St → Prop} {K : AExit → St → Prop} {st : St} : kloop rec K .normal st = rec st := ofDef rfl
@[go_sem] theorem kloop_exit {rec : St → Prop} {K : AExit → St → Prop} {j : Nat} {st : St} : kloop rec K (.exit j) st = K (.exit j) st := ofDef rfl
@[go_sem] theorem kloop_ret {rec : St → Prop} {K : AExit → St → Prop} {st : St} : kloop rec K .ret st = K .ret st := ofDef rfl
@[go_sem] theorem kops_eq {rest : List AOper} {tmps : List AVal} {d : Option Tmp} {K : St → Prop} {v : AVal} {h : List AObj} : kops C rest tmps d K v h = Os C rest ⟨putL tmps d v, h⟩ K := ofDef rfl
@[go_sem] theorem kdraw_eq {done late rest : List AItem} {tmps : List AVal} {d : Option Tmp} {K : St → Prop} {v : AVal} {h : List AObj} : kdraw C done late rest tmps d K v h = lateA C late ⟨putL tmps d v, h⟩ (Dr C done rest ⟨putL tmps d v, h⟩ K) := ofDef rfl
@[go_sem] theorem opsA_nil {st : St} {K : St → Prop} : Os C [] st K = K st := Os_eq.trans rfl
theorem kops_raw {rest : List AOper} {tmps : List AVal} {d : Option Tmp} {K : St → Prop} : (fun v h => opsA C rest ⟨putL tmps d v, h⟩ K) = kops C rest tmps d K := funext fun _ => funext fun _ => Os_eq.symm
@[go_sem] theorem opsA_cons {d : Option Tmp} {op : AOp} {rest : List AOper} {st : St} {K : St → Prop} : Os C (⟨d, op, none⟩ :: rest) st K = opA C op st (kops C rest st.tmps d K) := Os_eq.trans (Eq.trans rfl (congrArg (opA C op st) kops_raw))
theorem gate_eq {fail : Prop} {v : AVal} {w : Bool} {x x' y y' : Prop} (hx : x = x') (hy : y = y') : gateA fail v w x y = gateA fail v w x' y' := by subst hx; subst hy; rfl
@[go_sem] theorem opsA_guard {d : Option Tmp} {op : AOp} {g : Tmp} {b : Bool} {rest : List AOper} {st : St} {K : St → Prop} : Os C (⟨d, op, some (g, b)⟩ :: rest) st K =
    gateA C.fail (st.tmps.getD g .undef) b (opA C op st (kops C rest st.tmps d K)) (Os C rest ⟨putL st.tmps d (.tuple []), st.heap⟩ K) :=
  Os_eq.trans (Eq.trans (b := gateA C.fail (st.tmps.getD g .undef) b (opA C op st fun v h => opsA C rest ⟨putL st.tmps d v, h⟩ K) (opsA C rest ⟨putL st.tmps d (.tuple []), st.heap⟩ K)) rfl (gate_eq (congrArg (opA C op st) kops_raw) Os_eq.symm))
end

section
variable {P : Program} {eqs : List TypeId} {N : Nat}
@[go_sem] theorem cfg_fail : (cfg P eqs N).fail = False := ofDef rfl
@[go_sem] theorem cfg_H : (cfg P eqs N).H = Hs P eqs := ofDef rfl
@[go_sem] theorem cfg_N : (cfg P eqs N).N = N := ofDef rfl
@[go_sem] theorem cfg_same {x y : AVal} {k : Prop} : (cfg P eqs N).same x y k = (x = y ∧ k) := ofDef rfl
/-- The walk through a function begins. -/
theorem Hs.enter (EQ : ∀ t, eqs.contains t = true → EqPlain P t) {f : FuncId} {fn : Func} {n0 : Nat} {c : ACode} {rs : List (Tmp × Option (Bool × Nat))} {hold : Bool} {first caps args : List AVal} {heap : List AObj} {K : AVal → List AObj → Prop} (N : Nat) (hfn : P.funcs[f]? = some fn) (hk : chkFunc P eqs fn ⟨n0, c, rs, hold⟩ = true)
    (h : Ex (cfg P eqs N) c ⟨(first ++ args ++ caps) ++ List.replicate (n0 - (first ++ args ++ caps).length) .undef, heap⟩ (kfun (cfg P eqs N) rs hold heap.length K)) : Hs P eqs (.func f first caps) args heap K :=
  Hs.body EQ hfn hk (N := N) h.h
end

section
variable {C : Cfg Prop} {T : List AVal} {h : List AObj} {K : AVal → List AObj → Prop}
@[go_sem] theorem opA_mv {x : Arg} : opA C (.mv x) ⟨T, h⟩ K = K (St.ev ⟨T, h⟩ x) h := ofDef rfl
@[go_sem] theorem opA_set {x : Arg} : opA C (.set x) ⟨T, h⟩ K = K (St.ev ⟨T, h⟩ x) h := ofDef rfl
@[go_sem] theorem opA_tokz {esz : Nat} {x : Arg} : opA C (.tokz esz x) ⟨T, h⟩ K = tokV C.fail [(0, esz)] (St.ev ⟨T, h⟩ x) h K := ofDef rfl
@[go_sem] theorem opA_pick {c a b : Arg} : opA C (.pick c a b) ⟨T, h⟩ K = asB C.fail (St.ev ⟨T, h⟩ c) fun t => ifP t (K (St.ev ⟨T, h⟩ a) h) (K (St.ev ⟨T, h⟩ b) h) := ofDef rfl
@[go_sem] theorem opA_alloc {esz : Nat} {z : AVal} {tz : List (Nat × Nat)} : opA C (.alloc esz z tz) ⟨T, h⟩ K = tokV C.fail tz z h fun z h => K (.hp h.length esz 0 0) (h ++ [.rows esz [z]]) := ofDef rfl
@[go_sem] theorem opA_pend {n : Nat} : opA C (.pend n) ⟨T, h⟩ K = K .undef h := ofDef rfl
@[go_sem] theorem opA_box {x : Arg} {tz : List (Nat × Nat)} : opA C (.box x tz) ⟨T, h⟩ K = ifP (storable (St.ev ⟨T, h⟩ x)) (tokV C.fail tz (St.ev ⟨T, h⟩ x) h fun z h => K (.hp h.length (St.ev ⟨T, h⟩ x).cells.length 0 0) (h ++ [.rows (St.ev ⟨T, h⟩ x).cells.length [z]])) C.fail := ofDef rfl
@[go_sem] theorem opA_build {z : AVal} {parts : List ((Nat × Nat) × Arg)} : opA C (.build z parts) ⟨T, h⟩ K = buildA C.fail (parts.map fun p => (p.1, St.ev ⟨T, h⟩ p.2)) z fun v => K v h := ofDef rfl
@[go_sem] theorem opA_load {agg : Bool} {n : Nat} {p : Arg} : opA C (.load agg n p) ⟨T, h⟩ K = loadA C.fail agg n (St.ev ⟨T, h⟩ p) h fun v => K v h := ofDef rfl
@[go_sem] theorem opA_store {n : Nat} {p v : Arg} {tz : List (Nat × Nat)} : opA C (.store n p v tz) ⟨T, h⟩ K = tokV C.fail tz (St.ev ⟨T, h⟩ v) h fun z h1 => storeA C.fail n (St.ev ⟨T, h⟩ p) z h1 fun h' => K .undef h' := ofDef rfl
@[go_sem] theorem opA_bin {op : BinOp} {ek : Nat} {x y : Arg} : opA C (.bin op ek x y) ⟨T, h⟩ K = binA C.fail op ek (St.ev ⟨T, h⟩ x) (St.ev ⟨T, h⟩ y) fun v => K v h := ofDef rfl
@[go_sem] theorem opA_un {op : UnOp} {x : Arg} : opA C (.un op x) ⟨T, h⟩ K = unA C.fail op (St.ev ⟨T, h⟩ x) fun v => K v h := ofDef rfl
@[go_sem] theorem opA_conv {k : IntKind} {x : Arg} : opA C (.conv k x) ⟨T, h⟩ K = asI C.fail (St.ev ⟨T, h⟩ x) fun _ n => K (.int k (k.wrap n)) h := ofDef rfl
@[go_sem] theorem opA_mkf {f : FuncId} {a c : List Arg} : opA C (.mkf f a c) ⟨T, h⟩ K = K (.func f (a.map (St.ev ⟨T, h⟩)) (c.map (St.ev ⟨T, h⟩))) h := ofDef rfl
@[go_sem] theorem opA_mkmap  : opA C (.mkmap) ⟨T, h⟩ K = K (.map h.length) (h ++ [.map []]) := ofDef rfl
@[go_sem] theorem opA_mkslice {esz : Nat} {z : AVal} {l c : Arg} : opA C (.mkslice esz z l c) ⟨T, h⟩ K = asI C.fail (St.ev ⟨T, h⟩ l) fun _ n => asI C.fail (St.ev ⟨T, h⟩ c) fun _ n' => ifP (decide (0 ≤ n) && decide (n = n') && decide (n ≤ 1048576)) (K (.hs h.length esz 0 n.toNat) (h ++ [.rows esz (List.replicate n.toNat z)])) C.fail := ofDef rfl
@[go_sem] theorem opA_slice {esz : Nat} {x : Arg} {lo hi : Option Arg} : opA C (.slice esz x lo hi) ⟨T, h⟩ K = sliceA C.fail esz (St.ev ⟨T, h⟩ x) (lo.map (St.ev ⟨T, h⟩)) (hi.map (St.ev ⟨T, h⟩)) fun v => K v h := ofDef rfl
@[go_sem] theorem opA_sliceStr {x : Arg} {lo hi : Option Arg} : opA C (.sliceStr x lo hi) ⟨T, h⟩ K = sliceStrA C.fail (St.ev ⟨T, h⟩ x) (lo.map (St.ev ⟨T, h⟩)) (hi.map (St.ev ⟨T, h⟩)) fun v => K v h := ofDef rfl
@[go_sem] theorem opA_addo {o : Nat} {x : Arg} : opA C (.addo o x) ⟨T, h⟩ K = addOff C.fail (St.ev ⟨T, h⟩ x) o fun v => K v h := ofDef rfl
@[go_sem] theorem opA_field {agg : Bool} {n o : Nat} {x : Arg} : opA C (.field agg n o x) ⟨T, h⟩ K = aggA C.fail (St.ev ⟨T, h⟩ x) fun cs => partOf C.fail agg n (.agg cs) o fun v => K v h := ofDef rfl
@[go_sem] theorem opA_idx {esz : Nat} {x i : Arg} : opA C (.idx esz x i) ⟨T, h⟩ K = indexA C.fail esz (St.ev ⟨T, h⟩ x) (St.ev ⟨T, h⟩ i) fun v => K v h := ofDef rfl
@[go_sem] theorem opA_idxArr {len sz : Nat} {x i : Arg} : opA C (.idxArr len sz x i) ⟨T, h⟩ K = indexArrA C.fail len sz (St.ev ⟨T, h⟩ x) (St.ev ⟨T, h⟩ i) fun v => K v h := ofDef rfl
@[go_sem] theorem opA_index {len sz : Nat} {agg : Bool} {x i : Arg} : opA C (.index len sz agg x i) ⟨T, h⟩ K = asI C.fail (St.ev ⟨T, h⟩ i) fun _ n => ifP (inB n len) (aggA C.fail (St.ev ⟨T, h⟩ x) fun cs => partOf C.fail agg sz (.agg cs) (n.toNat * sz) fun v => K v h) C.fail := ofDef rfl
@[go_sem] theorem opA_lookup {z : AVal} {m k : Arg} {ok : Bool} : opA C (.lookup z ok m k) ⟨T, h⟩ K = asI C.fail (St.ev ⟨T, h⟩ k) fun ik n => ifP (decide (ik = .i64)) (withMap C.fail (St.ev ⟨T, h⟩ m) h fun _ es => K (lookV z ok (findA n es)) h) C.fail := by
  simp only [opA, asI, withMap, lookV, ifP]
  repeat' split
  all_goals first | rfl | (rename_i h1 h2; simp_all)
@[go_sem] theorem opA_ext {i : Nat} {x : Arg} : opA C (.ext i x) ⟨T, h⟩ K = extK C.fail i (St.ev ⟨T, h⟩ x) fun v => K v h := by
  simp only [opA]
  generalize St.ev ⟨T, h⟩ x = v
  cases v <;> rfl
@[go_sem] theorem opA_nilc {x : Arg} : opA C (.nilc x) ⟨T, h⟩ K = nilcK C.fail (St.ev ⟨T, h⟩ x) fun v => K v h := by
  cases hv : St.ev ⟨T, h⟩ x <;> simp only [opA, nilcK, hv]
@[go_sem] theorem opA_call {f : Arg} {args : List Arg} : opA C (.call f args) ⟨T, h⟩ K = C.H (St.ev ⟨T, h⟩ f) (args.map (St.ev ⟨T, h⟩)) h K := ofDef rfl
@[go_sem] theorem opA_len {lk : Nat} {x : Arg} : opA C (.len lk x) ⟨T, h⟩ K = lenA C.fail lk (St.ev ⟨T, h⟩ x) h fun n => K (.int .i64 n) h := ofDef rfl
@[go_sem] theorem opA_append {own : Bool} {esz : Nat} {d s : Arg} : opA C (.append own esz d s) ⟨T, h⟩ K = elemsA C.fail esz (St.ev ⟨T, h⟩ s) h fun ys => appendA C.fail own esz (St.ev ⟨T, h⟩ d) ys h K := ofDef rfl
@[go_sem] theorem opA_thaw {x : Arg} : opA C (.thaw x) ⟨T, h⟩ K = thawA C.fail (St.ev ⟨T, h⟩ x) h K := ofDef rfl
@[go_sem] theorem opA_thawLoad {p : Arg} : opA C (.thawLoad p) ⟨T, h⟩ K = loadA C.fail false 1 (St.ev ⟨T, h⟩ p) h fun v => thawA C.fail v h K := ofDef rfl
@[go_sem] theorem opA_freeze {x : Arg} : opA C (.freeze x) ⟨T, h⟩ K = freezeA C.fail (St.ev ⟨T, h⟩ x) h K := ofDef rfl
@[go_sem] theorem opA_minmax {mx : Bool} {a b : Arg} : opA C (.minmax mx a b) ⟨T, h⟩ K = minmaxA C.fail mx (St.ev ⟨T, h⟩ a) (St.ev ⟨T, h⟩ b) fun v => K v h := ofDef rfl
@[go_sem] theorem opA_lit {esz : Nat} {ps : List Arg} : opA C (.lit esz ps) ⟨T, h⟩ K = litK C.fail esz (ps.map (St.ev ⟨T, h⟩)) fun v => K v h := by
  cases ps <;> rfl
@[go_sem] theorem opA_mapset {m k v : Arg} : opA C (.mapset m k v) ⟨T, h⟩ K = asI C.fail (St.ev ⟨T, h⟩ k) fun ik n => ifP (decide (ik = .i64) && storable (St.ev ⟨T, h⟩ v)) (withMap C.fail (St.ev ⟨T, h⟩ m) h fun b es => K .undef (h.set b (.map (updA n (St.ev ⟨T, h⟩ v) es)))) C.fail := ofDef rfl
@[go_sem] theorem opA_mapdel {m k : Arg} : opA C (.mapdel m k) ⟨T, h⟩ K = asI C.fail (St.ev ⟨T, h⟩ k) fun ik n => ifP (decide (ik = .i64)) (withMap C.fail (St.ev ⟨T, h⟩ m) h fun b es => K (.tuple []) (h.set b (.map (delA n es)))) C.fail := ofDef rfl
end

/-! ### The parts of an operation, at values that are there -/

def slotK (fail : Prop) (x : Option AVal) (k : Prop) : Prop :=
  match x with
  | some .nils => k
  | some .emp => k
  | _ => fail
def growK (fail : Prop) (x : Option AObj) (K : Nat → List AVal → Prop) : Prop :=
  match x with
  | some (.grow e es) => K e es
  | _ => fail
def thawK (fail : Prop) (x : Option AObj) (K1 K2 : Nat → List AVal → Prop) : Prop :=
  match x with
  | some (.grow e es) => K1 e es
  | some (.rows e es) => K2 e es
  | _ => fail
def optB (fail : Prop) (x : Option Bool) (K : Bool → Prop) : Prop :=
  match x with
  | some b => K b
  | none => fail

section
variable {fail : Prop}
@[go_sem] theorem slotK_nils {k : Prop} : slotK fail (some .nils) k = k := ofDef rfl
@[go_sem] theorem slotK_emp {k : Prop} : slotK fail (some .emp) k = k := ofDef rfl
@[go_sem] theorem optB_some {b : Bool} {K : Bool → Prop} : optB fail (some b) K = K b := ofDef rfl
@[go_sem] theorem asI_int {k : IntKind} {n : Int} {K : IntKind → Int → Prop} : asI fail (.int k n) K = K k n := ofDef rfl
@[go_sem] theorem asB_bool {b : Bool} {K : Bool → Prop} : asB fail (.bool b) K = K b := ofDef rfl
@[go_sem] theorem aggA_agg {cs : List AVal} {K : List AVal → Prop} : aggA fail (.agg cs) K = K cs := ofDef rfl
@[go_sem] theorem partOf_agg {n o : Nat} {cs : List AVal} {K : AVal → Prop} : partOf fail true n (.agg cs) o K = ifP (Nat.ble (o + n) cs.length) (K (.agg ((cs.drop o).take n))) fail := ofDef rfl
@[go_sem] theorem partOf_cell {n o : Nat} {cs : List AVal} {K : AVal → Prop} : partOf fail false n (.agg cs) o K = optK fail cs[o]? K := by
  simp only [partOf, optK] <;> rfl
@[go_sem] theorem partOf_bool {n o : Nat} {b0 : Bool} {K : AVal → Prop} : partOf fail false n (.bool b0) o K = ifP (o == 0) (K (.bool b0)) fail := ofDef rfl
@[go_sem] theorem stor_bool {b0 : Bool} : storable (.bool b0) = true := ofDef rfl
@[go_sem] theorem cells_bool {b0 : Bool} : AVal.cells (.bool b0) = [.bool b0] := ofDef rfl
@[go_sem] theorem putPart_bool {n o : Nat} {b0 : Bool} {v : AVal} {K : AVal → Prop} : putPart fail n (.bool b0) o v K = ifP (storable v && v.cells.length == n) (ifP (o == 0 && n == 1) (K v) fail) fail := ofDef rfl
@[go_sem] theorem partOf_int {n o : Nat} {k0 : IntKind} {n0 : Int} {K : AVal → Prop} : partOf fail false n (.int k0 n0) o K = ifP (o == 0) (K (.int k0 n0)) fail := ofDef rfl
@[go_sem] theorem stor_int {k0 : IntKind} {n0 : Int} : storable (.int k0 n0) = true := ofDef rfl
@[go_sem] theorem cells_int {k0 : IntKind} {n0 : Int} : AVal.cells (.int k0 n0) = [.int k0 n0] := ofDef rfl
@[go_sem] theorem putPart_int {n o : Nat} {k0 : IntKind} {n0 : Int} {v : AVal} {K : AVal → Prop} : putPart fail n (.int k0 n0) o v K = ifP (storable v && v.cells.length == n) (ifP (o == 0 && n == 1) (K v) fail) fail := ofDef rfl
@[go_sem] theorem partOf_str {n o : Nat} {s0 : ByteArray} {K : AVal → Prop} : partOf fail false n (.str s0) o K = ifP (o == 0) (K (.str s0)) fail := ofDef rfl
@[go_sem] theorem stor_str {s0 : ByteArray} : storable (.str s0) = true := ofDef rfl
@[go_sem] theorem cells_str {s0 : ByteArray} : AVal.cells (.str s0) = [.str s0] := ofDef rfl
@[go_sem] theorem putPart_str {n o : Nat} {s0 : ByteArray} {v : AVal} {K : AVal → Prop} : putPart fail n (.str s0) o v K = ifP (storable v && v.cells.length == n) (ifP (o == 0 && n == 1) (K v) fail) fail := ofDef rfl
@[go_sem] theorem partOf_nilp {n o : Nat}  {K : AVal → Prop} : partOf fail false n (.nilp ) o K = ifP (o == 0) (K (.nilp )) fail := ofDef rfl
@[go_sem] theorem stor_nilp  : storable (.nilp ) = true := ofDef rfl
@[go_sem] theorem cells_nilp  : AVal.cells (.nilp ) = [.nilp ] := ofDef rfl
@[go_sem] theorem putPart_nilp {n o : Nat}  {v : AVal} {K : AVal → Prop} : putPart fail n (.nilp ) o v K = ifP (storable v && v.cells.length == n) (ifP (o == 0 && n == 1) (K v) fail) fail := ofDef rfl
@[go_sem] theorem partOf_hp {n o : Nat} {b0 : Nat} {e0 : Nat} {i0 : Nat} {o0 : Nat} {K : AVal → Prop} : partOf fail false n (.hp b0 e0 i0 o0) o K = ifP (o == 0) (K (.hp b0 e0 i0 o0)) fail := ofDef rfl
@[go_sem] theorem stor_hp {b0 : Nat} {e0 : Nat} {i0 : Nat} {o0 : Nat} : storable (.hp b0 e0 i0 o0) = true := ofDef rfl
@[go_sem] theorem cells_hp {b0 : Nat} {e0 : Nat} {i0 : Nat} {o0 : Nat} : AVal.cells (.hp b0 e0 i0 o0) = [.hp b0 e0 i0 o0] := ofDef rfl
@[go_sem] theorem putPart_hp {n o : Nat} {b0 : Nat} {e0 : Nat} {i0 : Nat} {o0 : Nat} {v : AVal} {K : AVal → Prop} : putPart fail n (.hp b0 e0 i0 o0) o v K = ifP (storable v && v.cells.length == n) (ifP (o == 0 && n == 1) (K v) fail) fail := ofDef rfl
@[go_sem] theorem partOf_fp {n o : Nat} {e0 : Nat} {xs0 : List AVal} {i0 : Nat} {o0 : Nat} {K : AVal → Prop} : partOf fail false n (.fp e0 xs0 i0 o0) o K = ifP (o == 0) (K (.fp e0 xs0 i0 o0)) fail := ofDef rfl
@[go_sem] theorem stor_fp {e0 : Nat} {xs0 : List AVal} {i0 : Nat} {o0 : Nat} : storable (.fp e0 xs0 i0 o0) = true := ofDef rfl
@[go_sem] theorem cells_fp {e0 : Nat} {xs0 : List AVal} {i0 : Nat} {o0 : Nat} : AVal.cells (.fp e0 xs0 i0 o0) = [.fp e0 xs0 i0 o0] := ofDef rfl
@[go_sem] theorem putPart_fp {n o : Nat} {e0 : Nat} {xs0 : List AVal} {i0 : Nat} {o0 : Nat} {v : AVal} {K : AVal → Prop} : putPart fail n (.fp e0 xs0 i0 o0) o v K = ifP (storable v && v.cells.length == n) (ifP (o == 0 && n == 1) (K v) fail) fail := ofDef rfl
@[go_sem] theorem partOf_nils {n o : Nat}  {K : AVal → Prop} : partOf fail false n (.nils ) o K = ifP (o == 0) (K (.nils )) fail := ofDef rfl
@[go_sem] theorem stor_nils  : storable (.nils ) = true := ofDef rfl
@[go_sem] theorem cells_nils  : AVal.cells (.nils ) = [.nils ] := ofDef rfl
@[go_sem] theorem putPart_nils {n o : Nat}  {v : AVal} {K : AVal → Prop} : putPart fail n (.nils ) o v K = ifP (storable v && v.cells.length == n) (ifP (o == 0 && n == 1) (K v) fail) fail := ofDef rfl
@[go_sem] theorem partOf_emp {n o : Nat}  {K : AVal → Prop} : partOf fail false n (.emp ) o K = ifP (o == 0) (K (.emp )) fail := ofDef rfl
@[go_sem] theorem stor_emp  : storable (.emp ) = true := ofDef rfl
@[go_sem] theorem cells_emp  : AVal.cells (.emp ) = [.emp ] := ofDef rfl
@[go_sem] theorem putPart_emp {n o : Nat}  {v : AVal} {K : AVal → Prop} : putPart fail n (.emp ) o v K = ifP (storable v && v.cells.length == n) (ifP (o == 0 && n == 1) (K v) fail) fail := ofDef rfl
@[go_sem] theorem partOf_fs {n o : Nat} {e0 : Nat} {xs0 : List AVal} {t0 : Option Nat} {K : AVal → Prop} : partOf fail false n (.fs e0 xs0 t0) o K = ifP (o == 0) (K (.fs e0 xs0 t0)) fail := ofDef rfl
@[go_sem] theorem stor_fs {e0 : Nat} {xs0 : List AVal} {t0 : Option Nat} : storable (.fs e0 xs0 t0) = true := ofDef rfl
@[go_sem] theorem cells_fs {e0 : Nat} {xs0 : List AVal} {t0 : Option Nat} : AVal.cells (.fs e0 xs0 t0) = [.fs e0 xs0 t0] := ofDef rfl
@[go_sem] theorem putPart_fs {n o : Nat} {e0 : Nat} {xs0 : List AVal} {t0 : Option Nat} {v : AVal} {K : AVal → Prop} : putPart fail n (.fs e0 xs0 t0) o v K = ifP (storable v && v.cells.length == n) (ifP (o == 0 && n == 1) (K v) fail) fail := ofDef rfl
@[go_sem] theorem partOf_hs {n o : Nat} {b0 : Nat} {e0 : Nat} {i0 : Nat} {n0 : Nat} {K : AVal → Prop} : partOf fail false n (.hs b0 e0 i0 n0) o K = ifP (o == 0) (K (.hs b0 e0 i0 n0)) fail := ofDef rfl
@[go_sem] theorem stor_hs {b0 : Nat} {e0 : Nat} {i0 : Nat} {n0 : Nat} : storable (.hs b0 e0 i0 n0) = true := ofDef rfl
@[go_sem] theorem cells_hs {b0 : Nat} {e0 : Nat} {i0 : Nat} {n0 : Nat} : AVal.cells (.hs b0 e0 i0 n0) = [.hs b0 e0 i0 n0] := ofDef rfl
@[go_sem] theorem putPart_hs {n o : Nat} {b0 : Nat} {e0 : Nat} {i0 : Nat} {n0 : Nat} {v : AVal} {K : AVal → Prop} : putPart fail n (.hs b0 e0 i0 n0) o v K = ifP (storable v && v.cells.length == n) (ifP (o == 0 && n == 1) (K v) fail) fail := ofDef rfl
@[go_sem] theorem partOf_gs {n o : Nat} {b0 : Nat} {e0 : Nat} {n0 : Nat} {K : AVal → Prop} : partOf fail false n (.gs b0 e0 n0) o K = ifP (o == 0) (K (.gs b0 e0 n0)) fail := ofDef rfl
@[go_sem] theorem stor_gs {b0 : Nat} {e0 : Nat} {n0 : Nat} : storable (.gs b0 e0 n0) = true := ofDef rfl
@[go_sem] theorem cells_gs {b0 : Nat} {e0 : Nat} {n0 : Nat} : AVal.cells (.gs b0 e0 n0) = [.gs b0 e0 n0] := ofDef rfl
@[go_sem] theorem putPart_gs {n o : Nat} {b0 : Nat} {e0 : Nat} {n0 : Nat} {v : AVal} {K : AVal → Prop} : putPart fail n (.gs b0 e0 n0) o v K = ifP (storable v && v.cells.length == n) (ifP (o == 0 && n == 1) (K v) fail) fail := ofDef rfl
@[go_sem] theorem partOf_nilm {n o : Nat}  {K : AVal → Prop} : partOf fail false n (.nilm ) o K = ifP (o == 0) (K (.nilm )) fail := ofDef rfl
@[go_sem] theorem stor_nilm  : storable (.nilm ) = true := ofDef rfl
@[go_sem] theorem cells_nilm  : AVal.cells (.nilm ) = [.nilm ] := ofDef rfl
@[go_sem] theorem putPart_nilm {n o : Nat}  {v : AVal} {K : AVal → Prop} : putPart fail n (.nilm ) o v K = ifP (storable v && v.cells.length == n) (ifP (o == 0 && n == 1) (K v) fail) fail := ofDef rfl
@[go_sem] theorem partOf_map {n o : Nat} {b0 : Nat} {K : AVal → Prop} : partOf fail false n (.map b0) o K = ifP (o == 0) (K (.map b0)) fail := ofDef rfl
@[go_sem] theorem stor_map {b0 : Nat} : storable (.map b0) = true := ofDef rfl
@[go_sem] theorem cells_map {b0 : Nat} : AVal.cells (.map b0) = [.map b0] := ofDef rfl
@[go_sem] theorem putPart_map {n o : Nat} {b0 : Nat} {v : AVal} {K : AVal → Prop} : putPart fail n (.map b0) o v K = ifP (storable v && v.cells.length == n) (ifP (o == 0 && n == 1) (K v) fail) fail := ofDef rfl
@[go_sem] theorem partOf_nilf {n o : Nat}  {K : AVal → Prop} : partOf fail false n (.nilf ) o K = ifP (o == 0) (K (.nilf )) fail := ofDef rfl
@[go_sem] theorem stor_nilf  : storable (.nilf ) = true := ofDef rfl
@[go_sem] theorem cells_nilf  : AVal.cells (.nilf ) = [.nilf ] := ofDef rfl
@[go_sem] theorem putPart_nilf {n o : Nat}  {v : AVal} {K : AVal → Prop} : putPart fail n (.nilf ) o v K = ifP (storable v && v.cells.length == n) (ifP (o == 0 && n == 1) (K v) fail) fail := ofDef rfl
@[go_sem] theorem partOf_func {n o : Nat} {f0 : FuncId} {a0 : List AVal} {c0 : List AVal} {K : AVal → Prop} : partOf fail false n (.func f0 a0 c0) o K = ifP (o == 0) (K (.func f0 a0 c0)) fail := ofDef rfl
@[go_sem] theorem stor_func {f0 : FuncId} {a0 : List AVal} {c0 : List AVal} : storable (.func f0 a0 c0) = true := ofDef rfl
@[go_sem] theorem cells_func {f0 : FuncId} {a0 : List AVal} {c0 : List AVal} : AVal.cells (.func f0 a0 c0) = [.func f0 a0 c0] := ofDef rfl
@[go_sem] theorem putPart_func {n o : Nat} {f0 : FuncId} {a0 : List AVal} {c0 : List AVal} {v : AVal} {K : AVal → Prop} : putPart fail n (.func f0 a0 c0) o v K = ifP (storable v && v.cells.length == n) (ifP (o == 0 && n == 1) (K v) fail) fail := ofDef rfl
@[go_sem] theorem partOf_yield {n o : Nat} {l0 : Nat} {K : AVal → Prop} : partOf fail false n (.yield l0) o K = ifP (o == 0) (K (.yield l0)) fail := ofDef rfl
@[go_sem] theorem stor_yield {l0 : Nat} : storable (.yield l0) = true := ofDef rfl
@[go_sem] theorem cells_yield {l0 : Nat} : AVal.cells (.yield l0) = [.yield l0] := ofDef rfl
@[go_sem] theorem putPart_yield {n o : Nat} {l0 : Nat} {v : AVal} {K : AVal → Prop} : putPart fail n (.yield l0) o v K = ifP (storable v && v.cells.length == n) (ifP (o == 0 && n == 1) (K v) fail) fail := ofDef rfl
@[go_sem] theorem stor_agg {cs : List AVal} : storable (.agg cs) = true := ofDef rfl
@[go_sem] theorem cells_agg {cs : List AVal} : AVal.cells (.agg cs) = cs := ofDef rfl
@[go_sem] theorem optK_some {v : AVal} {K : AVal → Prop} : optK fail (some v) K = K v := ofDef rfl
@[go_sem] theorem rowsK_some {e : Nat} {es : List AVal} {K : Nat → List AVal → Prop} : rowsK fail (some (.rows e es)) K = K e es := ofDef rfl
@[go_sem] theorem tokK_some {e u : Nat} {K : Nat → Nat → Prop} : tokK fail (some (.tok e u)) K = K e u := ofDef rfl
@[go_sem] theorem mapK_some {es : List (Int × AVal)} {K : List (Int × AVal) → Prop} : mapK fail (some (.map es)) K = K es := ofDef rfl
@[go_sem] theorem extK_tuple {i : Nat} {vs : List AVal} {K : AVal → Prop} : extK fail i (.tuple vs) K = optK fail vs[i]? K := ofDef rfl
@[go_sem] theorem nilcK_hp {b e i o : Nat} {K : AVal → Prop} : nilcK fail (.hp b e i o) K = K (.hp b e i o) := ofDef rfl
@[go_sem] theorem nilcK_fp {e i o : Nat} {xs : List AVal} {K : AVal → Prop} : nilcK fail (.fp e xs i o) K = K (.fp e xs i o) := ofDef rfl
@[go_sem] theorem litK_nil {e : Nat} {K : AVal → Prop} : litK fail e [] K = K .emp := ofDef rfl
@[go_sem] theorem litK_cons {e : Nat} {v : AVal} {vs : List AVal} {K : AVal → Prop} : litK fail e (v :: vs) K = ifP (partsOk e (v :: vs)) (K (.fs e (killL 0 (v :: vs)) none)) fail := ofDef rfl
@[go_sem] theorem partsOk_nil {e : Nat} : partsOk e [] = true := ofDef rfl
@[go_sem] theorem partsOk_cons {e : Nat} {v : AVal} {vs : List AVal} : partsOk e (v :: vs) = (storable v && v.cells.length == e && partsOk e vs) := ofDef rfl
@[go_sem] theorem loadA_hp {agg : Bool} {n b e i o : Nat} {h : List AObj} {K : AVal → Prop} : loadA fail agg n (.hp b e i o) h K = rowsK fail h[b]? fun e' es => ifP (e == e') (optK fail es[i]? fun x => partOf fail agg n x o K) fail := by
  simp only [loadA, rowsK, optK] <;> rfl
@[go_sem] theorem loadA_fp {agg : Bool} {n e i o : Nat} {xs : List AVal} {h : List AObj} {K : AVal → Prop} : loadA fail agg n (.fp e xs i o) h K = optK fail xs[i]? fun x => partOf fail agg n x o K := by
  simp only [loadA, optK] <;> rfl
@[go_sem] theorem storeA_hp {n b e i o : Nat} {v : AVal} {h : List AObj} {K : List AObj → Prop} : storeA fail n (.hp b e i o) v h K = rowsK fail h[b]? fun e' es => ifP (e == e') (optK fail es[i]? fun x => putPart fail n x o v fun x' => K (h.set b (.rows e' (es.set i x')))) fail := by
  simp only [storeA, rowsK, optK] <;> rfl
@[go_sem] theorem putPart_agg {n o : Nat} {cs : List AVal} {v : AVal} {K : AVal → Prop} : putPart fail n (.agg cs) o v K = ifP (storable v && v.cells.length == n) (ifP (Nat.ble (o + n) cs.length) (K (.agg (spliceL cs o v.cells))) fail) fail := ofDef rfl
@[go_sem] theorem spliceL_eq {cs vs : List AVal} {o : Nat} : spliceL cs o vs = cs.take o ++ vs ++ cs.drop (o + vs.length) := ofDef rfl
@[go_sem] theorem addOff_hp {b e i o o1 : Nat} {K : AVal → Prop} : addOff fail (.hp b e i o) o1 K = K (.hp b e i (o + o1)) := ofDef rfl
@[go_sem] theorem addOff_fp {e i o o1 : Nat} {xs : List AVal} {K : AVal → Prop} : addOff fail (.fp e xs i o) o1 K = K (.fp e xs i (o + o1)) := ofDef rfl
@[go_sem] theorem inB_nat {i n : Nat} : inB (i : Int) n = decide (i < n) := by
  simp only [inB]; rw [Bool.eq_iff_iff]; simp
@[go_sem] theorem indexA_fs {e e1 : Nat} {xs : List AVal} {t : Option Nat} {k : IntKind} {n : Int} {K : AVal → Prop} : indexA fail e (.fs e1 xs t) (.int k n) K = ifP (e1 == e && inB n xs.length) (K (.fp e1 xs n.toNat 0)) fail := ofDef rfl
@[go_sem] theorem indexA_hs {e e1 b i len : Nat} {k : IntKind} {n : Int} {K : AVal → Prop} : indexA fail e (.hs b e1 i len) (.int k n) K = ifP (e1 == e && inB n len) (K (.hp b e1 (i + n.toNat) 0)) fail := ofDef rfl
@[go_sem] theorem indexArrA_hp {len sz b e i o : Nat} {k : IntKind} {n : Int} {K : AVal → Prop} : indexArrA fail len sz (.hp b e i o) (.int k n) K = ifP (inB n len) (K (.hp b e i (o + n.toNat * sz))) fail := ofDef rfl
@[go_sem] theorem indexArrA_fp {len sz e i o : Nat} {xs : List AVal} {k : IntKind} {n : Int} {K : AVal → Prop} : indexArrA fail len sz (.fp e xs i o) (.int k n) K = ifP (inB n len) (K (.fp e xs i (o + n.toNat * sz))) fail := ofDef rfl
@[go_sem] theorem lenA_fs {e : Nat} {xs : List AVal} {t : Option Nat} {h : List AObj} {K : Nat → Prop} : lenA fail 0 (.fs e xs t) h K = K xs.length := ofDef rfl
@[go_sem] theorem lenA_nils {h : List AObj} {K : Nat → Prop} : lenA fail 0 .nils h K = K 0 := ofDef rfl
@[go_sem] theorem lenA_emp {h : List AObj} {K : Nat → Prop} : lenA fail 0 .emp h K = K 0 := ofDef rfl
@[go_sem] theorem lenA_hs {b e i n : Nat} {h : List AObj} {K : Nat → Prop} : lenA fail 0 (.hs b e i n) h K = K n := ofDef rfl
@[go_sem] theorem lenA_gs {b e n : Nat} {h : List AObj} {K : Nat → Prop} : lenA fail 0 (.gs b e n) h K = K n := ofDef rfl
@[go_sem] theorem lenA_str {s : ByteArray} {h : List AObj} {K : Nat → Prop} : lenA fail 1 (.str s) h K = K s.size := ofDef rfl
@[go_sem] theorem elemsA_fs {e e1 : Nat} {xs : List AVal} {t : Option Nat} {h : List AObj} {K : List AVal → Prop} : elemsA fail e (.fs e1 xs t) h K = ifP (e1 == e) (K xs) fail := ofDef rfl
@[go_sem] theorem elemsA_nils {e : Nat} {h : List AObj} {K : List AVal → Prop} : elemsA fail e .nils h K = K [] := ofDef rfl
@[go_sem] theorem elemsA_emp {e : Nat} {h : List AObj} {K : List AVal → Prop} : elemsA fail e .emp h K = K [] := ofDef rfl
@[go_sem] theorem appendA_nils {e : Nat} {ys : List AVal} {h : List AObj} {K : AVal → List AObj → Prop} : appendA fail false e .nils ys h K = ifP (Nat.ble ys.length appLim) (K (.fs e ys (some h.length)) (h ++ [.tok e ys.length])) fail := ofDef rfl
@[go_sem] theorem appendA_nils_own {e : Nat} {ys : List AVal} {h : List AObj} {K : AVal → List AObj → Prop} : appendA fail true e .nils ys h K = ifP (Nat.ble ys.length appLim) (ifP (Nat.ble 1 ys.length) (K (.hs h.length e 0 ys.length) (h ++ [.rows e ys])) (K .nils h)) fail := ofDef rfl
@[go_sem] theorem appendA_emp {e : Nat} {ys : List AVal} {h : List AObj} {K : AVal → List AObj → Prop} : appendA fail false e .emp ys h K = ifP (Nat.ble ys.length appLim) (K (.fs e ys (some h.length)) (h ++ [.tok e ys.length])) fail := ofDef rfl
@[go_sem] theorem appendA_emp_own {e : Nat} {ys : List AVal} {h : List AObj} {K : AVal → List AObj → Prop} : appendA fail true e .emp ys h K = ifP (Nat.ble ys.length appLim) (ifP (Nat.ble 1 ys.length) (K (.hs h.length e 0 ys.length) (h ++ [.rows e ys])) (K .emp h)) fail := ofDef rfl
@[go_sem] theorem appendA_fs {own : Bool} {e e1 b : Nat} {xs ys : List AVal} {h : List AObj} {K : AVal → List AObj → Prop} : appendA fail own e (.fs e1 xs (some b)) ys h K = ifP (e1 == e) (tokK fail h[b]? fun e2 u => ifP (e2 == e && u == xs.length && Nat.ble (xs.length + ys.length) appLim) (K (.fs e1 (xs ++ ys) (some b)) (h.set b (.tok e2 (xs.length + ys.length)))) fail) fail := by
  simp only [appendA, tokK] <;> rfl
@[go_sem] theorem growK_some {e : Nat} {es : List AVal} {K : Nat → List AVal → Prop} : growK fail (some (.grow e es)) K = K e es := ofDef rfl
@[go_sem] theorem appendA_gs {own : Bool} {e e1 b n : Nat} {ys : List AVal} {h : List AObj} {K : AVal → List AObj → Prop} : appendA fail own e (.gs b e1 n) ys h K = ifP (e1 == e) (growK fail h[b]? fun e2 es => ifP (e2 == e && es.length == n && Nat.ble (n + ys.length) appLim) (K (.gs b e1 (n + ys.length)) (h.set b (.grow e2 (es ++ ys)))) fail) fail := by
  simp only [appendA, growK] <;> rfl
@[go_sem] theorem thawA_zero {b e : Nat} {h : List AObj} {K : AVal → List AObj → Prop} : thawA fail (.gs b e 0) h K = K (.fs e [] none) h := ofDef rfl
@[go_sem] theorem thawA_succ {b e n : Nat} {h : List AObj} {K : AVal → List AObj → Prop} : thawA fail (.gs b e (n + 1)) h K = thawK fail h[b]? (fun e1 es => ifP (e1 == e && es.length == n + 1) (K (.hs b e 0 (n + 1)) (h.set b (.rows e es))) fail) (fun e1 es => ifP (e1 == e && es.length == n + 1) (K (.hs b e 0 (n + 1)) h) fail) := by
  simp only [thawA, thawK] <;> rfl
@[go_sem] theorem thawK_grow {e : Nat} {es : List AVal} {K1 K2 : Nat → List AVal → Prop} : thawK fail (some (.grow e es)) K1 K2 = K1 e es := ofDef rfl
@[go_sem] theorem thawK_rows {e : Nat} {es : List AVal} {K1 K2 : Nat → List AVal → Prop} : thawK fail (some (.rows e es)) K1 K2 = K2 e es := ofDef rfl
@[go_sem] theorem thawA_fs {e : Nat} {xs : List AVal} {h : List AObj} {K : AVal → List AObj → Prop} : thawA fail (.fs e xs none) h K = K (.fs e xs none) h := ofDef rfl
@[go_sem] theorem thawA_nils {h : List AObj} {K : AVal → List AObj → Prop} : thawA fail .nils h K = K .nils h := ofDef rfl
@[go_sem] theorem thawA_emp {h : List AObj} {K : AVal → List AObj → Prop} : thawA fail .emp h K = K .emp h := ofDef rfl
@[go_sem] theorem freezeA_hs {b e i n : Nat} {h : List AObj} {K : AVal → List AObj → Prop} : freezeA fail (.hs b e i n) h K = rowsK fail h[b]? fun e1 es => ifP (e1 == e && Nat.ble (i + n) es.length) (K (.fs e (killL 0 ((es.drop i).take n)) none) (h.set b .dead)) fail := by
  simp only [freezeA, rowsK] <;> rfl
@[go_sem] theorem freezeA_gs {b e n : Nat} {h : List AObj} {K : AVal → List AObj → Prop} : freezeA fail (.gs b e n) h K = growK fail h[b]? fun e1 es => ifP (e1 == e && es.length == n) (K (.fs e (killL 0 es) none) (h.set b .dead)) fail := by
  simp only [freezeA, growK] <;> rfl
@[go_sem] theorem freezeA_fs {e : Nat} {xs : List AVal} {h : List AObj} {K : AVal → List AObj → Prop} : freezeA fail (.fs e xs none) h K = K (.fs e xs none) h := ofDef rfl
@[go_sem] theorem freezeA_nils {h : List AObj} {K : AVal → List AObj → Prop} : freezeA fail .nils h K = K .nils h := ofDef rfl
@[go_sem] theorem freezeA_emp {h : List AObj} {K : AVal → List AObj → Prop} : freezeA fail .emp h K = K .emp h := ofDef rfl
@[go_sem] theorem boundA_none {d : Nat} {K : Nat → Prop} : boundA fail none d K = K d := ofDef rfl
@[go_sem] theorem boundA_int {k : IntKind} {n : Int} {d : Nat} {K : Nat → Prop} : boundA fail (some (.int k n)) d K = ifP (decide (0 ≤ n)) (K n.toNat) fail := ofDef rfl
@[go_sem] theorem sliceA_fs {e e1 : Nat} {xs : List AVal} {t : Option Nat} {lo hi : Option AVal} {K : AVal → Prop} : sliceA fail e (.fs e1 xs t) lo hi K = boundA fail lo 0 fun l => boundA fail hi xs.length fun h => ifP (e1 == e && Nat.ble l h && Nat.ble h xs.length) (K (.fs e1 ((xs.take h).drop l) none)) fail := ofDef rfl
@[go_sem] theorem sliceA_hs {e e1 b i len : Nat} {lo hi : Option AVal} {K : AVal → Prop} : sliceA fail e (.hs b e1 i len) lo hi K = boundA fail lo 0 fun l => boundA fail hi len fun h => ifP (e1 == e && Nat.ble l h && Nat.ble h len) (K (.hs b e1 (i + l) (h - l))) fail := ofDef rfl
@[go_sem] theorem sliceStrA_str {s : ByteArray} {lo hi : Option AVal} {K : AVal → Prop} : sliceStrA fail (.str s) lo hi K = boundA fail lo 0 fun l => boundA fail hi s.size fun h => ifP (Nat.ble l h && Nat.ble h s.size) (K (.str (s.extract l h))) fail := ofDef rfl
@[go_sem] theorem tokV_nil {v : AVal} {h : List AObj} {K : AVal → List AObj → Prop} : tokV fail [] v h K = K v h := ofDef rfl
@[go_sem] theorem tokV_nils {e : Nat} {h : List AObj} {K : AVal → List AObj → Prop} : tokV fail [(0, e)] .nils h K = K (newV e h.length) (h ++ [newO e]) := ofDef rfl
@[go_sem] theorem tokV_emp {e : Nat} {h : List AObj} {K : AVal → List AObj → Prop} : tokV fail [(0, e)] .emp h K = K (newV e h.length) (h ++ [newO e]) := ofDef rfl
@[go_sem] theorem tokV_agg {p : Nat × Nat} {tz : List (Nat × Nat)} {cs : List AVal} {h : List AObj} {K : AVal → List AObj → Prop} : tokV fail (p :: tz) (.agg cs) h K = tokC fail (p :: tz) cs h fun cs' h' => K (.agg cs') h' := ofDef rfl
@[go_sem] theorem tokC_nil {cs : List AVal} {h : List AObj} {K : List AVal → List AObj → Prop} : tokC fail [] cs h K = K cs h := ofDef rfl
@[go_sem] theorem tokC_cons {o e : Nat} {tz : List (Nat × Nat)} {cs : List AVal} {h : List AObj} {K : List AVal → List AObj → Prop} : tokC fail ((o, e) :: tz) cs h K = slotK fail cs[o]? (tokC fail tz (cs.set o (newV e h.length)) (h ++ [newO e]) K) := by
  simp only [tokC, slotK] <;> rfl
@[go_sem] theorem binA_add {ek : Nat} {k : IntKind} {a b : Int} {K : AVal → Prop} : binA fail .add ek (.int k a) (.int k b) K = K (.int k (k.wrap (a + b))) := by
  simp only [binA, decide_true, cond_true] <;> rfl
@[go_sem] theorem binA_sub {ek : Nat} {k : IntKind} {a b : Int} {K : AVal → Prop} : binA fail .sub ek (.int k a) (.int k b) K = K (.int k (k.wrap (a - b))) := by
  simp only [binA, decide_true, cond_true] <;> rfl
@[go_sem] theorem binA_mul {ek : Nat} {k : IntKind} {a b : Int} {K : AVal → Prop} : binA fail .mul ek (.int k a) (.int k b) K = K (.int k (k.wrap (a * b))) := by
  simp only [binA, decide_true, cond_true] <;> rfl
@[go_sem] theorem binA_and {ek : Nat} {k : IntKind} {a b : Int} {K : AVal → Prop} : binA fail .and ek (.int k a) (.int k b) K = K (.int k (k.wrap (BitVec.ofInt k.bits a &&& BitVec.ofInt k.bits b).toNat)) := by
  simp only [binA, decide_true, cond_true] <;> rfl
@[go_sem] theorem binA_or {ek : Nat} {k : IntKind} {a b : Int} {K : AVal → Prop} : binA fail .or ek (.int k a) (.int k b) K = K (.int k (k.wrap (BitVec.ofInt k.bits a ||| BitVec.ofInt k.bits b).toNat)) := by
  simp only [binA, decide_true, cond_true] <;> rfl
@[go_sem] theorem binA_xor {ek : Nat} {k : IntKind} {a b : Int} {K : AVal → Prop} : binA fail .xor ek (.int k a) (.int k b) K = K (.int k (k.wrap (BitVec.ofInt k.bits a ^^^ BitVec.ofInt k.bits b).toNat)) := by
  simp only [binA, decide_true, cond_true] <;> rfl
@[go_sem] theorem binA_andNot {ek : Nat} {k : IntKind} {a b : Int} {K : AVal → Prop} : binA fail .andNot ek (.int k a) (.int k b) K = K (.int k (k.wrap (BitVec.ofInt k.bits a &&& ~~~(BitVec.ofInt k.bits b)).toNat)) := by
  simp only [binA, decide_true, cond_true] <;> rfl
@[go_sem] theorem binA_quo {ek : Nat} {k : IntKind} {a b : Int} {K : AVal → Prop} : binA fail .quo ek (.int k a) (.int k b) K = ifP (!decide (b = 0)) (K (.int k (k.wrap (a.tdiv b)))) fail := by
  simp only [binA, decide_true, Bool.true_and] <;> rfl
@[go_sem] theorem binA_rem {ek : Nat} {k : IntKind} {a b : Int} {K : AVal → Prop} : binA fail .rem ek (.int k a) (.int k b) K = ifP (!decide (b = 0)) (K (.int k (a.tmod b))) fail := by
  simp only [binA, decide_true, Bool.true_and] <;> rfl
@[go_sem] theorem binA_shl {ek : Nat} {k k1 : IntKind} {a b : Int} {K : AVal → Prop} : binA fail .shl ek (.int k a) (.int k1 b) K = ifP (decide (0 ≤ b)) (K (.int k (k.wrap (a * 2 ^ (min b.toNat k.bits))))) fail := ofDef rfl
@[go_sem] theorem binA_shr {ek : Nat} {k k1 : IntKind} {a b : Int} {K : AVal → Prop} : binA fail .shr ek (.int k a) (.int k1 b) K = ifP (decide (0 ≤ b)) (K (.int k (a.fdiv (2 ^ (min b.toNat k.bits))))) fail := ofDef rfl
@[go_sem] theorem binA_eql {ek : Nat} {k : IntKind} {a b : Int} {K : AVal → Prop} : binA fail .eql ek (.int k a) (.int k b) K = K (.bool (decide (a = b))) := by
  simp only [binA, decide_true, cond_true] <;> rfl
@[go_sem] theorem binA_neq {ek : Nat} {k : IntKind} {a b : Int} {K : AVal → Prop} : binA fail .neq ek (.int k a) (.int k b) K = K (.bool ((!decide (a = b)))) := by
  simp only [binA, decide_true, cond_true] <;> rfl
@[go_sem] theorem binA_lss {ek : Nat} {k : IntKind} {a b : Int} {K : AVal → Prop} : binA fail .lss ek (.int k a) (.int k b) K = K (.bool (decide (a < b))) := by
  simp only [binA, decide_true, cond_true] <;> rfl
@[go_sem] theorem binA_leq {ek : Nat} {k : IntKind} {a b : Int} {K : AVal → Prop} : binA fail .leq ek (.int k a) (.int k b) K = K (.bool (decide (a ≤ b))) := by
  simp only [binA, decide_true, cond_true] <;> rfl
@[go_sem] theorem binA_gtr {ek : Nat} {k : IntKind} {a b : Int} {K : AVal → Prop} : binA fail .gtr ek (.int k a) (.int k b) K = K (.bool (decide (a > b))) := by
  simp only [binA, decide_true, cond_true] <;> rfl
@[go_sem] theorem binA_geq {ek : Nat} {k : IntKind} {a b : Int} {K : AVal → Prop} : binA fail .geq ek (.int k a) (.int k b) K = K (.bool (decide (a ≥ b))) := by
  simp only [binA, decide_true, cond_true] <;> rfl
@[go_sem] theorem binS_eql {ek : Nat} {a b : ByteArray} {K : AVal → Prop} : binA fail .eql ek (.str a) (.str b) K = K (.bool (strEq a b)) := ofDef rfl
@[go_sem] theorem binS_neq {ek : Nat} {a b : ByteArray} {K : AVal → Prop} : binA fail .neq ek (.str a) (.str b) K = K (.bool ((!strEq a b))) := ofDef rfl
@[go_sem] theorem binS_lss {ek : Nat} {a b : ByteArray} {K : AVal → Prop} : binA fail .lss ek (.str a) (.str b) K = K (.bool (strLt a b)) := ofDef rfl
@[go_sem] theorem binB_eql {a b : Bool} {K : AVal → Prop} : binA fail .eql 1 (.bool a) (.bool b) K = K (.bool ((a == b))) := ofDef rfl
@[go_sem] theorem binB_neq {a b : Bool} {K : AVal → Prop} : binA fail .neq 1 (.bool a) (.bool b) K = K (.bool ((!(a == b)))) := ofDef rfl
@[go_sem] theorem binG_eql {ek : Nat} {xs ys : List AVal} {K : AVal → Prop} : binA fail .eql ek (.agg xs) (.agg ys) K = eqlA fail ek (.agg xs) (.agg ys) fun b => K (.bool (b)) := ofDef rfl
@[go_sem] theorem binG_neq {ek : Nat} {xs ys : List AVal} {K : AVal → Prop} : binA fail .neq ek (.agg xs) (.agg ys) K = eqlA fail ek (.agg xs) (.agg ys) fun b => K (.bool (!b)) := ofDef rfl
@[go_sem] theorem eqlA_agg {n : Nat} {xs ys : List AVal} {K : Bool → Prop} : eqlA fail (n + 6) (.agg xs) (.agg ys) K = ifP (codeOf xs == n) (optB fail (plainEqs xs ys) K) fail := by
  simp only [eqlA, optB] <;> rfl
@[go_sem] theorem unA_not {b : Bool} {K : AVal → Prop} : unA fail .not (.bool b) K = K (.bool (!b)) := ofDef rfl
@[go_sem] theorem unA_neg {k : IntKind} {n : Int} {K : AVal → Prop} : unA fail .neg (.int k n) K = K (.int k (k.wrap (0 - n))) := ofDef rfl
@[go_sem] theorem buildA_nil {z : AVal} {K : AVal → Prop} : buildA fail [] z K = K z := ofDef rfl
@[go_sem] theorem buildA_cons {o n : Nat} {v : AVal} {rest : List ((Nat × Nat) × AVal)} {cs : List AVal} {K : AVal → Prop} : buildA fail (((o, n), v) :: rest) (.agg cs) K = ifP (storable v && v.cells.length == n && Nat.ble (o + n) cs.length) (buildA fail rest (.agg (spliceL cs o v.cells)) K) fail := ofDef rfl
@[go_sem] theorem withMap_map {b : Nat} {h : List AObj} {K : Nat → List (Int × AVal) → Prop} : withMap fail (.map b) h K = mapK fail h[b]? fun es => K b es := by
  simp only [withMap, mapK] <;> rfl
@[go_sem] theorem minmaxA_int {mx : Bool} {k : IntKind} {a b : Int} {K : AVal → Prop} : minmaxA fail mx (.int k a) (.int k b) K = K (.int k (cond mx (cond (decide (b > a)) b a) (cond (decide (b < a)) b a))) := by
  simp only [minmaxA, decide_true, cond_true] <;> rfl
@[go_sem] theorem gateA_true {b : Bool} {x y : Prop} {tx : Tag x} {ty : Tag y} : @gateA fail (.bool b) true x y tx ty = @ifP b x y tx ty := ofDef rfl
@[go_sem] theorem gateA_false {b : Bool} {x y : Prop} {tx : Tag x} {ty : Tag y} : @gateA fail (.bool b) false x y tx ty = @ifP b y x ty tx := ofDef rfl
@[go_sem] theorem gateA_skip {b : Bool} {x y : Prop} {tx : Tag x} {ty : Tag y} : @gateA fail (.tuple []) b x y tx ty = y := ofDef rfl
@[go_sem] theorem resultsA_nil {st : St} {K : List AVal → Prop} : resultsA fail [] st K = K [] := ofDef rfl
@[go_sem] theorem resultsA_tmp {t : Tmp} {rs : List (Tmp × Option (Bool × Nat))} {st : St} {K : List AVal → Prop} : resultsA fail ((t, none) :: rs) st K = resultsA fail rs st fun vs => K (st.tmps.getD t .undef :: vs) := ofDef rfl
@[go_sem] theorem resultsA_cell {t n : Nat} {agg : Bool} {rs : List (Tmp × Option (Bool × Nat))} {st : St} {K : List AVal → Prop} : resultsA fail ((t, some (agg, n)) :: rs) st K = loadA fail agg n (st.tmps.getD t .undef) st.heap fun v => resultsA fail rs st fun vs => K (v :: vs) := ofDef rfl
@[go_sem] theorem packA_one {v : AVal} : packA [v] = v := ofDef rfl
@[go_sem] theorem packA_nil  : packA [] = .tuple [] := ofDef rfl
@[go_sem] theorem packA_two {v w : AVal} {vs : List AVal} : packA (v :: w :: vs) = .tuple (v :: w :: vs) := ofDef rfl
@[go_sem] theorem ev_t {T : List AVal} {h : List AObj} {n : Nat} : St.ev ⟨T, h⟩ (.t n) = T.getD n .undef := ofDef rfl
@[go_sem] theorem ev_c {st : St} {v : AVal} : St.ev st (.c v) = v := ofDef rfl
@[go_sem] theorem putL_some {T : List AVal} {d : Nat} {v : AVal} : putL T (some d) v = T.set d v := ofDef rfl
@[go_sem] theorem putL_none {T : List AVal} {v : AVal} : putL T none v = T := ofDef rfl
end

attribute [go_sem] List.set_cons_succ List.set_cons_zero List.append_nil List.nil_append List.cons_append List.length_cons List.length_nil List.replicate_succ List.replicate_zero Nat.reduceAdd Nat.reduceSub List.getD_cons_succ List.getD_cons_zero
  List.map_cons List.map_nil List.getElem?_cons_succ List.getElem?_cons_zero List.take_succ_cons List.take_zero List.drop_succ_cons List.drop_zero List.length_map List.getElem?_map Option.map_some Option.map_none
  Nat.reduceBEq beq_self_eq_true Bool.true_and Bool.and_true Bool.false_and Bool.and_false Int.toNat_natCast Bool.not_true Bool.not_false decide_true decide_false List.take_nil List.drop_nil Nat.reduceLeDiff
attribute [go_sem] codeOf plainEqs plainEq newV newO growLim
@[go_sem] theorem ifP_t {a b : Prop} {ta : Tag a} {tb : Tag b} : @ifP true a b ta tb = a := ofDef rfl
@[go_sem] theorem ifP_f {a b : Prop} {ta : Tag a} {tb : Tag b} : @ifP false a b ta tb = b := ofDef rfl
@[go_sem] theorem cond_t {α : Sort u} {a b : α} : cond true a b = a := ofDef rfl
@[go_sem] theorem cond_f {α : Sort u} {a b : α} : cond false a b = b := ofDef rfl
section
variable {n : Nat}
@[go_sem] theorem ble_eq {a b : Nat} : Nat.ble a b = decide (a ≤ b) := by rw [Bool.eq_iff_iff]; simp
@[go_sem] theorem blt_eq {a b : Nat} : Nat.blt a b = decide (a < b) := by rw [Bool.eq_iff_iff]; simp [Nat.blt]; omega
@[go_sem] theorem kill_undef : killA n .undef = .undef := ofDef rfl
@[go_sem] theorem kill_bool {b : Bool} : killA n (.bool b) = .bool b := ofDef rfl
@[go_sem] theorem kill_int {k : IntKind} {m : Int} : killA n (.int k m) = .int k m := ofDef rfl
@[go_sem] theorem kill_str {s : ByteArray} : killA n (.str s) = .str s := ofDef rfl
@[go_sem] theorem kill_nilp : killA n .nilp = .nilp := ofDef rfl
@[go_sem] theorem kill_hp {b e i o : Nat} : killA n (.hp b e i o) = cond (decide (b < n)) (.hp b e i o) .undef := by rw [← blt_eq]; rfl
@[go_sem] theorem kill_fp {e i o : Nat} {xs : List AVal} : killA n (.fp e xs i o) = .fp e xs i o := ofDef rfl
@[go_sem] theorem kill_nils : killA n .nils = .nils := ofDef rfl
@[go_sem] theorem kill_emp : killA n .emp = .emp := ofDef rfl
@[go_sem] theorem kill_fs {e : Nat} {xs : List AVal} : killA n (.fs e xs none) = .fs e xs none := ofDef rfl
@[go_sem] theorem kill_fst {e b : Nat} {xs : List AVal} : killA n (.fs e xs (some b)) = cond (decide (b < n)) (.fs e xs (some b)) (.fs e xs none) := by rw [← blt_eq]; rfl
@[go_sem] theorem kill_hs {b e i l : Nat} : killA n (.hs b e i l) = cond (decide (b < n)) (.hs b e i l) .undef := by rw [← blt_eq]; rfl
@[go_sem] theorem kill_gs {b e m : Nat} : killA n (.gs b e m) = cond (decide (b < n)) (.gs b e m) .undef := by rw [← blt_eq]; rfl
@[go_sem] theorem kill_nilm : killA n .nilm = .nilm := ofDef rfl
@[go_sem] theorem kill_map {b : Nat} : killA n (.map b) = cond (decide (b < n)) (.map b) .undef := by rw [← blt_eq]; rfl
@[go_sem] theorem kill_nilf : killA n .nilf = .nilf := ofDef rfl
@[go_sem] theorem kill_func {f : FuncId} {a c : List AVal} : killA n (.func f a c) = .func f (killL n a) (killL n c) := ofDef rfl
@[go_sem] theorem kill_yield {b : Nat} : killA n (.yield b) = cond (decide (b < n)) (.yield b) .undef := by rw [← blt_eq]; rfl
@[go_sem] theorem kill_agg {cs : List AVal} : killA n (.agg cs) = .agg (killL n cs) := ofDef rfl
@[go_sem] theorem kill_tuple {cs : List AVal} : killA n (.tuple cs) = .tuple (killL n cs) := ofDef rfl
@[go_sem] theorem kill_nil : killL n [] = [] := ofDef rfl
@[go_sem] theorem kill_cons {v : AVal} {l : List AVal} : killL n (v :: l) = killA n v :: killL n l := ofDef rfl
@[go_sem] theorem kill_rows {e : Nat} {es : List AVal} : killO n (.rows e es) = .rows e (killL n es) := ofDef rfl
@[go_sem] theorem kill_tok {e u : Nat} : killO n (.tok e u) = .tok e u := ofDef rfl
@[go_sem] theorem kill_grow {e : Nat} {es : List AVal} : killO n (.grow e es) = .grow e (killL n es) := ofDef rfl
@[go_sem] theorem kill_mapo {es : List (Int × AVal)} : killO n (.map es) = .map (es.map fun p => (p.1, killA n p.2)) := ofDef rfl
@[go_sem] theorem kill_loop {r : Bool} {pe : Option AExit} {ts : List AVal} {ps : List Tmp} {a b : ACode} : killO n (.loop r pe ts ps a b) = .loop r pe (killL n ts) ps a b := ofDef rfl
@[go_sem] theorem kill_dead : killO n .dead = .dead := ofDef rfl
@[go_sem] theorem head_eq {keep : List Tmp} {T : List AVal} {h : List AObj} : St.head n keep ⟨T, h⟩ = ⟨keepL n keep 0 T, (h.take n).map (killO n)⟩ := ofDef rfl
@[go_sem] theorem keepL_nil {keep : List Tmp} {i : Nat} : keepL n keep i [] = [] := ofDef rfl
@[go_sem] theorem keepL_cons {keep : List Tmp} {i : Nat} {v : AVal} {l : List AVal} : keepL n keep i (v :: l) = cond (keep.contains i) (killA n v) .undef :: keepL n keep (i + 1) l := ofDef rfl
end
attribute [go_sem] List.contains_cons List.contains_nil Bool.or_false Bool.or_true Bool.false_or Bool.true_or List.foldl_cons List.foldl_nil Nat.reduceLT Nat.zero_le Nat.le_refl List.length_append Nat.zero_add Nat.add_zero

/-- Temporaries: those that are named; the others are not known. -/
def tm (n : Nat) (l : List (Nat × AVal)) : List AVal := l.foldl (fun ts p => ts.set p.1 p.2) (List.replicate n .undef)
attribute [go_sem] tm

/-! ### simp does not look at what comes behind -/

section
variable {fail : Prop}
@[congr] theorem ifP_cg {x y : Prop} {tx : Tag x} {ty : Tag y} {c c' : Bool} (hc : c = c') : @ifP c x y tx ty = @ifP c' x y tx ty := by
  subst hc; rfl
@[congr] theorem asI_cg {K : IntKind → Int → Prop} {x x' : AVal} (hx : x = x') : asI fail x K = asI fail x' K := by
  subst hx; rfl
@[congr] theorem asB_cg {K : Bool → Prop} {x x' : AVal} (hx : x = x') : asB fail x K = asB fail x' K := by
  subst hx; rfl
@[congr] theorem aggA_cg {K : List AVal → Prop} {x x' : AVal} (hx : x = x') : aggA fail x K = aggA fail x' K := by
  subst hx; rfl
@[congr] theorem partOf_cg {agg : Bool} {n : Nat} {K : AVal → Prop} {x x' : AVal} {o o' : Nat} (hx : x = x') (ho : o = o') : partOf fail agg n x o K = partOf fail agg n x' o' K := by
  subst hx; subst ho; rfl
@[congr] theorem optK_cg {K : AVal → Prop} {x x' : Option AVal} (hx : x = x') : optK fail x K = optK fail x' K := by
  subst hx; rfl
@[congr] theorem optB_cg {K : Bool → Prop} {x x' : Option Bool} (hx : x = x') : optB fail x K = optB fail x' K := by
  subst hx; rfl
@[congr] theorem rowsK_cg {K : Nat → List AVal → Prop} {x x' : Option AObj} (hx : x = x') : rowsK fail x K = rowsK fail x' K := by
  subst hx; rfl
@[congr] theorem tokK_cg {K : Nat → Nat → Prop} {x x' : Option AObj} (hx : x = x') : tokK fail x K = tokK fail x' K := by
  subst hx; rfl
@[congr] theorem growK_cg {K : Nat → List AVal → Prop} {x x' : Option AObj} (hx : x = x') : growK fail x K = growK fail x' K := by
  subst hx; rfl
@[congr] theorem thawK_cg {K1 K2 : Nat → List AVal → Prop} {x x' : Option AObj} (hx : x = x') : thawK fail x K1 K2 = thawK fail x' K1 K2 := by
  subst hx; rfl
@[congr] theorem thawA_cg {K : AVal → List AObj → Prop} {v v' : AVal} {h h' : List AObj} (hv : v = v') (hh : h = h') : thawA fail v h K = thawA fail v' h' K := by
  subst hv; subst hh; rfl
@[congr] theorem freezeA_cg {K : AVal → List AObj → Prop} {v v' : AVal} {h h' : List AObj} (hv : v = v') (hh : h = h') : freezeA fail v h K = freezeA fail v' h' K := by
  subst hv; subst hh; rfl
@[congr] theorem mapK_cg {K : List (Int × AVal) → Prop} {x x' : Option AObj} (hx : x = x') : mapK fail x K = mapK fail x' K := by
  subst hx; rfl
@[congr] theorem extK_cg {i : Nat} {K : AVal → Prop} {x x' : AVal} (hx : x = x') : extK fail i x K = extK fail i x' K := by
  subst hx; rfl
@[congr] theorem nilcK_cg {K : AVal → Prop} {x x' : AVal} (hx : x = x') : nilcK fail x K = nilcK fail x' K := by
  subst hx; rfl
@[congr] theorem litK_cg {e : Nat} {K : AVal → Prop} {x x' : List AVal} (hx : x = x') : litK fail e x K = litK fail e x' K := by
  subst hx; rfl
@[congr] theorem slotK_cg {k : Prop} {x x' : Option AVal} (hx : x = x') : slotK fail x k = slotK fail x' k := by
  subst hx; rfl
@[congr] theorem loadA_cg {agg : Bool} {n : Nat} {K : AVal → Prop} {p p' : AVal} {h h' : List AObj} (hp : p = p') (hh : h = h') : loadA fail agg n p h K = loadA fail agg n p' h' K := by
  subst hp; subst hh; rfl
@[congr] theorem storeA_cg {n : Nat} {K : List AObj → Prop} {p p' : AVal} {v v' : AVal} {h h' : List AObj} (hp : p = p') (hv : v = v') (hh : h = h') : storeA fail n p v h K = storeA fail n p' v' h' K := by
  subst hp; subst hv; subst hh; rfl
@[congr] theorem putPart_cg {n : Nat} {K : AVal → Prop} {x x' : AVal} {o o' : Nat} {v v' : AVal} (hx : x = x') (ho : o = o') (hv : v = v') : putPart fail n x o v K = putPart fail n x' o' v' K := by
  subst hx; subst ho; subst hv; rfl
@[congr] theorem addOff_cg {o : Nat} {K : AVal → Prop} {x x' : AVal} (hx : x = x') : addOff fail x o K = addOff fail x' o K := by
  subst hx; rfl
@[congr] theorem indexA_cg {e : Nat} {K : AVal → Prop} {x x' : AVal} {i i' : AVal} (hx : x = x') (hi : i = i') : indexA fail e x i K = indexA fail e x' i' K := by
  subst hx; subst hi; rfl
@[congr] theorem indexArrA_cg {l e : Nat} {K : AVal → Prop} {x x' : AVal} {i i' : AVal} (hx : x = x') (hi : i = i') : indexArrA fail l e x i K = indexArrA fail l e x' i' K := by
  subst hx; subst hi; rfl
@[congr] theorem lenA_cg {k : Nat} {K : Nat → Prop} {x x' : AVal} {h h' : List AObj} (hx : x = x') (hh : h = h') : lenA fail k x h K = lenA fail k x' h' K := by
  subst hx; subst hh; rfl
@[congr] theorem elemsA_cg {e : Nat} {K : List AVal → Prop} {x x' : AVal} {h h' : List AObj} (hx : x = x') (hh : h = h') : elemsA fail e x h K = elemsA fail e x' h' K := by
  subst hx; subst hh; rfl
@[congr] theorem appendA_cg {own : Bool} {e : Nat} {K : AVal → List AObj → Prop} {d d' : AVal} {ys ys' : List AVal} {h h' : List AObj} (hd : d = d') (hys : ys = ys') (hh : h = h') : appendA fail own e d ys h K = appendA fail own e d' ys' h' K := by
  subst hd; subst hys; subst hh; rfl
@[congr] theorem boundA_cg {K : Nat → Prop} {x x' : Option AVal} {d d' : Nat} (hx : x = x') (hd : d = d') : boundA fail x d K = boundA fail x' d' K := by
  subst hx; subst hd; rfl
@[congr] theorem sliceA_cg {e : Nat} {K : AVal → Prop} {x x' : AVal} {lo lo' : Option AVal} {hi hi' : Option AVal} (hx : x = x') (hlo : lo = lo') (hhi : hi = hi') : sliceA fail e x lo hi K = sliceA fail e x' lo' hi' K := by
  subst hx; subst hlo; subst hhi; rfl
@[congr] theorem sliceStrA_cg {K : AVal → Prop} {x x' : AVal} {lo lo' : Option AVal} {hi hi' : Option AVal} (hx : x = x') (hlo : lo = lo') (hhi : hi = hi') : sliceStrA fail x lo hi K = sliceStrA fail x' lo' hi' K := by
  subst hx; subst hlo; subst hhi; rfl
@[congr] theorem eqlA_cg {e : Nat} {K : Bool → Prop} {x x' : AVal} {y y' : AVal} (hx : x = x') (hy : y = y') : eqlA fail e x y K = eqlA fail e x' y' K := by
  subst hx; subst hy; rfl
@[congr] theorem binA_cg {op : BinOp} {e : Nat} {K : AVal → Prop} {x x' : AVal} {y y' : AVal} (hx : x = x') (hy : y = y') : binA fail op e x y K = binA fail op e x' y' K := by
  subst hx; subst hy; rfl
@[congr] theorem unA_cg {op : UnOp} {K : AVal → Prop} {x x' : AVal} (hx : x = x') : unA fail op x K = unA fail op x' K := by
  subst hx; rfl
@[congr] theorem buildA_cg {K : AVal → Prop} {ps ps' : List ((Nat × Nat) × AVal)} {z z' : AVal} (hps : ps = ps') (hz : z = z') : buildA fail ps z K = buildA fail ps' z' K := by
  subst hps; subst hz; rfl
@[congr] theorem withMap_cg {K : Nat → List (Int × AVal) → Prop} {m m' : AVal} {h h' : List AObj} (hm : m = m') (hh : h = h') : withMap fail m h K = withMap fail m' h' K := by
  subst hm; subst hh; rfl
@[congr] theorem minmaxA_cg {mx : Bool} {K : AVal → Prop} {x x' : AVal} {y y' : AVal} (hx : x = x') (hy : y = y') : minmaxA fail mx x y K = minmaxA fail mx x' y' K := by
  subst hx; subst hy; rfl
@[congr] theorem tokC_cg {tz : List (Nat × Nat)} {K : List AVal → List AObj → Prop} {cs cs' : List AVal} {h h' : List AObj} (hcs : cs = cs') (hh : h = h') : tokC fail tz cs h K = tokC fail tz cs' h' K := by
  subst hcs; subst hh; rfl
@[congr] theorem tokV_cg {tz : List (Nat × Nat)} {K : AVal → List AObj → Prop} {v v' : AVal} {h h' : List AObj} (hv : v = v') (hh : h = h') : tokV fail tz v h K = tokV fail tz v' h' K := by
  subst hv; subst hh; rfl
@[congr] theorem gateA_cg {b : Bool} {x y : Prop} {tx : Tag x} {ty : Tag y} {v v' : AVal} (hv : v = v') : @gateA fail v b x y tx ty = @gateA fail v' b x y tx ty := by
  subst hv; rfl
@[congr] theorem resultsA_cg {rs : List (Tmp × Option (Bool × Nat))} {K : List AVal → Prop} {st st' : St} (hst : st = st') : resultsA fail rs st K = resultsA fail rs st' K := by
  subst hst; rfl
@[congr] theorem loopA_cg {n N : Nat} {keep : List Tmp} {X : St → (AExit → St → Prop) → Prop} {K : AExit → St → Prop} {st st' : St} (hst : st = st') : loopA fail n keep X N st K = loopA fail n keep X N st' K := by
  subst hst; rfl
@[congr] theorem opA_cg {C : Cfg Prop} {op : AOp} {K : AVal → List AObj → Prop} {st st' : St} (hst : st = st') : opA C op st K = opA C op st' K := by
  subst hst; rfl
@[congr] theorem Os_cg {C : Cfg Prop} {ops : List AOper} {K : St → Prop} {st st' : St} (hst : st = st') : Os C ops st K = Os C ops st' K := by
  subst hst; rfl
@[congr] theorem Dr_cg {C : Cfg Prop} {done items : List AItem} {K : St → Prop} {st st' : St} (hst : st = st') : Dr C done items st K = Dr C done items st' K := by
  subst hst; rfl
@[congr] theorem Ex_cg {C : Cfg Prop} {c : ACode} {K : AExit → St → Prop} {st st' : St} (hst : st = st') : Ex C c st K = Ex C c st' K := by
  subst hst; rfl
@[congr] theorem Hs_cg {P : Program} {eqs : List TypeId} {K : AVal → List AObj → Prop} {g g' : AVal} {args args' : List AVal} {h h' : List AObj} (hg : g = g') (hargs : args = args') (hh : h = h') : Hs P eqs g args h K = Hs P eqs g' args' h' K := by
  subst hg; subst hargs; subst hh; rfl
@[congr] theorem kseq_cg {C : Cfg Prop} {K : AExit → St → Prop} {b : ACode} {e e' : AExit} {s s' : St} (he : e = e') (hs : s = s') : kseq C b K e s = kseq C b K e' s' := by
  subst he; subst hs; rfl
@[congr] theorem kblock_cg {i : Nat} {K : AExit → St → Prop} {e e' : AExit} {s s' : St} (he : e = e') (hs : s = s') : kblock i K e s = kblock i K e' s' := by
  subst he; subst hs; rfl
@[congr] theorem kloop_cg {X : St → Prop} {K : AExit → St → Prop} {e e' : AExit} {s s' : St} (he : e = e') (hs : s = s') : kloop X K e s = kloop X K e' s' := by
  subst he; subst hs; rfl
@[congr] theorem kfun_cg {C : Cfg Prop} {rs : List (Tmp × Option (Bool × Nat))} {hold : Bool} {n : Nat} {K : AVal → List AObj → Prop} {e e' : AExit} {s s' : St} (he : e = e') (hs : s = s') : kfun C rs hold n K e s = kfun C rs hold n K e' s' := by
  subst he; subst hs; rfl
@[congr] theorem krange_cg {C : Cfg Prop} {K : AExit → St → Prop} {n : Nat} {T : List AVal} {v v' : AVal} {h h' : List AObj} (hv : v = v') (hh : h = h') : krange C n T K v h = krange C n T K v' h' := by
  subst hv; subst hh; rfl
@[congr] theorem kops_cg {C : Cfg Prop} {r : List AOper} {T : List AVal} {d : Option Tmp} {K : St → Prop} {v v' : AVal} {h h' : List AObj} (hv : v = v') (hh : h = h') : kops C r T d K v h = kops C r T d K v' h' := by
  subst hv; subst hh; rfl
@[congr] theorem kdraw_cg {C : Cfg Prop} {x y r : List AItem} {T : List AVal} {d : Option Tmp} {K : St → Prop} {v v' : AVal} {h h' : List AObj} (hv : v = v') (hh : h = h') : kdraw C x y r T d K v h = kdraw C x y r T d K v' h' := by
  subst hv; subst hh; rfl
@[congr] theorem lateA_cg {C : Cfg Prop} {k : Prop} {l l' : List AItem} {s s' : St} (hl : l = l') (hs : s = s') : lateA C l s k = lateA C l' s' k := by
  subst hl; subst hs; rfl
end

/-! ### Loops, branches, bounds -/

theorem loop_rule {fail : Prop} {n : Nat} {keep : List Tmp} {B : St → (AExit → St → Prop) → Prop} {K : AExit → St → Prop} (I : Nat → St → Prop)
    (step : ∀ (m : Nat) (st : St) (rec : St → Prop), I m (st.head n keep) → (∀ m' st', m' < m → I m' (st'.head n keep) → rec st') → B (st.head n keep) (kloop rec K)) :
    ∀ {N m : Nat} {st : St}, m < N → I m (st.head n keep) → loopA fail n keep B N st K := by
  intro N
  induction N with
  | zero => intro m st h; omega
  | succ N ih =>
    intro m st h hI
    exact step m st (fun st' => loopA fail n keep B N st' K) hI fun m' st' hlt hI' => ih (by omega) hI'

theorem branch {c : Bool} {A B : Prop} {ta : Tag A} {tb : Tag B} (h1 : c = true → A) (h2 : c = false → B) : @ifP c A B ta tb := by
  cases c with
  | true => exact h1 rfl
  | false => exact h2 rfl

theorem go_left {c : Bool} {A B : Prop} {ta : Tag A} {tb : Tag B} (h : c = true) (h1 : A) : @ifP c A B ta tb := by subst h; exact h1
theorem go_right {c : Bool} {A B : Prop} {ta : Tag A} {tb : Tag B} (h : c = false) (h1 : B) : @ifP c A B ta tb := by subst h; exact h1

theorem wrap64 {n : Int} (h1 : -9223372036854775808 ≤ n) (h2 : n < 9223372036854775808) : IntKind.i64.wrap n = n := by
  show (if (true && decide (n % 18446744073709551616 ≥ 9223372036854775808)) = true then n % 18446744073709551616 - 18446744073709551616 else n % 18446744073709551616) = n
  by_cases h : n % 18446744073709551616 ≥ 9223372036854775808
  · rw [if_pos (by simpa using h)]; omega
  · rw [if_neg (by simpa using h)]; omega

/-- Data. -/
abbrev I (n : Int) : AVal := .int .i64 n
abbrev B (b : Bool) : AVal := .bool b
abbrev L {α : Type} (e : Nat) (f : α → AVal) (l : List α) : AVal := .fs e (l.map f) none
abbrev Ints (l : List Int) : AVal := L 1 I l

end Go.Ai
