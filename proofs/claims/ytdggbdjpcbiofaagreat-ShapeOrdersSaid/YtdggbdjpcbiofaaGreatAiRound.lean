/- Aids for walking: the rounds of a range over a function. -/
import Derived.Test.YtdggbdjpcbiofaaGreatAiWalkD
namespace Go.Ai

def kend (fail : Prop) (l n : Nat) (K : AVal → List AObj → Prop) (e : AExit) (st : St) : Prop := endA fail l n e st.heap K
def kassign (C : Cfg Prop) (l n : Nat) (b : ACode) (K : AVal → List AObj → Prop) (e : AExit) (st : St) : Prop := match e with
  | .normal => match st.heap[l]? with
    | some (.loop true none tmps params assign body') => Ex C b ⟨st.tmps, st.heap.set l (.loop false none tmps params assign body')⟩ (kend C.fail l n K)
    | _ => C.fail
  | _ => C.fail
def loopK (fail : Prop) (x : Option AObj) (K : List AVal → List Tmp → ACode → ACode → Prop) : Prop := match x with
  | some (.loop true none tmps params assign body') => K tmps params assign body'
  | _ => fail
def endK (fail : Prop) (x : Option AObj) (K : List AVal → List Tmp → ACode → ACode → Prop) : Prop := match x with
  | some (.loop _ _ tmps params assign body') => K tmps params assign body'
  | _ => fail
def rangeK (fail : Prop) (x : Option AObj) (K : AExit → Prop) : Prop := match x with
  | some (.loop rd pe _ _ _ _) => match pe with
    | none => ifP rd (K .normal) fail
    | some e => K e
  | _ => fail

section
variable {C : Cfg Prop} {fail : Prop} {l n : Nat} {T : List AVal} {h : List AObj} {K : AVal → List AObj → Prop}
@[go_sem] theorem kassign_normal {b : ACode} : kassign C l n b K .normal ⟨T, h⟩ = loopK C.fail h[l]? fun tmps ps a b' => Ex C b ⟨T, h.set l (.loop false none tmps ps a b')⟩ (kend C.fail l n K) := ofDef rfl
@[go_sem] theorem loopK_some {t : List AVal} {p : List Tmp} {a b : ACode} {K : List AVal → List Tmp → ACode → ACode → Prop} : loopK fail (some (.loop true none t p a b)) K = K t p a b := ofDef rfl
@[go_sem] theorem endK_some {rd : Bool} {pe : Option AExit} {t : List AVal} {p : List Tmp} {a b : ACode} {K : List AVal → List Tmp → ACode → ACode → Prop} : endK fail (some (.loop rd pe t p a b)) K = K t p a b := ofDef rfl
@[go_sem] theorem rangeK_none {rd : Bool} {t : List AVal} {p : List Tmp} {a b : ACode} {K : AExit → Prop} : rangeK fail (some (.loop rd none t p a b)) K = ifP rd (K .normal) fail := ofDef rfl
@[go_sem] theorem rangeK_some {rd : Bool} {e : AExit} {t : List AVal} {p : List Tmp} {a b : ACode} {K : AExit → Prop} : rangeK fail (some (.loop rd (some e) t p a b)) K = K e := ofDef rfl
@[go_sem] theorem kend_normal : kend fail l n K .normal ⟨T, h⟩ = endK fail h[l]? fun tmps ps a b => K (.bool true) (((h.set l (.loop true none tmps ps a b)).take n).map (killO n)) := by
  simp only [kend, endA, endK]
  split <;> rename_i h1 <;> simp_all
@[go_sem] theorem kend_exit {i : Nat} : kend fail l n K (.exit i) ⟨T, h⟩ = endK fail h[l]? fun tmps ps a b => K (.bool false) (((h.set l (.loop false (some (.exit i)) tmps ps a b)).take n).map (killO n)) := by
  simp only [kend, endA, endK]
  split <;> rename_i h1 <;> simp_all
@[go_sem] theorem kend_ret : kend fail l n K .ret ⟨T, h⟩ = endK fail h[l]? fun tmps ps a b => K (.bool false) (((h.set l (.loop false (some .ret) tmps ps a b)).take n).map (killO n)) := by
  simp only [kend, endA, endK]
  split <;> rename_i h1 <;> simp_all
@[go_sem] theorem krange_eq {K : AExit → St → Prop} {v : AVal} : krange C n T K v h = rangeK C.fail h[n]? fun e => K e ⟨T, (h.take n).map (killO n)⟩ := by
  simp only [krange, rangeK]
  rfl
@[congr] theorem kassign_cg {b : ACode} {e e' : AExit} {s s' : St} (he : e = e') (hs : s = s') : kassign C l n b K e s = kassign C l n b K e' s' := by
  subst he; subst hs; rfl
@[congr] theorem kend_cg {e e' : AExit} {s s' : St} (he : e = e') (hs : s = s') : kend fail l n K e s = kend fail l n K e' s' := by
  subst he; subst hs; rfl
@[congr] theorem loopK_cg {K : List AVal → List Tmp → ACode → ACode → Prop} {x x' : Option AObj} (hx : x = x') : loopK fail x K = loopK fail x' K := by
  subst hx; rfl
@[congr] theorem endK_cg {K : List AVal → List Tmp → ACode → ACode → Prop} {x x' : Option AObj} (hx : x = x') : endK fail x K = endK fail x' K := by
  subst hx; rfl
@[congr] theorem rangeK_cg {K : AExit → Prop} {x x' : Option AObj} (hx : x = x') : rangeK fail x K = rangeK fail x' K := by
  subst hx; rfl
end

section
variable {C : Cfg Prop} {T : List AVal} {h : List AObj} {K : AVal → List AObj → Prop}
@[go_sem] theorem opA_litTok {e : Nat} {p : Arg} {ps : List Arg} : opA C (.litTok e (p :: ps)) ⟨T, h⟩ K = ifP (partsOk e ((p :: ps).map (St.ev ⟨T, h⟩))) (K (.fs e (killL 0 ((p :: ps).map (St.ev ⟨T, h⟩))) (some h.length)) (h ++ [.tok e (p :: ps).length])) C.fail := ofDef rfl
@[go_sem] theorem opA_litOwn {e : Nat} {p : Arg} {ps : List Arg} : opA C (.litOwn e (p :: ps)) ⟨T, h⟩ K = ifP (partsOk e ((p :: ps).map (St.ev ⟨T, h⟩))) (K (.hs h.length e 0 (p :: ps).length) (h ++ [.rows e ((p :: ps).map (St.ev ⟨T, h⟩))])) C.fail := ofDef rfl
end

def strK (fail : Prop) (x : AVal) (K : ByteArray → Prop) : Prop := match x with
  | .str s => K s
  | _ => fail
section
variable {C : Cfg Prop} {T : List AVal} {h : List AObj} {K : AVal → List AObj → Prop} {fail : Prop}
@[go_sem] theorem opA_indexStr {x i : Arg} : opA C (.indexStr x i) ⟨T, h⟩ K = asI C.fail (St.ev ⟨T, h⟩ i) fun _ n => strK C.fail (St.ev ⟨T, h⟩ x) fun s => ifP (inB n s.size) (K (.int .u8 ((s.data.toList.getD n.toNat 0).toNat : Nat)) h) C.fail := ofDef rfl
@[go_sem] theorem strK_str {s : ByteArray} {K : ByteArray → Prop} : strK fail (.str s) K = K s := ofDef rfl
@[congr] theorem strK_cg {K : ByteArray → Prop} {x x' : AVal} (hx : x = x') : strK fail x K = strK fail x' K := by
  subst hx; rfl
end

def clearK (fail : Prop) (esz0 : Nat) (zero v : AVal) (h : List AObj) (K : AVal → List AObj → Prop) : Prop := match v with
  | .nils => K (.tuple []) h
  | .emp => K (.tuple []) h
  | .fs _ [] _ => K (.tuple []) h
  | .hs b esz i len => rowsK fail h[b]? fun esz' es => ifP (esz == esz' && esz == esz0 && Nat.ble (i + len) es.length) (K (.tuple []) (h.set b (.rows esz' (es.take i ++ List.replicate len zero ++ es.drop (i + len))))) fail
  | _ => fail
section
variable {C : Cfg Prop} {T : List AVal} {h : List AObj} {K : AVal → List AObj → Prop} {fail : Prop}
@[go_sem] theorem opA_clear {e : Nat} {z : AVal} {x : Arg} : opA C (.clear e z x) ⟨T, h⟩ K = clearK C.fail e z (St.ev ⟨T, h⟩ x) h K := by
  simp only [opA, clearK, rowsK]
  split <;> rename_i h1 <;> simp only [h1]
  split <;> rename_i h2 <;> simp only [h2, ifP]
@[go_sem] theorem clearK_hs {e0 b e i n : Nat} {z : AVal} : clearK fail e0 z (.hs b e i n) h K = rowsK fail h[b]? fun e' es => ifP (e == e' && e == e0 && Nat.ble (i + n) es.length) (K (.tuple []) (h.set b (.rows e' (es.take i ++ List.replicate n z ++ es.drop (i + n))))) fail := ofDef rfl
@[congr] theorem clearK_cg {e : Nat} {z v v' : AVal} {h h' : List AObj} (hv : v = v') (hh : h = h') : clearK fail e z v h K = clearK fail e z v' h' K := by
  subst hv; subst hh; rfl
end

theorem wrapU8 {n : Int} (h1 : 0 ≤ n) (h2 : n < 256) : IntKind.u8.wrap n = n := by
  show (if (false && decide (n % 256 ≥ 128)) = true then n % 256 - 256 else n % 256) = n
  simp; omega
theorem wrapU64 {n : Int} (h1 : 0 ≤ n) (h2 : n < 18446744073709551616) : IntKind.u64.wrap n = n := by
  show (if (false && decide (n % 18446744073709551616 ≥ 9223372036854775808)) = true then n % 18446744073709551616 - 18446744073709551616 else n % 18446744073709551616) = n
  simp; omega
theorem wrapI64 {n : Int} (h1 : 0 ≤ n) (h2 : n < 9223372036854775808) : IntKind.i64.wrap n = n := wrap64 (by omega) h2

attribute [go_sem] List.zip_cons_cons List.zip_nil_right

theorem round_rule {P : Program} {eqs : List TypeId} (EQ : ∀ t, eqs.contains t = true → EqPlain P t) {l : Nat} {args : List AVal} {heap : List AObj} {K : AVal → List AObj → Prop} (N : Nat) {rd : Bool} {pe : Option AExit} {T : List AVal} {ps : List Tmp} {a b : ACode}
    (ha : ∀ l', args ≠ [.yield l']) (hl : heap[l]? = some (.loop rd pe T ps a b)) (hn : args.length = ps.length)
    (h : Ex (cfg P eqs N) a ⟨(ps.zip args).foldl (fun ts p => ts.set p.1 p.2) T, heap⟩ (kassign (cfg P eqs N) l heap.length b K)) : Hs P eqs (.yield l) args heap K := by
  refine Hs.round EQ (N := N) ha ?_
  have hb : (args.length == ps.length) = true := by simp [hn]
  simp only [roundA, hl, hb, cond_true]
  have h1 := h.h
  refine Eq.mp ?_ h1
  refine congrArg (exec (cfg P eqs N) a _) (funext fun e => funext fun st => ?_)
  cases e with
  | normal =>
    simp only [kassign]
    split <;> rename_i h2
    · simp only [h2, Ex_eq]; rfl
    · split <;> rename_i h3
      · exact absurd h3 (h2 _ _ _ _)
      · rfl
  | exit i => rfl
  | ret => rfl

end Go.Ai
