/- Maps with keys of type int. -/
import Derived.Test.YtdggbdjpcbiofaaGreatAiOp
import Derived.RangeFuncRecord
namespace Go.Ai

section
variable {P : Program} {w : World} {E : Env}

theorem run_checkKey_int {key : TypeId} {q : IntKind} (h : P.underlying key = some (.int q)) (e : Bool) (n : Nat) (k : IntKind) (m : Int) : (Instr.checkKey e (n + 1) key (.int k m)).run P w = .ok () w := by
  simp [Instr.checkKey, run_underlying' h]

theorem find_none {q : IntKind} {n : Int} : ∀ {es : List (Int × AVal)} {cs : List MapEntry}, EntRel E es cs → findA n es = none → ∀ v : AVal,
    (∀ j, Instr.findNow (.int q) (.int .i64 n) cs j = some none) ∧ updA n v es = es ++ [(n, v)] ∧ delA n es = es
  | [], _, h, _, v => by cases h; simp [Instr.findNow, updA, delA]
  | p :: es, _, ⟨e, rest, h1, h2, h3, h4⟩, hf, v => by
    subst h1
    obtain ⟨k, x⟩ := p
    simp only [findA] at hf
    by_cases hk : n = k
    · simp [hk] at hf
    · simp only [hk, decide_false, cond] at hf
      obtain ⟨k1, k2, k3⟩ := find_none (q := q) h4 hf v
      refine ⟨fun j => ?_, by simp [updA, hk, k2], by simp [delA, hk, k3]⟩
      simp only [Instr.findNow, Instr.sameNow, h2, if_true]
      have : (n == k) = false := by simpa using hk
      simp only [this]
      exact k1 (j + 1)

theorem find_some {q : IntKind} {n : Int} : ∀ {es : List (Int × AVal)} {cs : List MapEntry}, EntRel E es cs → ∀ {v : AVal}, findA n es = some v →
    ∃ i u, (∀ j, Instr.findNow (.int q) (.int .i64 n) cs j = some (some (j + i, u))) ∧ VRel v E u ∧ (∃ e, cs[i]? = some e ∧ e.key = .int .i64 n) ∧
      (∀ (v' : AVal) (u' : Value), VRel v' E u' → EntRel E (updA n v' es) (cs.modify i fun e => { e with key := .int .i64 n, val := u' })) ∧ EntRel E (delA n es) (cs.eraseIdx i)
  | [], _, _, v, hf => by simp [findA] at hf
  | p :: es, _, ⟨e, rest, h1, h2, h3, h4⟩, v, hf => by
    subst h1
    obtain ⟨k, x⟩ := p
    simp only [findA] at hf
    by_cases hk : n = k
    · simp [hk] at hf
      subst hf; subst hk
      refine ⟨0, e.val, fun j => ?_, h3, ⟨e, rfl, h2⟩, fun v' u' hv => ?_, ?_⟩
      · simp [Instr.findNow, Instr.sameNow, h2]
      · simp only [updA, decide_true, cond, List.modify_zero_cons]
        exact ⟨_, rest, rfl, rfl, hv, h4⟩
      · simpa [delA] using h4
    · simp only [hk, decide_false, cond] at hf
      obtain ⟨i, u, k1, k2, ⟨e', k3, k4⟩, k5, k6⟩ := find_some (q := q) h4 hf
      refine ⟨i + 1, u, fun j => ?_, k2, ⟨e', by simpa using k3, k4⟩, fun v' u' hv => ?_, ?_⟩
      · simp only [Instr.findNow, Instr.sameNow, h2, if_true]
        have : (n == k) = false := by simpa using hk
        simp only [this]
        rw [k1 (j + 1)]
        congr 3; omega
      · simp only [updA, hk, decide_false, cond, List.modify_succ_cons]
        exact ⟨e, _, rfl, h2, h3, k5 v' u' hv⟩
      · simp only [delA, hk, decide_false, cond, List.eraseIdx_cons_succ]
        exact ⟨e, _, rfl, h2, h3, k6⟩

theorem run_findKey {key : TypeId} {q : IntKind} (h : P.underlying key = some (.int q)) {n : Int} {cs : List MapEntry} {r : Option (Nat × Value)} (hr : Instr.findNow (.int q) (.int .i64 n) cs 0 = some r) :
    (Instr.findKey key (.int .i64 n) cs).run P w = .ok r w := by
  simp [Instr.findKey, run_underlying' h, hr]

theorem EntRel.snoc {n : Int} {v : AVal} {u : Value} {b : Nat} : ∀ {es : List (Int × AVal)} {cs : List MapEntry}, EntRel E es cs → VRel v E u → EntRel E (es ++ [(n, v)]) (cs ++ [{ key := .int .i64 n, val := u, born := b }])
  | [], _, h, hv => by cases h; exact ⟨_, [], rfl, rfl, hv, rfl⟩
  | _ :: _, _, ⟨e, rest, h1, h2, h3, h4⟩, hv => by subst h1; exact ⟨e, _, rfl, h2, h3, h4.snoc hv⟩
end

section
variable {α : Type} {good : α → Prop} {fail : α} (hf : ¬ good fail) {P : Program} {w : World} {CR : Code → ACode → Prop} {E : Env} {heap : List AObj}
include hf

theorem withMap_good {m : AVal} {K : Nat → List (Int × AVal) → α} (h : good (withMap fail m heap K)) {u : Value} (hm : VRel m E u) (H : HRel CR E heap w) :
    ∃ b es r es' clock, good (K b es) ∧ heap[b]? = some (.map es) ∧ E.ρ b = some r ∧ u = .map (some r) ∧ w.heap[r]? = some (.map es' clock) ∧ EntRel E es es'.toList ∧ (getObj r).run P w = .ok (.map es' clock) w := by
  unfold withMap at h
  split at h
  · split at h
    · rename_i b es hb
      obtain ⟨r, es', clock, k1, k2, k3⟩ := H.obj _ _ hb
      simp only [VRel] at hm; obtain ⟨r', k4, rfl⟩ := hm
      rw [k1] at k4; cases k4
      exact ⟨_, _, r, es', clock, h, hb, k1, rfl, k2, k3, by simp [getObj, Sem.run, k2]⟩
    · exact absurd h hf
  · exact absurd h hf

omit hf in
/-- A map's block is written. -/
theorem put_map {b : Nat} {es es2 : List (Int × AVal)} {r : Nat} {es' es2' : Array MapEntry} {clock clock' : Nat} (H : HRel CR E heap w) (hb : heap[b]? = some (.map es)) (hr : E.ρ b = some r) (hw : w.heap[r]? = some (.map es' clock)) (he : EntRel E es2 es2'.toList) :
    ∃ w', (setObj r (.map es2' clock')).run P w = .ok () w' ∧ HRel CR E (heap.set b (.map es2)) w' ∧ Step E heap w E (heap.set b (.map es2)) w' := by
  have hlt : r < w.heap.size := (Array.getElem?_eq_some_iff.1 hw).1
  have hro : realOf E b (.map es) = some r := hr
  refine ⟨w.putObj r (.map es2' clock'), by simp [setObj, Sem.run, hw, World.putObj], ?_⟩
  have hoth : ∀ k, k ≠ r → (w.putObj r (.map es2' clock')).heap[k]? = w.heap[k]? := by
    intro k hk
    show (w.heap.setIfInBounds r _)[k]? = _
    rw [Array.getElem?_setIfInBounds_ne (fun e => hk e.symm)]
  have hnew : (w.putObj r (.map es2' clock')).heap[r]? = some (.map es2' clock') := by
    show (w.heap.setIfInBounds r _)[r]? = _
    simp [hlt]
  refine H.update hb (.refl E) (fun _ _ => rfl) (fun _ _ _ => rfl) (by show w.heap.size ≤ (w.heap.setIfInBounds r _).size; simp) (fun k hk hne => hoth k (fun e => hne (by rw [hro, e]))) (fun z hz => .inl (by simpa [realOf] using hz)) ⟨r, es2', clock', hr, hnew, he⟩ ?_ (fun _ _ _ _ => rfl) ?_ ?_
  · intro r' o v hv
    have hne : r' ≠ r := fun e => by
      have := H.sep b _ r hb hro (fun _ _ e => by cases e) o
      rw [← e, hv] at this; cases this
    simp only [World.cell?]
    rw [hoth r' hne]
    exact H.fz r' o v hv
  · intro z hz _ off
    have : z = r := by have : E.ρ b = some z := hz; rw [hr] at this; cases this; rfl
    subst this
    exact H.sep b _ z hb hro (fun _ _ e => by cases e) off
  · intro n x hx
    obtain ⟨_, ho, hn⟩ := H.domt b n x hx
    rw [hb] at ho; cases ho
    exact hn.elim

theorem lookup_good {zero : AVal} {ok : Bool} {m k : AVal} {K : AVal → List AObj → α} (h : good (asI fail k fun ik n => cond (decide (ik = .i64)) (withMap fail m heap fun _ es =>
      match findA n es with
      | some v => K (cond ok (.tuple [v, .bool true]) v) heap
      | none => K (cond ok (.tuple [zero, .bool false]) zero) heap) fail)) {um uk : Value} (hm : VRel m E um) (hk : VRel k E uk) (H : HRel CR E heap w)
    {t key elem : TypeId} {q : IntKind} (ht : P.underlying t = some (.map key elem)) (hkey : P.underlying key = some (.int q)) {z : Value} (hz : ∀ W : World, (zeroValue elem).run P W = .ok z W) (hzr : VRel zero E z) :
    ∃ v r, good (K v heap) ∧ (Instr.lookup t um uk ok).run P w = .ok r w ∧ VRel v E r := by
  obtain ⟨ik, n, rfl, h0⟩ := asI_good hf h
  clear h
  obtain ⟨h1, h2⟩ := need_good hf h0
  clear h0
  have h1 := of_decide_eq_true h1
  subst h1
  simp only [VRel] at hk; subst hk
  obtain ⟨b, es, r, es', clock, h, hb, hr, rfl, hw, he, hg⟩ := withMap_good hf (P := P) h2 hm H
  clear h2
  cases hfi : findA n es with
  | none =>
    rw [hfi] at h
    have hfn := (find_none (q := q) he hfi zero).1 0
    cases ok with
    | true =>
      refine ⟨_, _, h, ?_, by simp only [VRel, VRels, cond]; exact ⟨#[z, .bool false], rfl, z, _, rfl, hzr, .bool false, [], rfl, rfl, rfl⟩⟩
      simp [Instr.lookup, run_underlying' ht, hg, run_checkKey_int hkey, run_findKey hkey hfn, hz]
    | false =>
      refine ⟨_, _, h, ?_, hzr⟩
      simp [Instr.lookup, run_underlying' ht, hg, run_checkKey_int hkey, run_findKey hkey hfn, hz]
  | some v =>
    rw [hfi] at h
    obtain ⟨i, u, k1, k2, _⟩ := find_some (q := q) he hfi
    have hfn := k1 0
    cases ok with
    | true =>
      refine ⟨_, _, h, ?_, by simp only [VRel, VRels, cond]; exact ⟨#[u, .bool true], rfl, u, _, rfl, k2, .bool true, [], rfl, rfl, rfl⟩⟩
      simp [Instr.lookup, run_underlying' ht, hg, run_checkKey_int hkey, run_findKey hkey hfn]
    | false =>
      refine ⟨_, _, h, ?_, k2⟩
      simp [Instr.lookup, run_underlying' ht, hg, run_checkKey_int hkey, run_findKey hkey hfn]

theorem mapset_good {m k x : AVal} {K : AVal → List AObj → α} (h : good (asI fail k fun ik n => cond (decide (ik = .i64) && storable x) (withMap fail m heap fun b es => K .undef (heap.set b (.map (updA n x es)))) fail))
    {um uk ux : Value} (hm : VRel m E um) (hk : VRel k E uk) (hx : VRel x E ux) (H : HRel CR E heap w)
    {t key elem : TypeId} {q : IntKind} (ht : P.underlying t = some (.map key elem)) (hkey : P.underlying key = some (.int q)) :
    ∃ h' w', good (K .undef h') ∧ (Instr.mapUpdate t um uk ux).run P w = .ok () w' ∧ HRel CR E h' w' ∧ Step E heap w E h' w' := by
  obtain ⟨ik, n, rfl, h0⟩ := asI_good hf h
  clear h
  obtain ⟨h1, h2⟩ := need_good hf h0
  clear h0
  simp only [Bool.and_eq_true, decide_eq_true_eq] at h1
  obtain ⟨rfl, _⟩ := h1
  simp only [VRel] at hk; subst hk
  obtain ⟨b, es, r, es', clock, h, hb, hr, rfl, hw, he, hg⟩ := withMap_good hf (P := P) h2 hm H
  clear h2
  cases hfi : findA n es with
  | none =>
    obtain ⟨k1, k2, _⟩ := find_none (q := q) he hfi x
    rw [k2] at h
    obtain ⟨w', l1, l2, l3⟩ := put_map (P := P) (clock' := clock + 1) (es2 := es ++ [(n, x)]) (es2' := es'.push { key := .int .i64 n, val := ux, born := clock }) H hb hr hw (by simpa using he.snoc hx)
    refine ⟨_, w', h, ?_, l2, l3⟩
    simp [Instr.mapUpdate, run_underlying' ht, hg, run_checkKey_int hkey, run_findKey hkey (k1 0), l1]
  | some v =>
    obtain ⟨i, u, k1, k2, ⟨e, k3, k4⟩, k5, _⟩ := find_some (q := q) he hfi
    obtain ⟨w', l1, l2, l3⟩ := put_map (P := P) (clock' := clock) (es2 := updA n x es) (es2' := es'.modify i fun e => { e with key := .int .i64 n, val := ux }) H hb hr hw (by simpa [Array.toList_modify] using k5 x ux hx)
    refine ⟨_, w', h, ?_, l2, l3⟩
    have hst : (Instr.keyThatStays (.int .i64 n) (.int .i64 n)).run P w = .ok (.int .i64 n) w := by simp [Instr.keyThatStays, Instr.sameBits]
    have hki : ((es'[i]?).map (·.key)).getD (.int .i64 n) = .int .i64 n := by
      have : es'[i]? = some e := by simpa using k3
      rw [this]; simpa using k4
    simp only [Instr.mapUpdate, Sem.run_bind, run_underlying' ht, Result.andThen_ok, hg, run_checkKey_int hkey, run_findKey hkey (k1 0), Nat.zero_add, hki, hst]
    exact l1

theorem mapdel_good {m k : AVal} {K : AVal → List AObj → α} (h : good (asI fail k fun ik n => cond (decide (ik = .i64)) (withMap fail m heap fun b es => K (.tuple []) (heap.set b (.map (delA n es)))) fail))
    {um uk : Value} (hm : VRel m E um) (hk : VRel k E uk) (H : HRel CR E heap w)
    {t key elem ty : TypeId} {q : IntKind} {ts : Array TypeId} (hts : ts[0]? = some t) (ht : P.underlying t = some (.map key elem)) (hkey : P.underlying key = some (.int q)) :
    ∃ h' w', good (K (.tuple []) h') ∧ (Builtin.delete_ ts ty #[um, uk]).run P w = .ok (.tuple #[]) w' ∧ HRel CR E h' w' ∧ Step E heap w E h' w' := by
  obtain ⟨ik, n, rfl, h0⟩ := asI_good hf h
  clear h
  obtain ⟨h1, h2⟩ := need_good hf h0
  clear h0
  have h1 := of_decide_eq_true h1
  subst h1
  simp only [VRel] at hk; subst hk
  obtain ⟨b, es, r, es', clock, h, hb, hr, rfl, hw, he, hg⟩ := withMap_good hf (P := P) h2 hm H
  clear h2
  cases hfi : findA n es with
  | none =>
    obtain ⟨k1, _, k2⟩ := find_none (q := q) he hfi .undef
    rw [k2] at h
    obtain ⟨w', l1, l2, l3⟩ := put_map (P := P) (clock' := clock) (es2 := es) (es2' := es') H hb hr hw he
    refine ⟨_, w', h, ?_, l2, l3⟩
    simp [Builtin.delete_, hts, run_underlying' ht, hg, run_checkKey_int hkey, run_findKey hkey (k1 0), l1]
  | some v =>
    obtain ⟨i, u, k1, k2, ⟨e, k3, k4⟩, _, k5⟩ := find_some (q := q) he hfi
    have hi : i < es'.size := by
      have : es'[i]? = some e := by simpa using k3
      exact (Array.getElem?_eq_some_iff.1 this).1
    obtain ⟨w', l1, l2, l3⟩ := put_map (P := P) (clock' := clock) (es2 := delA n es) (es2' := es'.eraseIdxIfInBounds i) H hb hr hw (by simpa [Array.eraseIdxIfInBounds, hi] using k5)
    refine ⟨_, w', h, ?_, l2, l3⟩
    simp [Builtin.delete_, hts, run_underlying' ht, hg, run_checkKey_int hkey, run_findKey hkey (k1 0), l1]
end
end Go.Ai
