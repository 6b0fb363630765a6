/- From what a call does (Hs) to a law's row: it returns true, and the arguments read as before. -/
import Derived.Test.YtdggbdjpcbiofaaGreatAiSem
import Derived.ReadAgain
import Derived.WalkKit
import Derived.ProofKit
import Derived.OpenShut
import Derived.JoinedCond
namespace Go.Ai
open Go.ChangeShapes Go.WideShapes Go.RowKit

/-- All that lies there is held. -/
def envOf (W : World) : Env := ⟨fun _ => none, fun _ _ => none, fun r o => W.cell? ⟨r, o, none⟩⟩

theorem hrel_envOf (CR : Code → ACode → Prop) (W : World) : HRel CR (envOf W) [] W :=
  ⟨fun b o h => by simp at h, fun b o b' o' r h => by simp at h, fun r o v h => h, fun b o r h => by simp at h, fun b r h => by simp [envOf] at h, fun b n x h => by simp [envOf] at h⟩

/-- Nothing that was there is turned. -/
structure Kept (W W' : World) : Prop where
  out : SameOut W W'
  size : W.heap.size ≤ W'.heap.size
  heap : ∀ k, k < W.heap.size → W'.heap[k]? = W.heap[k]?

theorem Hs.calls {P : Program} {eqs : List TypeId} {f : FuncId} {fn : Func} {af : AFunc} (hfn : P.funcs[f]? = some fn) (hk : chkFunc P eqs fn af = true) {as : List AVal} {args : Array Value} {W : World} (hv : VRels as (envOf W) args.toList)
    (h : Hs P eqs (.func f [] []) as [] fun v _ => Sub v (.bool true)) : Calls P f args W fun e W' => e = .returned (.bool true) ∧ Kept W W' := by
  obtain ⟨d, h1, h2⟩ := h.call (envOf W) W (.func (.func f) #[] #[]) args (by simp only [VRel]; exact ⟨#[], #[], rfl, by simp [VRels], by simp [VRels]⟩) hv (hrel_envOf _ W)
  have e1 : (Deferred.ofValue (.func (.func f) #[] #[]) args).run P W = .ok ⟨.fn (.func f) #[], #[] ++ args⟩ W := rfl
  rw [e1] at h1
  injection h1 with h1 _
  subst h1
  have e2 : (invoke (.fn (.func f) #[]) (#[] ++ args)).run P W = .ok (.enter f (#[] ++ args ++ #[])) W := call_func hfn hk _ _
  simp only [e2] at h2
  rw [Array.empty_append, Array.append_empty] at h2
  refine (callsIn_wide.1 h2).mono fun e W' hR => ?_
  cases e with
  | returned v =>
    obtain ⟨z, h', E', k1, k2, k3, k4⟩ := hR
    have := k1 E' v k2
    simp only [VRel] at this
    subst this
    exact ⟨rfl, k4.out, k4.size, fun k hk => k4.keep k hk (by rintro ⟨b, o, hb, _⟩; simp at hb)⟩
  | panicked c => exact hR.elim
  | outgrown => exact hR.elim

section
variable {H : Type} {enc : TypeId × Value → H} {P : Program}

theorem Kept.keptBut {W W' : World} (h : Kept W W') (may : MemPlace → Prop) : W.keptBut W' may := by
  refine ⟨h.out.1, h.out.2, fun i hi => ?_⟩
  rw [h.heap i hi]
  cases W.heap[i]? with
  | none => rfl
  | some o => cases o <;> first | rfl | exact ⟨rfl, rfl, rfl, fun _ _ => rfl⟩ | exact .inr ⟨rfl, rfl⟩

theorem Kept.sameAt {W W' : World} (h : Kept W W') (p : MemPlace) (hp : p.block < W.heap.size) : W.sameAt W' p := by
  cases p with
  | cell b off => simp only [World.sameAt, World.cell?]; rw [h.heap b hp]
  | map b => exact h.heap b hp

theorem Kept.frozen {W W' : World} (h : Kept W W') {b off : Nat} (hb : b < W.heap.size) : W'.frozen? ⟨b, off, none⟩ = W.frozen? ⟨b, off, none⟩ := by
  simp only [World.frozen?]; rw [h.heap b hb]

theorem Kept.trodAll {W W' : World} (h : Kept W W') {base : Nat} {sp : Nat → Bool} {held : Bool} : ∀ {ts : List TypeId} {vs : List Value} {ds : List (DataW H)} {ps : List MemPlace}, (∀ p ∈ ps, p.block < W.heap.size) →
    DataW.TrodAll enc P W base sp held ts vs ds ps → DataW.TrodAll enc P W' base sp held ts vs ds ps
  | [], [], [], _, _, h => h
  | _ :: _, _ :: _, _ :: _, _, hp, ⟨p, q, ⟨n, h1⟩, h2, e⟩ =>
    ⟨p, q, ⟨n, DataW.trod_carry n _ _ _ h1 fun x hx => h.sameAt x (hp x (by rw [e]; exact List.mem_append_left _ hx))⟩, h.trodAll (fun x hx => hp x (by rw [e]; exact List.mem_append_right _ hx)) h2, e⟩

/-- A law's answer. -/
theorem post_true {fn : Func} {s : ChangeSpec} {apart fresh handsOn again : Bool} {W W' : World} {args : Array Value} {ds gs : List (DataW H)} {before : List MemPlace} {tb : TypeId}
    (hl : laidOutB P = true) (hm : mapsRowed P = true) (hz : ∀ t e, t < P.types.size → P.underlying t = some (.slice e) → 0 < P.cellsOf e) (hts : ∀ t ∈ fn.params.toList, t < P.types.size)
    (hsv : s.vars = []) (hs : s.fn H (ds ++ gs) = { results := [.lit (.bool true)], args := ds }) (hr : fn.resultTypes = #[tb]) (ht : P.underlying tb = some .bool)
    (hW : DataW.Whole enc P fn.params.toList s.vars apart W args.toList ds gs before) (hk : Kept W W') : s.post enc P fn apart fresh handsOn again W args (.bool true) W' := by
  have hlt : ∀ p ∈ before, p.block < W.heap.size := hW.lt
  have hold : ∀ p ∈ before, (fun b => decide (b < W.heap.size)) p.block = true := fun p hp => by simpa using hlt p hp
  have hW' := hW
  obtain ⟨p, q, hA, hV, hpq, hfz, hnd⟩ := hW
  rw [hsv] at hV
  obtain ⟨rfl, rfl⟩ : gs = [] ∧ q = [] := by
    cases gs with
    | nil => exact ⟨rfl, hV⟩
    | cons => exact hV.elim
  rw [List.append_nil] at hpq
  subst hpq
  have K := kids_rows hl hm
  have hargs : ∀ sp : Nat → Bool, (∀ p ∈ before, sp p.block = true) → DataW.TrodAll enc P W' 0 sp true fn.params.toList args.toList ds before := fun sp hsp =>
    hk.trodAll hlt (DataW.TrodAll.respare K hz hts hA hsp)
  have hres : ∀ (b : Nat) (sp : Nat → Bool) (hd : Bool), DataW.TrodAll enc P W' b sp hd fn.resultTypes.toList ((Value.bool true).resultList fn.resultTypes.size) [.lit (.bool true)] [] := fun b sp hd => by
    rw [hr]
    exact trodAll_cons_mk (shut_bool ht _) trodAll_mk0
  have hvars : ∀ sp : Nat → Bool, DataW.TrodVars enc P W' sp s.vars [] [] := fun sp => by rw [hsv]; rfl
  refine ⟨ds, [], before, [], before, [], hW', ?_, ?_, ?_, hk.keptBut _, fun _ => ?_⟩
  · rw [hs]; exact hres _ _ _
  · rw [hs]; exact hargs _ hold
  · rw [hs]; exact hvars _
  · refine ⟨?_, _, _, ([] ++ before) ++ [], ⟨[] ++ before, [], trodAll_append (hargs _ (fun _ _ => rfl)) (hres _ _ _), hvars _, rfl, ?_, ?_⟩, ?_⟩
    · intro j t r h1 h2
      rw [hr] at h1 h2
      cases j with
      | zero =>
        have e1 : tb = t := by simpa using h1
        have e2 : r = .bool true := by
          have : (Value.bool true).resultList 1 = [.bool true] := rfl
          simp [this] at h2
          exact h2.symm
        subst e1; subst e2
        exact okWide_bool_mk ht _
      | succ j => simp at h1
    · intro b off hp
      have hp : MemPlace.cell b off ∈ before := by simpa using hp
      rw [hk.frozen (b := b) (hlt _ hp)]
      exact hfz b off hp
    · intro ha
      simpa using hnd ha
    · intro p hp _
      simpa using hp
end
section
variable {H : Type} {enc : TypeId × Value → H} {W : World} {sp : Nat → Bool} {hd : Bool} {α : Type} {P : Program}

theorem int_cells {t : TypeId} {k : IntKind} {fuel : Nat} {v : Value} {x : DataW H × List MemPlace} (ht : P.underlying t = some (.int k)) (h : DataW.trod enc P W 0 sp hd fuel t [v] = some x) :
    ∃ n, v = .int k n ∧ (Lit.int k n).wf = true := by
  obtain ⟨n, e1, _, e2⟩ := DataW.trod_int ht h
  simp at e1
  exact ⟨n, e1, e2⟩

/-- Elements that are held, one cell each. -/
theorem elems_held {f : α → AVal} {r off : Nat} : ∀ (l : List α), (∀ i x, l[i]? = some x → ∃ u, VRel (f x) (envOf W) u ∧ u.cells = #[u] ∧ u.oneCell' = true ∧ W.cell? ⟨r, off + i, none⟩ = some u) → Elems (l.map f) (envOf W) 1 r off
  | [], _ => by simp [Elems]
  | x :: l, h => by
    obtain ⟨u, h1, h2, h3, h4⟩ := h 0 x rfl
    rw [List.map_cons, Elems]
    refine ⟨⟨u, h1, by rw [h2]; rfl, by intro v hv; rw [h2] at hv; simp at hv; rw [hv]; exact h3, fun j v hj => ?_⟩, ?_⟩
    · rw [h2] at hj
      cases j with
      | zero => simp at hj; subst hj; exact h4
      | succ j => simp at hj
    · refine elems_held (off := off + 1) l fun i y hy => ?_
      have := h (i + 1) y (by simpa using hy)
      rwa [show off + (i + 1) = off + 1 + i by omega] at this

theorem open_bytes {t e : TypeId} {fuel : Nat} {cs : List Value} {x : DataW H × List MemPlace} (ht : P.underlying t = some (.slice e)) (he : P.underlying e = some (.int .u8)) (hc : P.cellsOf e = 1)
    (h : DataW.trod enc P W 0 sp hd fuel t cs = some x) : ∃ (l : List UInt8) (v : Value), cs = [v] ∧ v.oneCell' = true ∧ VRel (.fs 1 (l.map fun b => .int .u8 (b.toNat : Int)) none) (envOf W) v := by
  rcases open_ints ht he hc h with ⟨rfl, _⟩ | ⟨a, len, cap, zs, rfl, _, hl, _, hz, _, hcell, hwf⟩
  · refine ⟨[], _, rfl, rfl, ?_⟩
    simp only [VRel, List.map_nil]
    exact ⟨none, 0, rfl, Nat.le_refl _, fun h => absurd rfl h, fun b hb => by cases hb⟩
  · have hzl : len ≤ zs.length := by rw [hz]; split <;> omega
    refine ⟨(zs.take len).map fun z => UInt8.ofNat z.toNat, _, rfl, rfl, ?_⟩
    simp only [VRel]
    have hlen : ((((zs.take len).map fun z => UInt8.ofNat z.toNat)).map fun b => AVal.int .u8 (b.toNat : Int)).length = len := by simp; omega
    refine ⟨some a, cap, by rw [hlen], by rw [hlen]; exact hl, fun hne => ?_, fun b hb => by cases hb⟩
    have h0 : 0 < len := by
      rcases Nat.eq_zero_or_pos len with h | h
      · subst h; simp at hne
      · exact h
    have hsp : a.spot = none := by
      have := hcell 0 (by omega)
      simp only [Addr.add, if_true, World.cell?] at this
      split at this
      · split at this
        · cases this
        · rename_i hs; simpa using hs
      · cases this
    obtain ⟨r, off, spot⟩ := a
    simp only at hsp
    subst hsp
    refine ⟨r, off, rfl, ?_⟩
    refine elems_held (W := W) ((zs.take len).map fun z => UInt8.ofNat z.toNat) fun i b hb => ?_
    rw [List.getElem?_map, Option.map_eq_some_iff] at hb
    obtain ⟨z, hz1, rfl⟩ := hb
    have hil : i < len := by have := (List.getElem?_eq_some_iff.1 hz1).1; simp at this; omega
    have hz2 : zs[i]? = some z := by rwa [List.getElem?_take, if_pos hil] at hz1
    have hw := hwf z (List.mem_of_getElem? hz2)
    have hb2 : 0 ≤ z ∧ z ≤ 255 := by simpa [Lit.wf, IntKind.min, IntKind.max, IntKind.signed, IntKind.bits] using hw
    have hc1 := hcell i (by omega)
    have hg : zs.getD i 0 = z := by simp [List.getD, hz2]
    rw [hg] at hc1
    refine ⟨.int .u8 z, ?_, rfl, rfl, ?_⟩
    · simp only [VRel]
      have h1 : (UInt8.ofNat z.toNat).toNat = z.toNat := by
        rw [UInt8.toNat_ofNat']; omega
      have h2 : (((UInt8.ofNat z.toNat).toNat : Nat) : Int) = z := by rw [h1]; omega
      rw [h2]
    · have : (Addr.add ⟨r, off, none⟩ i) = ⟨r, off + i, none⟩ := by unfold Addr.add; split <;> simp_all
      rwa [this] at hc1

/-- A struct with a list of bytes alone. -/
theorem open_raw {r : Reach} {b0 : Nat} {t t1 e : TypeId} {f0 : Field} {v : Value} {d : DataW H} {p : List MemPlace} (hu : P.underlying t = some (.struct #[f0])) (hf0 : f0.type = t1) (hf1 : f0.offset = 0) (c24 : P.cellsOf t = 1) (c22 : P.cellsOf t1 = 1)
    (hu1 : P.underlying t1 = some (.slice e)) (hu2 : P.underlying e = some (.int .u8)) (ce : P.cellsOf e = 1) (hval : Value.okWide P W r b0 t v) (h : DataW.Trod enc P W 0 sp hd t v d p) :
    ∃ l : List UInt8, VRel (.agg [.fs 1 (l.map fun b => .int .u8 (b.toNat : Int)) none]) (envOf W) v := by
  obtain ⟨cs, rfl, hcs⟩ := okWide_struct hu hval
  obtain ⟨n, hn⟩ := h
  obtain ⟨xs, m, _, _, hl, hx, hf⟩ := DataW.trod_struct hu hn
  have h0 := hf 0 f0 rfl
  rw [c24] at hl
  rw [hf1, hf0, c22, List.drop_zero] at h0
  have hc : (Value.agg cs).cells.toList.take 1 = (Value.agg cs).cells.toList := List.take_of_length_le (by omega)
  rw [hc] at h0
  cases hx0 : xs[0]? with
  | none => rw [List.getElem?_eq_none_iff] at hx0; simp at hx; omega
  | some y =>
    rw [hx0] at h0
    obtain ⟨l, v, e1, e2, e3⟩ := open_bytes hu1 hu2 ce h0
    refine ⟨l, ?_⟩
    simp only [VRel, VRels]
    have e1 : cs.toList = [v] := e1
    exact ⟨cs, rfl, ⟨v, [], e1, by simpa only [VRel] using e3, rfl⟩, fun u hu => by rw [e1] at hu; simp at hu; subst hu; exact e2⟩

theorem open_i {r : Reach} {b0 : Nat} {t : TypeId} {k : IntKind} {v : Value} {d : DataW H} {p : List MemPlace} (ht : P.underlying t = some (.int k)) (hval : Value.okWide P W r b0 t v) (h : DataW.Trod enc P W 0 sp hd t v d p) :
    ∃ n, (Lit.int k n).wf = true ∧ VRel (.int k n) (envOf W) v := by
  obtain ⟨n, rfl, _, _, w⟩ := open_int ht hval h
  exact ⟨n, w, by simp only [VRel]⟩
end
end Go.Ai
