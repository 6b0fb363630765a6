/- New blocks: variables, literals, tokens, maps. -/
import Derived.Test.YtdggbdjpcbiofaaGreatAiMem
namespace Go.Ai

theorem Env.cut_zero (E : Env) : E.cut 0 = E.bare := by
  simp [Env.cut, Env.bare]

section
variable {CR : Code → ACode → Prop} {E : Env} {h : List AObj} {w : World}

theorem alloc_old (w : World) (o : Obj) (k : Nat) (hk : k < w.heap.size) : (w.alloc o).heap[k]? = w.heap[k]? := by
  simp only [World.alloc, Array.getElem?_push]
  rw [if_neg (by omega)]

theorem alloc_new (w : World) (o : Obj) : (w.alloc o).heap[w.heap.size]? = some o := by
  show (w.heap.push o)[w.heap.size]? = some o
  simp

/-- A new block of rows. -/
theorem push_rows (H : HRel CR E h w) {esz : Nat} {es : List AVal} {c : Array Value} {t : TypeId} (hr : RowsRel E esz es c.toList) :
    HRel CR (E.add h.length (some w.heap.size) (fun _ => none) E.fz) (h ++ [.rows esz es]) (w.alloc (.cells c t)) ∧
    Step E h w (E.add h.length (some w.heap.size) (fun _ => none) E.fz) (h ++ [.rows esz es]) (w.alloc (.cells c t)) := by
  have hle := H.add_le (r := some w.heap.size) (t := fun _ => none) (f := E.fz) (fun _ _ _ h => h)
  refine H.push (by simp) (alloc_old w _) (fun _ _ _ h => h) (fun _ _ _ => rfl) (fun r o v hr hv => ?_) (fun r' hr' => ?_) ?_
  · have := H.fz_lt hv; omega
  · simp only [realOf, Env.add, if_true] at hr'
    cases hr'
    exact ⟨Nat.le_refl _, fun _ off => H.fz_new (Nat.le_refl _)⟩
  · exact ⟨w.heap.size, c, t, by simp [Env.add], alloc_new w _, hr.mono hle⟩

/-- A new map. -/
theorem push_map (H : HRel CR E h w) :
    HRel CR (E.add h.length (some w.heap.size) (fun _ => none) E.fz) (h ++ [.map []]) (w.alloc (.map #[] 0)) ∧
    Step E h w (E.add h.length (some w.heap.size) (fun _ => none) E.fz) (h ++ [.map []]) (w.alloc (.map #[] 0)) := by
  refine H.push (by simp) (alloc_old w _) (fun _ _ _ h => h) (fun _ _ _ => rfl) (fun r o v hr hv => ?_) (fun r' hr' => ?_) ?_
  · have := H.fz_lt hv; omega
  · simp only [realOf, Env.add, if_true] at hr'
    cases hr'
    exact ⟨Nat.le_refl _, fun _ off => H.fz_new (Nat.le_refl _)⟩
  · exact ⟨w.heap.size, #[], 0, by simp [Env.add], alloc_new w _, rfl⟩

/-- A token without a block. -/
theorem push_tok0 (H : HRel CR E h w) {esz : Nat} (h0 : 0 < esz) :
    HRel CR (E.add h.length none (fun _ => none) E.fz) (h ++ [.tok esz 0]) w ∧ Step E h w (E.add h.length none (fun _ => none) E.fz) (h ++ [.tok esz 0]) w := by
  refine H.push (Nat.le_refl _) (fun _ _ => rfl) (fun _ _ _ h => h) (fun _ _ _ => rfl) (fun r o v hr hv => ?_) (fun r' hr' => ?_) ?_
  · exact H.fz _ _ _ hv
  · simp [realOf] at hr'
  · exact ⟨h0, fun h => by omega⟩

/-- A slice that will grow: its object. -/
theorem push_new0 (H : HRel CR E h w) {esz : Nat} (h0 : 0 < esz) :
    HRel CR (E.add h.length none (fun _ => none) E.fz) (h ++ [newO esz]) w ∧ Step E h w (E.add h.length none (fun _ => none) E.fz) (h ++ [newO esz]) w := by
  unfold newO
  cases hl : Nat.blt esz growLim with
  | true => exact push_tok0 H h0
  | false =>
    simp only [cond]
    refine H.push (Nat.le_refl _) (fun _ _ => rfl) (fun _ _ _ h => h) (fun _ _ _ => rfl) (fun r o v hr hv => ?_) (fun r' hr' => ?_) ?_
    · exact H.fz _ _ _ hv
    · simp [realOf] at hr'
    · exact ⟨by simp [Env.add], fun h => absurd rfl h⟩

theorem newV_rel {esz n : Nat} {E : Env} {a : Option Addr} : VRel (newV esz n) E (.slice a 0 0) := by
  unfold newV
  cases hl : Nat.blt esz growLim with
  | true =>
    simp only [cond, VRel]
    exact ⟨a, 0, rfl, Nat.le_refl _, fun h => absurd rfl h, fun b _ => ⟨fun _ => rfl, fun h => absurd rfl h⟩⟩
  | false =>
    simp only [cond, VRel]
    exact ⟨a, 0, rfl, Nat.le_refl _, fun _ => rfl, fun h => absurd rfl h⟩
theorem newV_stor {esz n : Nat} : storable (newV esz n) = true := by
  unfold newV
  cases Nat.blt esz growLim <;> rfl

theorem VRels.set : ∀ {cs : List AVal} {E E' : Env} {vs : List Value} {o : Nat} {v v' : AVal}, VRels cs E vs → E.le E' → cs[o]? = some v → (∀ u, VRel v E u → VRel v' E' u) → VRels (cs.set o v') E' vs
  | [], _, _, _, _, _, _, _, _, h, _ => by simp at h
  | c :: cs, E, E', _, o, v, v', h, hle, ho, hv => by
    simp only [VRels] at h
    obtain ⟨u, us, rfl, h1, h2⟩ := h
    cases o with
    | zero =>
      simp at ho; subst ho
      simp only [List.set_cons_zero, VRels]
      exact ⟨u, us, rfl, hv u h1, h2.mono _ hle⟩
    | succ o =>
      simp only [List.set_cons_succ, VRels]
      exact ⟨u, us, rfl, h1.mono _ hle, VRels.set h2 hle (by simpa using ho) hv⟩

theorem tokC_good {α : Type} {good : α → Prop} {fail : α} (hf : ¬ good fail) : ∀ {tz : List (Nat × Nat)} {cs : List AVal} {K : List AVal → List AObj → α} {h : List AObj} {E : Env}, (∀ p ∈ tz, 0 < p.2) → good (tokC fail tz cs h K) → HRel CR E h w →
    ∀ {vs : List Value}, VRels cs E vs → ∃ cs' h' E', good (K cs' h') ∧ VRels cs' E' vs ∧ HRel CR E' h' w ∧ Step E h w E' h' w
  | [], cs, K, h, E, _, hg, H, vs, hv => ⟨cs, h, E, hg, hv, H, .refl _ _ _⟩
  | (o, esz) :: l, cs, K, h, E, hp, hg, H, vs, hv => by
    have h0 : 0 < esz := hp (o, esz) (by simp)
    have key : ∀ v, cs[o]? = some v → (∀ u, VRel v E u → ∃ a, u = .slice a 0 0) → good (tokC fail l (cs.set o (newV esz h.length)) (h ++ [newO esz]) K) →
        ∃ cs' h' E', good (K cs' h') ∧ VRels cs' E' vs ∧ HRel CR E' h' w ∧ Step E h w E' h' w := by
      intro v hv1 hv2 hg
      obtain ⟨H', S⟩ := push_new0 H h0
      have hv' : VRels (cs.set o (newV esz h.length)) (E.add h.length none (fun _ => none) E.fz) vs := by
        refine hv.set S.le hv1 fun u hu => ?_
        obtain ⟨a, rfl⟩ := hv2 u hu
        exact newV_rel
      obtain ⟨cs', h', E', k1, k2, k3, k4⟩ := tokC_good hf (fun p hp' => hp p (by simp [hp'])) hg H' hv'
      exact ⟨cs', h', E', k1, k2, k3, S.trans k4⟩
    simp only [tokC] at hg
    split at hg
    · rename_i hc
      exact key _ hc (fun u hu => by simp only [VRel] at hu; exact ⟨_, hu⟩) hg
    · rename_i hc
      exact key _ hc (fun u hu => by simp only [VRel] at hu; obtain ⟨a, rfl⟩ := hu; exact ⟨_, rfl⟩) hg
    · exact absurd hg hf

theorem tokV_good {α : Type} {good : α → Prop} {fail : α} (hf : ¬ good fail) {tz : List (Nat × Nat)} {v : AVal} {K : AVal → List AObj → α} (hp : ∀ p ∈ tz, 0 < p.2) (hg : good (tokV fail tz v h K)) (H : HRel CR E h w)
    {u : Value} (hv : VRel v E u) : ∃ v' h' E', good (K v' h') ∧ VRel v' E' u ∧ HRel CR E' h' w ∧ Step E h w E' h' w ∧ (storable v = true → storable v' = true) := by
  have one : ∀ esz, 0 < esz → (∃ a, u = .slice a 0 0) → VRel (newV esz h.length) (E.add h.length none (fun _ => none) E.fz) u := by
    rintro esz h0 ⟨a, rfl⟩
    exact newV_rel
  unfold tokV at hg
  split at hg
  · exact ⟨v, h, E, hg, hv, H, .refl _ _ _, fun h => h⟩
  · split at hg
    · rename_i cs
      simp only [VRel] at hv
      obtain ⟨vs, rfl, h1, h2⟩ := hv
      obtain ⟨cs', h', E', k1, k2, k3, k4⟩ := tokC_good hf hp hg H h1
      exact ⟨_, h', E', k1, by simp only [VRel]; exact ⟨vs, rfl, k2, h2⟩, k3, k4, fun _ => rfl⟩
    · split at hg
      · rename_i esz _
        have h0 := hp _ (List.mem_singleton.2 rfl)
        obtain ⟨H', S⟩ := push_new0 H h0
        exact ⟨_, _, _, hg, one esz h0 (by simp only [VRel] at hv; exact ⟨_, hv⟩), H', S, fun _ => newV_stor⟩
      · exact absurd hg hf
    · split at hg
      · rename_i esz _
        have h0 := hp _ (List.mem_singleton.2 rfl)
        obtain ⟨H', S⟩ := push_new0 H h0
        exact ⟨_, _, _, hg, one esz h0 (by simp only [VRel] at hv; obtain ⟨a, rfl⟩ := hv; exact ⟨_, rfl⟩), H', S, fun _ => newV_stor⟩
      · exact absurd hg hf
    · exact absurd hg hf

/-- The cells of a list of values. -/
def flatC (us : List Value) : List Value := us.flatMap fun u => u.cells.toList

/-- Values of one size. -/
def Sized (esz : Nat) (us : List Value) : Prop := ∀ u ∈ us, u.cells.size = esz ∧ oneC u

theorem rows_of : ∀ {es : List AVal} {us : List Value} {E : Env} {esz : Nat} (rest : List Value), VRels es E us → Sized esz us → RowsRel E esz es (flatC us ++ rest)
  | [], _, _, _, _, _, _ => trivial
  | e :: es, _, E, esz, rest, h, hs => by
    simp only [VRels] at h
    obtain ⟨u, us, rfl, h1, h2⟩ := h
    have := hs u (by simp)
    exact ⟨u, flatC us ++ rest, h1, this.1, this.2, by simp [flatC], rows_of rest h2 (fun x hx => hs x (by simp [hx]))⟩

theorem flatC_length : ∀ {us : List Value} {esz : Nat}, Sized esz us → (flatC us).length = us.length * esz
  | [], _, _ => by simp [flatC]
  | u :: us, esz, hs => by
    have h1 := (hs u (by simp)).1
    have h2 := flatC_length (us := us) (esz := esz) (fun x hx => hs x (by simp [hx]))
    simp only [flatC, List.flatMap_cons, List.length_append, Array.length_toList, List.length_cons] at h2 ⊢
    rw [h1, h2, Nat.succ_mul]; omega

theorem flatC_one {us : List Value} {esz : Nat} (hs : Sized esz us) : ∀ v ∈ flatC us, v.oneCell' = true := by
  intro v hv
  simp only [flatC, List.mem_flatMap] at hv
  obtain ⟨u, hu, hv⟩ := hv
  exact (hs u hu).2 v hv

theorem elems_of : ∀ {es : List AVal} {us : List Value} {E : Env} {esz r off : Nat}, VRels es E us → Sized esz us → (∀ j v, (flatC us)[j]? = some v → E.fz r (off + j) = some v) → Elems es E esz r off
  | [], _, _, _, _, _, _, _, _ => by simp [Elems]
  | e :: es, _, E, esz, r, off, h, hs, hf => by
    simp only [VRels] at h
    obtain ⟨u, us, rfl, h1, h2⟩ := h
    have hu := hs u (by simp)
    simp only [Elems]
    refine ⟨⟨u, h1, hu.1, hu.2, fun j v hj => hf j v ?_⟩, elems_of h2 (fun x hx => hs x (by simp [hx])) fun j v hj => ?_⟩
    · have hl : j < u.cells.toList.length := by simpa using (Array.getElem?_eq_some_iff.1 hj).1
      simp only [flatC, List.flatMap_cons]
      rw [List.getElem?_append_left hl]; simpa using hj
    · have := hf (esz + j) v (by
        simp only [flatC, List.flatMap_cons]
        rw [List.getElem?_append_right (by simp; omega)]
        simpa [hu.1, flatC] using hj)
      rw [show off + esz + j = off + (esz + j) by omega]; exact this

theorem parts_sized : ∀ {es : List AVal} {us : List Value} {E : Env} {esz : Nat}, VRels es E us → partsOk esz es = true → Sized esz us
  | [], _, _, _, h, _ => by simp only [VRels] at h; subst h; intro u hu; simp at hu
  | e :: es, _, E, esz, h, hp => by
    simp only [VRels] at h
    obtain ⟨u, us, rfl, h1, h2⟩ := h
    simp only [partsOk, Bool.and_eq_true, beq_iff_eq] at hp
    intro x hx
    rcases List.mem_cons.1 hx with e | e
    · subst e
      have := (h1.cells hp.1.1).length
      exact ⟨by simp at this; omega, storable_one h1 hp.1.1⟩
    · exact parts_sized h2 hp.2 x e

/-- The frozen cells with a new block's. -/
def frz (E : Env) (r : Nat) (c : List Value) (n : Nat) : Nat → Nat → Option Value :=
  fun r' o => if r' = r then (if o < n then c[o]? else none) else E.fz r' o

end
end Go.Ai
