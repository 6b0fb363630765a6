/- Regions whose order is open: the checker, and that one run stands for every order. -/
import Derived.Test.YtdggbdjpcbiofaaGreatAiOpers
namespace Go.Ai

theorem chkRest_at {P : Program} {eqs : List TypeId} {ops : List Oper} {items : List AItem} {pre : List (List Nat)} : ∀ (L D0 : List AItem), chkRest P eqs ops items pre D0 L = true → ∀ D it R, L = D ++ it :: R → chkAt P eqs ops items pre (D0 ++ D) it R = true
  | [], _, _, D, it, R, e => by cases D <;> simp at e
  | x :: L, D0, h, D, it, R, e => by
    simp only [chkRest, Bool.and_eq_true] at h
    cases D with
    | nil => simp at e; obtain ⟨rfl, rfl⟩ := e; simpa using h.1
    | cons y D =>
      simp at e
      obtain ⟨rfl, e⟩ := e
      have := chkRest_at L (D0 ++ [x]) h.2 D it R e
      simpa using this

theorem nodupB_ok : ∀ {l : List Nat}, nodupB l = true → l.Nodup
  | [], _ => List.nodup_nil
  | x :: l, h => by
    simp only [nodupB, Bool.and_eq_true, Bool.not_eq_true', List.contains_eq_mem, decide_eq_false_iff_not] at h
    exact List.nodup_cons.2 ⟨h.1, nodupB_ok h.2⟩

theorem share_false {x y : AOper} (h : share x y = false) : ∀ t ∈ x.writes, t ∉ y.looks ∧ t ∉ y.writes := by
  intro t ht
  simp only [share, List.any_eq_false, Bool.or_eq_true, List.contains_eq_mem, decide_eq_true_eq, not_or] at h
  exact h t ht

/-- A block of one's own: laid by the region, in no object. -/
structure Fresh (E : Env) (h : List AObj) (w0 w : World) (size r : Nat) : Prop where
  new : w0.heap.size ≤ r
  own : ¬ Own E h r
  fz : ∀ off, E.fz r off = none
  cells : ∃ c t, w.heap[r]? = some (.cells c t (0, 0)) ∧ c.size = size

theorem Fresh.step {E E' : Env} {h h' : List AObj} {w0 w w' : World} {size r : Nat} (f : Fresh E h w0 w size r) (s : Step E h w E' h' w') : Fresh E' h' w0 w' size r := by
  obtain ⟨c, t, hc, hs⟩ := f.cells
  have hlt : r < w.heap.size := (Array.getElem?_eq_some_iff.1 hc).1
  have ho : ¬ Own E' h' r := fun o => (s.own r o).elim f.own (fun x => by omega)
  refine ⟨f.new, ho, fun off => ?_, c, t, (s.keep r hlt f.own).trans hc, hs⟩
  cases hv : E'.fz r off with
  | none => rfl
  | some v =>
    rcases s.fzn r off v hv with x | x | x
    · rw [f.fz off] at x; cases x
    · exact absurd x f.own
    · omega

section
variable {α : Type} {good : α → Prop} {P : Program} {eqs : List TypeId} {n N0 : Nat}

def unl (listed : Array Bool) (it : AItem) : Prop := listed.getD it.idx true = false

/-- Where the run of the interpreter and the machine's stand to each other, in the midst of a region. -/
structure Sim (good : α → Prop) (P : Program) (eqs : List TypeId) (N0 : Nat) (C : Cfg α) (items : List AItem) (pre : List (List Nat)) (E0 : Env) (h0 : List AObj) (w0 : World) (K : St → α) (listed : Array Bool) (a : Act) (w : World)
    (D R : List AItem) (T : List AVal) (h : List AObj) (E : Env) (Fr : List (Tmp × Nat × Nat)) : Prop where
  split : items = D ++ R
  un : ∀ it ∈ R, unl listed it
  eff : ∀ it ∈ D, it.o.op.effect = true → ¬ unl listed it
  closed : ∀ it ∈ items, ¬ unl listed it → ∀ j ∈ preOf pre it.idx, listed.getD j true = true
  H : HRel (CRof P eqs) E h w
  M : Marks N0 E h w a.defers
  st : Step E0 h0 w0 E h w
  tl : T.length ≤ a.tmps.size
  rel : ∀ t, (∀ it ∈ D, unl listed it → t ∉ it.o.writes) → VRel (T.getD t .undef) E (a.tmps.getD t undef)
  ev : ∀ it ∈ D, unl listed it → ∃ v, evalG it.o ⟨T, h⟩ = some v ∧ ∀ d, it.o.dst = some d → d < T.length → T.getD d .undef = v
  gd : good (drawA C (D.filter fun it => it.o.op.reads) R ⟨T, h⟩ K)
  fr : ∀ x ∈ Fr, Fresh E h w0 w x.2.1 x.2.2 ∧ (x.1 < a.tmps.size → a.tmps.getD x.1 undef = .pointer (some ⟨x.2.2, 0, none⟩))
  nd : (Fr.map (·.2.2)).Nodup
  frp : ∀ x ∈ Fr, ∃ p ∈ D, p.o.op = .pend x.2.1 ∧ p.o.dst = some x.1 ∧ ¬ unl listed p
  pn : ∀ it ∈ D, ∀ size d, it.o.op = .pend size → it.o.dst = some d → ¬ unl listed it → (∃ r, (d, size, r) ∈ Fr) ∨ ∃ j ∈ D, ∃ v, j.o.op = .pstore size d v

/-! ### The checker's facts -/

structure At (P : Program) (eqs : List TypeId) (ops : List Oper) (items : List AItem) (pre : List (List Nat)) (D : List AItem) (it : AItem) (R : List AItem) : Prop where
  op : ∃ o, ops[it.idx]? = some o ∧ chkItem P eqs ops items pre it o = true ∧
    (∀ j ∈ preOf pre it.idx, ∃ e ∈ o.after, Region.binds .any e = true ∧ (e.on = j ∨ j ∈ preOf pre e.on)) ∧ (∀ e ∈ o.after, Region.binds .any e = true → e.on ∈ preOf pre it.idx)
  early : ∀ j ∈ preOf pre it.idx, ∃ x ∈ D, x.idx = j
  eff : it.o.op.effect = true → (∀ r ∈ R, it.idx ∈ preOf pre r.idx) ∧ (∀ j ∈ D, share it.o j.o = true → j.idx ∈ preOf pre it.idx) ∧ (∀ r ∈ D, r.o.op.reads = true → r.idx ∈ preOf pre it.idx ∨ r.idx ∈ it.late)
  pure : it.o.op.effect = false → (∀ t ∈ it.o.writes, t ∉ it.o.looks) ∧ (∀ j ∈ D, share it.o j.o = false) ∧ (∀ j ∈ R, share it.o j.o = true → it.idx ∈ preOf pre j.idx)

theorem chkAt_ok {ops : List Oper} {items : List AItem} {pre : List (List Nat)} {D : List AItem} {it : AItem} {R : List AItem} (h : chkAt P eqs ops items pre D it R = true) : At P eqs ops items pre D it R := by
  unfold chkAt at h
  split at h
  · cases h
  · rename_i o ho
    simp only [Bool.and_eq_true, List.all_eq_true, List.any_eq_true, Bool.or_eq_true, Bool.not_eq_true', beq_iff_eq, List.contains_eq_mem, decide_eq_true_eq, Array.mem_toList_iff] at h
    obtain ⟨⟨⟨⟨h1, h2⟩, h3⟩, h4⟩, h5⟩ := h
    refine ⟨⟨o, ho, h1, h2, fun e he hb => (h3 e he).resolve_left (by rw [hb]; simp)⟩, h4, fun he => ?_, fun he => ?_⟩
    · rw [he] at h5
      simp only [Bool.and_eq_true, List.all_eq_true, Bool.or_eq_true, Bool.not_eq_true', List.contains_eq_mem, decide_eq_true_eq] at h5
      refine ⟨h5.1.1, fun j hj hs => (h5.1.2 j hj).resolve_left (by rw [hs]; simp), fun r hr hrd => ?_⟩
      rcases h5.2 r hr with (x | x) | x
      · rw [hrd] at x; cases x
      · exact .inl x
      · exact .inr x
    · rw [he] at h5
      simp only [Bool.and_eq_true, List.all_eq_true, Bool.or_eq_true, Bool.not_eq_true', List.contains_eq_mem, decide_eq_true_eq, decide_eq_false_iff_not] at h5
      exact ⟨h5.1.1, h5.1.2, fun j hj hs => (h5.2 j hj).resolve_left (by rw [hs]; simp)⟩

theorem idx_inj {items : List AItem} (h : (items.map (·.idx)).Nodup) : ∀ x ∈ items, ∀ y ∈ items, x.idx = y.idx → x = y := by
  induction items with
  | nil => intro x hx; cases hx
  | cons z l ih =>
    simp only [List.map_cons, List.nodup_cons] at h
    intro x hx y hy e
    rcases List.mem_cons.1 hx with hx' | hx' <;> rcases List.mem_cons.1 hy with hy' | hy'
    · rw [hx', hy']
    · exact absurd (List.mem_map.2 ⟨y, hy', by rw [← e, hx']⟩) h.1
    · exact absurd (List.mem_map.2 ⟨x, hx', by rw [e, hy']⟩) h.1
    · exact ih h.2 x hx' y hy' e

theorem putL_length (T : List AVal) (d : Option Tmp) (v : AVal) : (putL T d v).length = T.length := by cases d <;> simp [putL]

theorem putL_ne {T : List AVal} {d : Option Tmp} {v : AVal} {t : Tmp} (h : ∀ x, d = some x → x ≠ t) : (putL T d v).getD t .undef = T.getD t .undef := by
  cases d with
  | none => rfl
  | some x => simp only [putL, List.getD_eq_getElem?_getD]; rw [List.getElem?_set_ne (h x rfl)]

theorem putL_eq {T : List AVal} {d : Tmp} {v : AVal} (h : d < T.length) : (putL T (some d) v).getD d .undef = v := by
  simp [putL, List.getD_eq_getElem?_getD, h]

theorem dst_writes {o : AOper} {d : Tmp} (h : o.dst = some d) : d ∈ o.writes := by simp [AOper.writes, h]

variable {C : Cfg α} {ops : List Oper} {items : List AItem} {pre : List (List Nat)} {E0 : Env} {h0 : List AObj} {w0 : World} {K : St → α} {listed : Array Bool} {a : Act} {w : World}

/-- The interpreter's run goes on to the next effect. -/
theorem Sim.catch (hf : ¬ good C.fail) (hk : ∀ D it R, items = D ++ it :: R → At P eqs ops items pre D it R) {h : List AObj} {E : Env} {Fr : List (Tmp × Nat × Nat)} :
    ∀ (R D : List AItem) (T : List AVal), Sim good P eqs N0 C items pre E0 h0 w0 K listed a w D R T h E Fr →
      ∃ D' R' T', Sim good P eqs N0 C items pre E0 h0 w0 K listed a w D' R' T' h E Fr ∧ ∀ it R'', R' = it :: R'' → it.o.op.effect = true
  | [], D, T, S => ⟨D, [], T, S, fun _ _ e => by cases e⟩
  | it :: R, D, T, S => by
    cases he : it.o.op.effect with
    | true => exact ⟨D, it :: R, T, S, fun x _ e => by cases e; exact he⟩
    | false =>
      have A := hk D it R S.split
      obtain ⟨p1, p2, _⟩ := A.pure he
      have hg := S.gd
      simp only [drawA, he] at hg
      cases hv : evalG it.o ⟨T, h⟩ with
      | none => rw [hv] at hg; exact absurd hg hf
      | some v =>
        rw [hv] at hg
        simp only [optK] at hg
        have hdst : ∀ t, t ∉ it.o.writes → (putL T it.o.dst v).getD t .undef = T.getD t .undef := fun t ht => putL_ne fun x hx e => ht (e ▸ dst_writes hx)
        have hun : unl listed it := S.un it (by simp)
        refine Sim.catch hf hk R (D ++ [it]) (putL T it.o.dst v) ⟨by simp [S.split], fun x hx => S.un x (by simp [hx]), ?_, S.closed, S.H, S.M, S.st, by rw [putL_length]; exact S.tl, ?_, ?_, ?_, S.fr, S.nd, ?_, ?_⟩
        · intro x hx hex
          rcases List.mem_append.1 hx with hx | hx
          · exact S.eff x hx hex
          · simp at hx; subst hx; rw [he] at hex; cases hex
        · intro t ht
          rw [hdst t (ht it (by simp) hun)]
          exact S.rel t fun x hx => ht x (by simp [hx])
        · intro x hx hux
          rcases List.mem_append.1 hx with hx | hx
          · obtain ⟨u, k1, k2⟩ := S.ev x hx hux
            have hsh := share_false (p2 x hx)
            refine ⟨u, ?_, fun d hd hlt => ?_⟩
            · rw [evalG_congr (T' := T) fun t ht => hdst t fun hw => (hsh t hw).1 ht]; exact k1
            · rw [hdst d fun hw => (hsh d hw).2 (dst_writes hd)]; exact k2 d hd (by rw [putL_length] at hlt; exact hlt)
          · simp at hx; subst hx
            refine ⟨v, ?_, fun d hd hlt => ?_⟩
            · rw [evalG_congr (T' := T) fun t ht => hdst t fun hw => p1 t hw ht]; exact hv
            · rw [hd]; exact putL_eq (by rw [putL_length] at hlt; exact hlt)
        · have : ((D ++ [it]).filter fun it => it.o.op.reads) = cond it.o.op.reads ((D.filter fun it => it.o.op.reads) ++ [it]) (D.filter fun it => it.o.op.reads) := by
            cases hr : it.o.op.reads <;> simp [List.filter_append, hr]
          rw [this]; exact hg
        · intro x hx
          obtain ⟨p, q1, q2⟩ := S.frp x hx
          exact ⟨p, by simp [q1], q2⟩
        · intro x hx size d h1 h2 h3
          rcases List.mem_append.1 hx with hx | hx
          · rcases S.pn x hx size d h1 h2 h3 with k | ⟨j, hj, k⟩
            · exact .inl k
            · exact .inr ⟨j, by simp [hj], k⟩
          · simp at hx; subst hx; exact absurd hun h3

/-! ### One operation of the machine's order -/

open Classical in
noncomputable def mask (X : Tmp → Prop) (T : List AVal) : List AVal := T.mapIdx fun i v => if X i then .undef else v

theorem mask_out {X : Tmp → Prop} {T : List AVal} {t : Tmp} (h : ¬ X t) : (mask X T).getD t .undef = T.getD t .undef := by
  simp only [mask, List.getD_eq_getElem?_getD, List.getElem?_mapIdx]
  cases T[t]? <;> simp [h]

theorem mask_in {X : Tmp → Prop} {T : List AVal} {t : Tmp} (h : X t) : (mask X T).getD t .undef = .undef := by
  simp only [mask, List.getD_eq_getElem?_getD, List.getElem?_mapIdx]
  cases T[t]? <;> simp [h]

/-- What is written by operations that the interpreter has run and the machine has not. -/
def Ahead (listed : Array Bool) (D : List AItem) (t : Tmp) : Prop := ∃ it ∈ D, unl listed it ∧ t ∈ it.o.writes

theorem Sim.trel {D R : List AItem} {T : List AVal} {h : List AObj} {E : Env} {Fr : List (Tmp × Nat × Nat)} (S : Sim good P eqs N0 C items pre E0 h0 w0 K listed a w D R T h E Fr) : TRel E (mask (Ahead listed D) T) a.tmps := by
  refine ⟨by simp [mask]; exact S.tl, fun t => ?_⟩
  by_cases hx : Ahead listed D t
  · rw [mask_in hx]; simp only [VRel]
  · rw [mask_out hx]; exact S.rel t fun it hi hu ht => hx ⟨it, hi, hu, ht⟩

theorem unl_set {it x : AItem} (hi : it.idx < listed.size) : unl (listed.setIfInBounds it.idx true) x ↔ unl listed x ∧ x.idx ≠ it.idx := by
  unfold unl
  simp only [Array.getD_eq_getD_getElem?]
  by_cases hx : x.idx = it.idx
  · rw [hx, Array.getElem?_setIfInBounds_self_of_lt hi]; simp
  · rw [Array.getElem?_setIfInBounds_ne (fun e => hx e.symm)]; simp [hx]

theorem unl_lt {it : AItem} (h : unl listed it) : it.idx < listed.size := by
  unfold unl at h
  by_cases hl : it.idx < listed.size
  · exact hl
  · rw [Array.getD_eq_getD_getElem?, Array.getElem?_eq_none (by omega)] at h; simp at h

/-- Nothing that comes before it, or that it looks at, is ahead. -/
theorem Sim.not_ahead (hk : ∀ D it R, items = D ++ it :: R → At P eqs ops items pre D it R) (hnd : (items.map (·.idx)).Nodup) {D R : List AItem} {T : List AVal} {h : List AObj} {E : Env} {Fr : List (Tmp × Nat × Nat)} (S : Sim good P eqs N0 C items pre E0 h0 w0 K listed a w D R T h E Fr)
    {it : AItem} (hi : it ∈ items) (hpre : ∀ j ∈ preOf pre it.idx, listed.getD j true = true) {t : Tmp} (ht : t ∈ it.o.looks ∨ (it.o.op.effect = true ∧ t ∈ it.o.writes)) : ¬ Ahead listed D t := by
  rintro ⟨x, hx, hux, hw⟩
  have hxi : x ∈ items := by rw [S.split]; simp [hx]
  have hxe : x.o.op.effect = false := by
    cases he : x.o.op.effect with
    | false => rfl
    | true => exact absurd hux (S.eff x hx he)
  have hsh : share x.o it.o = true := by
    simp only [share, List.any_eq_true, Bool.or_eq_true, List.contains_eq_mem, decide_eq_true_eq]
    rcases ht with ht | ⟨_, ht⟩
    · exact ⟨t, hw, .inl ht⟩
    · exact ⟨t, hw, .inr ht⟩
  obtain ⟨D1, R1, e1⟩ := List.append_of_mem hxi
  obtain ⟨q1, q2, q3⟩ := (hk D1 x R1 e1).pure hxe
  have hcase : it ∈ D1 ∨ it = x ∨ it ∈ R1 := by rw [e1] at hi; simpa using hi
  have hsee : x.idx ∈ preOf pre it.idx → False := fun hm => by
    have := hpre _ hm
    unfold unl at hux
    rw [hux] at this; cases this
  rcases hcase with hc | hc | hc
  · rw [q2 it hc] at hsh; cases hsh
  · subst hc
    rcases ht with ht | ⟨he, _⟩
    · exact q1 t hw ht
    · rw [hxe] at he; cases he
  · exact hsee (q3 it hc hsh)

theorem two_pure (hk : ∀ D it R, items = D ++ it :: R → At P eqs ops items pre D it R) {x y : AItem} (hx : x ∈ items) (hy : y ∈ items) (hne : x ≠ y) (hxe : x.o.op.effect = false) (hye : y.o.op.effect = false) : ∀ t ∈ x.o.writes, t ∉ y.o.writes := by
  intro t h1 h2
  obtain ⟨D1, R1, e1⟩ := List.append_of_mem hx
  have hc : y ∈ D1 ∨ y = x ∨ y ∈ R1 := by rw [e1] at hy; simpa using hy
  rcases hc with hc | hc | hc
  · exact (share_false (((hk D1 x R1 e1).pure hxe).2.1 y hc) t h1).2 h2
  · exact hne hc.symm
  · obtain ⟨D2, R2, e2⟩ := List.append_of_mem hc
    have : items = (D1 ++ x :: D2) ++ y :: R2 := by rw [e1, e2]; simp
    exact (share_false (((hk _ y R2 this).pure hye).2.1 x (by simp)) t h2).2 h1

/-- After an operation that the interpreter has run already. -/
theorem Sim.after (hk : ∀ D it R, items = D ++ it :: R → At P eqs ops items pre D it R) (hnd : (items.map (·.idx)).Nodup) {D R : List AItem} {T : List AVal} {h : List AObj} {E : Env} {Fr Fr' : List (Tmp × Nat × Nat)} (S : Sim good P eqs N0 C items pre E0 h0 w0 K listed a w D R T h E Fr)
    {it : AItem} (hi : it ∈ D) (hu : unl listed it) (hpre : ∀ j ∈ preOf pre it.idx, listed.getD j true = true) {v : AVal} (hv : evalG it.o ⟨T, h⟩ = some v) {u : Value} {E' : Env} {w' : World} (hvu : VRel v E' u) (H' : HRel (CRof P eqs) E' h w') (s : Step E h w E' h w')
    (hfr : Fr' = Fr ∨ ∃ size d, it.o.op = .pend size ∧ it.o.dst = some d ∧ Fr' = (d, size, w.heap.size) :: Fr ∧ Fresh E' h w0 w' size w.heap.size ∧ u = .pointer (some ⟨w.heap.size, 0, none⟩))
    (hpend : ∀ size d, it.o.op = .pend size → it.o.dst = some d → ∃ r, (d, size, r) ∈ Fr') :
    Sim good P eqs N0 C items pre E0 h0 w0 K (listed.setIfInBounds it.idx true) (a.put it.o.dst u) w' D R T h E' Fr' := by
  have hii : it ∈ items := by rw [S.split]; simp [hi]
  have hie : it.o.op.effect = false := by
    cases he : it.o.op.effect with
    | false => rfl
    | true => exact absurd hu (S.eff it hi he)
  have hset : ∀ x : AItem, unl (listed.setIfInBounds it.idx true) x ↔ unl listed x ∧ x.idx ≠ it.idx := fun x => unl_set (unl_lt hu)
  have hne : ∀ x ∈ R, x.idx ≠ it.idx := by
    intro x hx e
    have hnd' := hnd
    rw [S.split, List.map_append] at hnd'
    exact (List.nodup_append.1 hnd').2.2 it.idx (List.mem_map.2 ⟨it, hi, rfl⟩) x.idx (List.mem_map.2 ⟨x, hx, rfl⟩) e.symm
  have hsz : (a.put it.o.dst u).tmps.size = a.tmps.size := by cases it.o.dst <;> simp [Act.put]
  have hput_ne : ∀ t, t ∉ it.o.writes → (a.put it.o.dst u).tmps.getD t undef = a.tmps.getD t undef := by
    intro t ht
    cases hd : it.o.dst with
    | none => rfl
    | some d =>
      have : d ≠ t := fun e => ht (e ▸ dst_writes hd)
      simp only [Act.put, Array.getD_eq_getD_getElem?]
      rw [Array.getElem?_setIfInBounds_ne this]
  have hput_eq : ∀ d, it.o.dst = some d → d < a.tmps.size → (a.put it.o.dst u).tmps.getD d undef = u := by
    intro d hd hlt
    rw [hd]
    simp only [Act.put, Array.getD_eq_getD_getElem?]
    rw [Array.getElem?_setIfInBounds_self_of_lt hlt]; rfl
  have hgetset : ∀ j, listed.getD j true = true → (listed.setIfInBounds it.idx true).getD j true = true := by
    intro j hj
    simp only [Array.getD_eq_getD_getElem?] at hj ⊢
    by_cases e : j = it.idx
    · rw [e, Array.getElem?_setIfInBounds_self_of_lt (unl_lt hu)]; rfl
    · rw [Array.getElem?_setIfInBounds_ne (fun x => e x.symm)]; exact hj
  have hwr : ∀ t ∈ it.o.writes, it.o.dst = some t := by
    intro t ht
    simp only [AOper.writes, List.mem_append] at ht
    rcases ht with ht | ht
    · simpa [Option.mem_toList] using ht
    · cases hop : it.o.op <;> rw [hop] at ht hie <;> simp at ht
      simp [AOp.effect] at hie
  have hpo : ∀ p ∈ D, ¬ unl listed p → p.o.op.effect = false → ∀ t ∈ p.o.writes, t ∉ it.o.writes := fun p hp hpu hpe =>
    two_pure hk (by rw [S.split]; simp [hp]) hii (fun e => hpu (e ▸ hu)) hpe hie
  refine ⟨S.split, fun x hx => (hset x).2 ⟨S.un x hx, hne x hx⟩, fun x hx hex hu' => S.eff x hx hex ((hset x).1 hu').1, ?_, H', by rw [put_defers]; exact S.M.step s, S.st.trans s, by rw [hsz]; exact S.tl, ?_, ?_, S.gd, ?_, ?_, ?_, ?_⟩
  · intro x hx hux j hj
    by_cases hxl : unl listed x
    · have e : x.idx = it.idx := Classical.byContradiction fun hn => hux ((hset x).2 ⟨hxl, hn⟩)
      rw [e] at hj
      exact hgetset j (hpre j hj)
    · exact hgetset j (S.closed x hx hxl j hj)
  · intro t ht
    by_cases hw : t ∈ it.o.writes
    · have hd := hwr t hw
      by_cases hlt : t < T.length
      · obtain ⟨v', k1, k2⟩ := S.ev it hi hu
        rw [hv] at k1
        cases k1
        rw [k2 t hd hlt, hput_eq t hd (Nat.lt_of_lt_of_le hlt S.tl)]
        exact hvu
      · rw [show T.getD t .undef = .undef by rw [List.getD_eq_getElem?_getD, List.getElem?_eq_none (Nat.le_of_not_lt hlt)]; rfl]
        simp only [VRel]
    · rw [hput_ne t hw]
      refine (S.rel t fun x hx hux hwx => ?_).mono _ s.le
      by_cases e : x.idx = it.idx
      · exact hw (idx_inj hnd x (by rw [S.split]; simp [hx]) it hii e ▸ hwx)
      · exact ht x hx ((hset x).2 ⟨hux, e⟩) hwx
  · intro x hx hux
    exact S.ev x hx ((hset x).1 hux).1
  · have old : ∀ x ∈ Fr, Fresh E' h w0 w' x.2.1 x.2.2 ∧ (x.1 < (a.put it.o.dst u).tmps.size → (a.put it.o.dst u).tmps.getD x.1 undef = .pointer (some ⟨x.2.2, 0, none⟩)) := by
      intro x hx
      obtain ⟨k1, k2⟩ := S.fr x hx
      refine ⟨k1.step s, fun hlt => ?_⟩
      obtain ⟨p, q1, q2, q3, q4⟩ := S.frp x hx
      rw [hput_ne x.1 (hpo p q1 q4 (by rw [q2]; rfl) x.1 (dst_writes q3))]
      exact k2 (by rw [hsz] at hlt; exact hlt)
    rcases hfr with rfl | ⟨size, d, hop, hd, rfl, hfresh, rfl⟩
    · exact old
    · intro x hx
      rcases List.mem_cons.1 hx with rfl | hx
      · exact ⟨hfresh, fun hlt => hput_eq d hd (by rw [hsz] at hlt; exact hlt)⟩
      · exact old x hx
  · rcases hfr with rfl | ⟨size, d, hop, hd, rfl, hfresh, rfl⟩
    · exact S.nd
    · simp only [List.map_cons, List.nodup_cons]
      refine ⟨fun hm => ?_, S.nd⟩
      obtain ⟨x, hx, e⟩ := List.mem_map.1 hm
      obtain ⟨c, t, hc, _⟩ := (S.fr x hx).1.cells
      have := (Array.getElem?_eq_some_iff.1 hc).1
      omega
  · have old : ∀ x ∈ Fr, ∃ p ∈ D, p.o.op = .pend x.2.1 ∧ p.o.dst = some x.1 ∧ ¬ unl (listed.setIfInBounds it.idx true) p := by
      intro x hx
      obtain ⟨p, q1, q2, q3, q4⟩ := S.frp x hx
      exact ⟨p, q1, q2, q3, fun hp => q4 ((hset p).1 hp).1⟩
    rcases hfr with rfl | ⟨size, d, hop, hd, rfl, hfresh, rfl⟩
    · exact old
    · intro x hx
      rcases List.mem_cons.1 hx with rfl | hx
      · exact ⟨it, hi, hop, hd, fun hp => ((hset it).1 hp).2 rfl⟩
      · exact old x hx
  · intro x hx size d h1 h2 h3
    have hsub : ∀ y, y ∈ Fr → y ∈ Fr' := by
      intro y hy
      rcases hfr with rfl | ⟨_, _, _, _, rfl, _⟩
      · exact hy
      · simp [hy]
    by_cases hxl : unl listed x
    · have e : x.idx = it.idx := Classical.byContradiction fun hn => h3 ((hset x).2 ⟨hxl, hn⟩)
      have := idx_inj hnd x (by rw [S.split]; simp [hx]) it hii e
      subst this
      exact .inl (hpend size d h1 h2)
    · rcases S.pn x hx size d h1 h2 hxl with ⟨r, k⟩ | k
      · exact .inl ⟨r, hsub _ k⟩
      · exact .inr k

/-- What the machine does with an operation without effect that the interpreter has run already. -/
theorem Sim.pure_step (EQ : ∀ t, eqs.contains t = true → EqPlain P t) (hk : ∀ D it R, items = D ++ it :: R → At P eqs ops items pre D it R) (hnd : (items.map (·.idx)).Nodup) {ro : Option Nat} {D R : List AItem} {T : List AVal} {h : List AObj} {E : Env} {Fr : List (Tmp × Nat × Nat)}
    (S : Sim good P eqs N0 C items pre E0 h0 w0 K listed a w D R T h E Fr) {it : AItem} (hi : it ∈ D) (hu : unl listed it) (hpre : ∀ j ∈ preOf pre it.idx, listed.getD j true = true) {Q : Exit → Act → World → Prop} {K' : Act → World → Prop}
    (hK : ∀ u E' w' Fr', Sim good P eqs N0 C items pre E0 h0 w0 K (listed.setIfInBounds it.idx true) (a.put it.o.dst u) w' D R T h E' Fr' → K' (a.put it.o.dst u) w') : wpOpIn (fenceOf ro) n P ops.toArray Q it.idx K' a w := by
  have hii : it ∈ items := by rw [S.split]; simp [hi]
  have hie : it.o.op.effect = false := by
    cases he : it.o.op.effect with
    | false => rfl
    | true => exact absurd hu (S.eff it hi he)
  obtain ⟨D1, R1, e1⟩ := List.append_of_mem hii
  obtain ⟨o, ho, hci, _, _⟩ := (hk D1 it R1 e1).op
  have hget : ops.toArray[it.idx]? = some o := by rw [List.getElem?_toArray]; exact ho
  obtain ⟨v, hv, _⟩ := S.ev it hi hu
  have hT := S.trel
  have hvm : evalG it.o ⟨mask (Ahead listed D) T, h⟩ = some v := by
    rw [evalG_congr (T' := T) fun t ht => mask_out (S.not_ahead hk hnd hii hpre (.inl ht))]; exact hv
  unfold wpOpIn
  simp only [hget]
  by_cases hp : ∃ size, it.o.op = .pend size
  · obtain ⟨size, hop⟩ := hp
    unfold chkItem at hci
    rw [hop] at hci
    simp only [Bool.and_eq_true, beq_iff_eq, Option.isNone_iff_eq_none] at hci
    obtain ⟨⟨⟨⟨⟨hc, hd⟩, hds⟩, hg⟩, hg'⟩, _⟩ := hci
    obtain ⟨d, hd'⟩ := Option.isSome_iff_exists.1 hds
    split at hc
    · rename_i t hot
      split at hc
      · rename_i i hinfo
        split at hc
        · rename_i z hz
          have hc := of_decide_eq_true hc
          have hw : Region.wanted o (yielded ops.toArray a.tmps) = true := by simp [Region.wanted, hg]
          have hzero : (zeroValue t).run P w = .ok z w := by simp [zeroValue, typeInfo, hinfo, hz]
          have hrun : (execOp a.eval o).run P w = .ok (.value (.pointer (some ⟨w.heap.size, 0, none⟩))) (w.alloc (.cells z.cells t)) := by
            simp only [execOp, hot]
            refine run_v ?_
            simp only [Instr.alloc, Sem.run_bind, hzero, Result.andThen_ok, newVar, newRow, run_newObj, Sem.run_pure]
            rfl
          simp only [hw, if_true]
          refine ⟨fun _ _ => trivial, ?_⟩
          rw [Oper.semAt_eq _ _ _ (by rw [hot]; intro c e; cases e), hrun]
          simp only [Oper.uponIn]
          rw [hd]
          obtain ⟨H', s⟩ := S.H.grow (f := E.fz) (w' := w.alloc (.cells z.cells t)) (by simp) (alloc_old w _) (fun _ _ _ h => h) (fun _ _ _ => rfl) (fun r o v hr hv => by have := S.H.fz_lt hv; omega)
          have hvu : v = .undef := by
            have : evalG it.o ⟨T, h⟩ = some .undef := by simp [evalG, guardA, hg', evalA, hop, opA]
            rw [hv] at this; exact Option.some.inj this
          refine hK _ _ _ _ (S.after hk hnd hi hu hpre hv (Fr' := (d, size, w.heap.size) :: Fr) (u := .pointer (some ⟨w.heap.size, 0, none⟩)) (by rw [hvu]; simp only [VRel]) H' s (.inr ⟨size, d, hop, hd', rfl, ?_, rfl⟩) fun size' d' k1 k2 => ?_)
          · refine ⟨S.st.size, fun o => ?_, fun off => S.H.fz_new (Nat.le_refl _), z.cells, t, (by show (w.heap.push _)[w.heap.size]? = _; rw [Array.getElem?_push_size]), hc⟩
            have := S.H.own_lt (E := E) o
            omega
          · rw [hop] at k1; cases k1
            rw [hd'] at k2; cases k2
            exact ⟨w.heap.size, by simp⟩
        · cases hc
      · cases hc
    · cases hc
  · have hco : chkOper P eqs ops o it.o = true := by
      unfold chkItem at hci
      split at hci
      · rename_i size hop; exact absurd ⟨size, hop⟩ hp
      · rename_i size d x hop; rw [hop] at hie; simp [AOp.effect] at hie
      · exact hci
    simp only [chkOper, Bool.and_eq_true, beq_iff_eq] at hco
    obtain ⟨⟨hd, hg⟩, hop⟩ := hco
    have hcall : isCall it.o.op = false := by
      cases hx : it.o.op <;> simp [isCall]
      rw [hx] at hie; simp [AOp.effect] at hie
    rw [hcall] at hop
    simp only [cond_false] at hop
    have hnp : ∀ size d, it.o.op = .pend size → it.o.dst = some d → ∃ r, (d, size, r) ∈ Fr := fun size d e _ => absurd ⟨size, e⟩ hp
    have hfn : ¬ ((none : Option AVal) = some v) := by intro e; cases e
    rcases guard_ok (good := (· = some v)) hfn hg (st := ⟨mask (Ahead listed D) T, h⟩) hT hvm with ⟨hw, he⟩ | ⟨hw, he⟩
    · classical
      simp only [hw, if_true]
      refine ⟨fun _ _ => trivial, ?_⟩
      rw [Oper.semAt_eq _ _ _ (chkOp_defer hop)]
      have he' : opA (α := Option AVal) ⟨none, fun _ _ _ _ => none, fun _ _ _ => none, 0⟩ it.o.op ⟨mask (Ahead listed D) T, h⟩ (fun v' h' => if h' = h then some v' else none) = some v := by
        rw [opA_still _ _ hie]
        simp only [if_true]
        exact he
      obtain ⟨v', u, h', E', w', k1, k2, k3, k4, k5⟩ := op_sound (good := (· = some v)) (C := ⟨none, fun _ _ _ _ => none, fun _ _ _ => none, 0⟩) hfn EQ hop hT S.H he'
      have hh : h' = h ∧ v' = v := by
        have k1 : (if h' = h then some v' else none) = some v := k1
        by_cases e : h' = h
        · rw [if_pos e] at k1; exact ⟨e, Option.some.inj k1⟩
        · rw [if_neg e] at k1; cases k1
      obtain ⟨rfl, rfl⟩ := hh
      rcases k2 with k2 | ⟨k2, rfl⟩
      · rw [k2]; simp only [Oper.uponIn]; rw [hd]
        exact hK _ _ _ _ (S.after hk hnd hi hu hpre hv k3 k4 k5 (.inl rfl) hnp)
      · rw [k2]; simp only [Oper.uponIn]; rw [hd]
        exact hK _ _ _ _ (S.after hk hnd hi hu hpre hv k3 k4 k5 (.inl rfl) hnp)
    · simp only [hw, Bool.false_eq_true, if_false]
      refine ⟨fun _ _ => trivial, ?_⟩
      rw [hd]
      have hvt : v = .tuple [] := (Option.some.inj he).symm
      exact hK _ _ _ _ (S.after hk hnd hi hu hpre hv (u := undef) (by rw [hvt]; simp only [VRel]; exact ⟨#[], rfl, by simp [VRels]⟩) S.H (.refl _ _ _) (.inl rfl) hnp)

/-! ### Effects -/

theorem late_ok (hf : ¬ good C.fail) (hs : ∀ x y k, good (C.same x y k) → x = y ∧ good k) : ∀ (l : List AItem) (st : St) (k : α), good (lateA C l st k) → good k ∧ ∀ r ∈ l, ∃ v, evalG r.o st = some v ∧ ∀ d, r.o.dst = some d → st.tmps.getD d .undef = v
  | [], _, _, h => ⟨h, fun _ h => by cases h⟩
  | it :: l, st, k, h => by
    simp only [lateA] at h
    split at h
    · rename_i d hd
      cases hv : evalG it.o st with
      | none => rw [hv] at h; exact absurd h hf
      | some v =>
        rw [hv] at h
        simp only [optK] at h
        obtain ⟨e, h⟩ := hs _ _ _ h
        obtain ⟨k1, k2⟩ := late_ok hf hs l st k h
        refine ⟨k1, fun r hr => ?_⟩
        rcases List.mem_cons.1 hr with rfl | hr
        · exact ⟨v, hv, fun d' hd' => by rw [hd] at hd'; cases hd'; exact e.symm⟩
        · exact k2 r hr
    · exact absurd h hf

theorem Sim.effect_after (hk : ∀ D it R, items = D ++ it :: R → At P eqs ops items pre D it R) (hnd : (items.map (·.idx)).Nodup) {D R : List AItem} {it : AItem} {T : List AVal} {h : List AObj} {E : Env} {Fr : List (Tmp × Nat × Nat)} (S : Sim good P eqs N0 C items pre E0 h0 w0 K listed a w D (it :: R) T h E Fr)
    (he : it.o.op.effect = true) (hpre : ∀ j ∈ preOf pre it.idx, listed.getD j true = true) {T' : List AVal} {h' : List AObj} {E' : Env} {a' : Act} {w' : World} {Fr' : List (Tmp × Nat × Nat)}
    (t1 : T'.length = T.length) (t2 : ∀ t, t ∉ it.o.writes → T'.getD t .undef = T.getD t .undef) (a1 : a'.tmps.size = a.tmps.size) (a2 : ∀ t, t ∉ it.o.writes → a'.tmps.getD t undef = a.tmps.getD t undef)
    (ta : ∀ t ∈ it.o.writes, VRel (T'.getD t .undef) E' (a'.tmps.getD t undef)) (hle : E.le E') (H' : HRel (CRof P eqs) E' h' w') (M' : Marks N0 E' h' w' a'.defers) (st' : Step E0 h0 w0 E' h' w')
    (hlate : ∀ x ∈ D, unl listed x → x.o.op.reads = true → ∃ v, evalG x.o ⟨T', h'⟩ = some v ∧ ∀ d, x.o.dst = some d → d < T.length → T'.getD d .undef = v)
    (hg : good (drawA C (D.filter fun it => it.o.op.reads) R ⟨T', h'⟩ K))
    (fr : ∀ x ∈ Fr', Fresh E' h' w0 w' x.2.1 x.2.2 ∧ (x.1 < a'.tmps.size → a'.tmps.getD x.1 undef = .pointer (some ⟨x.2.2, 0, none⟩))) (nd : (Fr'.map (·.2.2)).Nodup) (frs : ∀ x ∈ Fr', x ∈ Fr)
    (pn : ∀ x ∈ Fr, x ∈ Fr' ∨ ∃ v, it.o.op = .pstore x.2.1 x.1 v) :
    Sim good P eqs N0 C items pre E0 h0 w0 K (listed.setIfInBounds it.idx true) a' w' (D ++ [it]) R T' h' E' Fr' := by
  have hun := S.un it (by simp)
  have hset : ∀ x : AItem, unl (listed.setIfInBounds it.idx true) x ↔ unl listed x ∧ x.idx ≠ it.idx := fun x => unl_set (unl_lt hun)
  have A := hk D it R S.split
  obtain ⟨_, q2, _⟩ := A.eff he
  have hits : it ∈ items := by rw [S.split]; simp
  have hgetset : ∀ j, listed.getD j true = true → (listed.setIfInBounds it.idx true).getD j true = true := by
    intro j hj
    simp only [Array.getD_eq_getD_getElem?] at hj ⊢
    by_cases e : j = it.idx
    · rw [e, Array.getElem?_setIfInBounds_self_of_lt (unl_lt hun)]; rfl
    · rw [Array.getElem?_setIfInBounds_ne (fun x => e x.symm)]; exact hj
  have hsh : ∀ x ∈ D, unl listed x → ∀ t ∈ it.o.writes, t ∉ x.o.looks ∧ t ∉ x.o.writes := by
    intro x hx hux
    refine share_false ?_
    cases hs : share it.o x.o with
    | false => rfl
    | true =>
      have := hpre _ (q2 x hx hs)
      unfold unl at hux
      rw [hux] at this; cases this
  have hne : ∀ x ∈ R, x.idx ≠ it.idx := by
    intro x hx e
    have hnd' := hnd
    rw [S.split, List.map_append, List.map_cons] at hnd'
    have := (List.nodup_cons.1 (List.nodup_append.1 hnd').2.1).1
    exact this (e ▸ List.mem_map.2 ⟨x, hx, rfl⟩)
  have hnit : ¬ unl (listed.setIfInBounds it.idx true) it := fun hu => ((hset it).1 hu).2 rfl
  refine ⟨by simp [S.split], fun x hx => (hset x).2 ⟨S.un x (by simp [hx]), hne x hx⟩, ?_, ?_, H', M', st', by rw [t1, a1]; exact S.tl, ?_, ?_, ?_, fr, nd, ?_, ?_⟩
  · intro x hx hex hu
    rcases List.mem_append.1 hx with hx | hx
    · exact S.eff x hx hex ((hset x).1 hu).1
    · simp at hx; subst hx; exact hnit hu
  · intro x hx hux j hj
    by_cases hxl : unl listed x
    · have e : x.idx = it.idx := Classical.byContradiction fun hn => hux ((hset x).2 ⟨hxl, hn⟩)
      rw [e] at hj
      exact hgetset j (hpre j hj)
    · exact hgetset j (S.closed x hx hxl j hj)
  · intro t ht
    by_cases hw : t ∈ it.o.writes
    · exact ta t hw
    · rw [t2 t hw, a2 t hw]
      refine (S.rel t fun x hx hux hwx => ?_).mono _ hle
      by_cases e : x.idx = it.idx
      · have := idx_inj hnd x (by rw [S.split]; simp [hx]) it hits e
        subst this
        exact hw hwx
      · exact ht x (by simp [hx]) ((hset x).2 ⟨hux, e⟩) hwx
  · intro x hx hux
    rcases List.mem_append.1 hx with hx | hx
    · have hux' := ((hset x).1 hux).1
      cases hr : x.o.op.reads with
      | true =>
        obtain ⟨v, k1, k2⟩ := hlate x hx hux' hr
        exact ⟨v, k1, fun d hd hlt => k2 d hd (by rw [t1] at hlt; exact hlt)⟩
      | false =>
        obtain ⟨v, k1, k2⟩ := S.ev x hx hux'
        have hxe : x.o.op.effect = false := by
          cases hxe : x.o.op.effect with
          | false => rfl
          | true => exact absurd hux' (S.eff x hx hxe)
        refine ⟨v, ?_, fun d hd hlt => ?_⟩
        · rw [evalG_blind hxe hr (h' := h), evalG_congr (T' := T) fun t ht => t2 t fun hw => (hsh x hx hux' t hw).1 ht]; exact k1
        · rw [t2 d fun hw => (hsh x hx hux' d hw).2 (dst_writes hd)]; exact k2 d hd (by rw [t1] at hlt; exact hlt)
    · simp at hx; subst hx; exact absurd hux hnit
  · have : ((D ++ [it]).filter fun it => it.o.op.reads) = D.filter fun it => it.o.op.reads := by
      have hr : it.o.op.reads = false := by cases hop : it.o.op <;> rw [hop] at he <;> simp [AOp.effect] at he <;> rfl
      simp [List.filter_append, hr]
    rw [this]; exact hg
  · intro x hx
    obtain ⟨p, k1, k2, k3, k4⟩ := S.frp x (frs x hx)
    exact ⟨p, by simp [k1], k2, k3, fun hu => k4 ((hset p).1 hu).1⟩
  · intro x hx size d h1 h2 h3
    rcases List.mem_append.1 hx with hx | hx
    · have hxl : ¬ unl listed x := by
        intro hxl
        have e : x.idx = it.idx := Classical.byContradiction fun hn => h3 ((hset x).2 ⟨hxl, hn⟩)
        have := idx_inj hnd x (by rw [S.split]; simp [hx]) it hits e
        subst this
        rw [h1] at he; simp [AOp.effect] at he
      rcases S.pn x hx size d h1 h2 hxl with ⟨r, k⟩ | ⟨j, hj, k⟩
      · rcases pn _ k with k | ⟨v, k⟩
        · exact .inl ⟨r, k⟩
        · exact .inr ⟨it, by simp, v, k⟩
      · exact .inr ⟨j, by simp [hj], k⟩
    · simp at hx; subst hx; rw [h1] at he; simp [AOp.effect] at he

theorem own_add {CR : Code → ACode → Prop} {E : Env} {h : List AObj} {w : World} (H : HRel CR E h w) {r k : Nat} {esz : Nat} {es : List AVal} (o : Own (E.add h.length (some r) (fun _ => none) E.fz) (h ++ [.rows esz es]) k) : Own E h k ∨ k = r := by
  obtain ⟨b, x, hb, hr⟩ := o
  rcases Nat.lt_trichotomy b h.length with hlt | heq | hgt
  · rw [List.getElem?_append_left hlt] at hb
    rw [realOf_add (by omega)] at hr
    exact .inl ⟨b, x, hb, hr⟩
  · subst heq
    simp at hb
    subst hb
    simp only [realOf, Env.add, if_true, Option.some.injEq] at hr
    exact .inr hr.symm
  · rw [List.getElem?_eq_none (by simp; omega)] at hb; cases hb

/-- A block of one's own becomes an object. -/
theorem HRel.adopt {CR : Code → ACode → Prop} {E : Env} {h : List AObj} {w : World} (H : HRel CR E h w) {r : Nat} {esz : Nat} {es : List AVal} {w' : World} (hno : ¬ Own E h r) (hfz : ∀ off, E.fz r off = none)
    (hoth : ∀ k, k ≠ r → w'.heap[k]? = w.heap[k]?) (hobj : ORel CR (E.add h.length (some r) (fun _ => none) E.fz) w' h.length (.rows esz es)) : HRel CR (E.add h.length (some r) (fun _ => none) E.fz) (h ++ [.rows esz es]) w' := by
  have hle := H.add_le (r := some r) (t := fun _ => none) (f := E.fz) fun _ _ _ h => h
  have hget : ∀ b x, (h ++ [.rows esz es])[b]? = some x → (b < h.length ∧ h[b]? = some x) ∨ (b = h.length ∧ x = .rows esz es) := by
    intro b x hb
    rcases Nat.lt_trichotomy b h.length with hlt | heq | hgt
    · rw [List.getElem?_append_left hlt] at hb; exact .inl ⟨hlt, hb⟩
    · subst heq; simp at hb; exact .inr ⟨rfl, hb.symm⟩
    · rw [List.getElem?_eq_none (by simp; omega)] at hb; cases hb
  have hnew : ∀ r', realOf (E.add h.length (some r) (fun _ => none) E.fz) h.length (.rows esz es) = some r' → r' = r := by
    intro r' hr; simp only [realOf, Env.add, if_true, Option.some.injEq] at hr; exact hr.symm
  refine ⟨?_, ?_, ?_, ?_, ?_, ?_⟩
  · intro b x hb
    rcases hget b x hb with ⟨hlt, hb⟩ | ⟨rfl, rfl⟩
    · exact (H.obj b x hb).pres hle (by simp only [Env.add]; rw [if_neg (by omega)]) fun r' hr => ⟨hoth r' fun e => hno (e ▸ ⟨b, x, hb, hr⟩), fun _ h => h⟩
    · exact hobj
  · intro b x b' x' r' hb hb' hr hr'
    rcases hget b x hb with ⟨hlt, hb1⟩ | ⟨e1, e2⟩
    · rw [realOf_add (by omega)] at hr
      rcases hget b' x' hb' with ⟨hlt', hb2⟩ | ⟨e3, e4⟩
      · rw [realOf_add (by omega)] at hr'; exact H.inj b x b' x' r' hb1 hb2 hr hr'
      · subst e3; subst e4
        rw [hnew r' hr'] at hr
        exact absurd ⟨b, x, hb1, hr⟩ hno
    · rcases hget b' x' hb' with ⟨hlt', hb2⟩ | ⟨e3, e4⟩
      · subst e1; subst e2
        rw [realOf_add (by omega)] at hr'
        rw [hnew r' hr] at hr'
        exact absurd ⟨b', x', hb2, hr'⟩ hno
      · rw [e1, e3]
  · intro r' off v hv
    have hv : E.fz r' off = some v := hv
    have hne : r' ≠ r := fun e => by rw [e, hfz off] at hv; cases hv
    have := H.fz r' off v hv
    simp only [World.cell?] at this ⊢
    rw [hoth r' hne]; exact this
  · intro b x r' hb hr hx off
    rcases hget b x hb with ⟨hlt, hb⟩ | ⟨rfl, rfl⟩
    · rw [realOf_add (by omega)] at hr
      exact H.sep b x r' hb hr hx off
    · rw [hnew r' hr]; exact hfz off
  · intro b r' hb
    simp only [Env.add] at hb
    split at hb
    · simp; omega
    · have := H.dom b r' hb; simp; omega
  · intro b n x hb
    simp only [Env.add] at hb
    split at hb
    · cases hb
    · obtain ⟨o', ho, hn⟩ := H.domt b n x hb
      exact ⟨o', by rw [List.getElem?_append_left (H.domt_lt hb)]; exact ho, hn.mono (hle.ρ b)⟩

theorem act_put_size (a : Act) (d : Option Tmp) (u : Value) : (a.put d u).tmps.size = a.tmps.size := by cases d <;> simp [Act.put]

theorem act_put_ne {a : Act} {d : Option Tmp} {u : Value} {t : Tmp} (h : d ≠ some t) : (a.put d u).tmps.getD t undef = a.tmps.getD t undef := by
  cases d with
  | none => rfl
  | some x =>
    simp only [Act.put, Array.getD_eq_getD_getElem?]
    rw [Array.getElem?_setIfInBounds_ne (fun e => h (by rw [e]))]

theorem effect_writes {o : AOper} (hp : ∀ s d v, o.op ≠ .pstore s d v) {t : Tmp} (ht : t ∈ o.writes) : o.dst = some t := by
  simp only [AOper.writes, List.mem_append] at ht
  rcases ht with ht | ht
  · simpa [Option.mem_toList] using ht
  · cases ht

theorem pend_only (hk : ∀ D it R, items = D ++ it :: R → At P eqs ops items pre D it R) {p : AItem} (hpi : p ∈ items) {size : Nat} {d : Tmp} (h1 : p.o.op = .pend size) (h2 : p.o.dst = some d) : ∀ j ∈ items, d ∈ j.o.writes → j.idx = p.idx ∨ ∃ v, j.o.op = .pstore size d v := by
  intro j hj hw
  obtain ⟨D1, R1, e1⟩ := List.append_of_mem hpi
  obtain ⟨o, ho, hci, _⟩ := (hk D1 p R1 e1).op
  unfold chkItem at hci
  rw [h1] at hci
  simp only [Bool.and_eq_true, h2, Option.toList_some, List.all_cons, List.all_nil, Bool.and_true, List.all_eq_true, Bool.or_eq_true, Bool.not_eq_true', List.contains_eq_mem, decide_eq_false_iff_not, beq_iff_eq] at hci
  rcases hci.2 j hj with (k | k) | k
  · exact absurd hw k
  · exact .inl k
  · unfold isPst at k
    split at k
    · rename_i s d' v hop
      simp only [Bool.and_eq_true, beq_iff_eq] at k
      obtain ⟨rfl, rfl⟩ := k
      exact .inr ⟨v, hop⟩
    · cases k

/-- After an effect that is no store of the region's own. -/
theorem Sim.plain_after (hf : ¬ good C.fail) (hs : ∀ x y k, good (C.same x y k) → x = y ∧ good k) (hk : ∀ D it R, items = D ++ it :: R → At P eqs ops items pre D it R) (hnd : (items.map (·.idx)).Nodup) {D R : List AItem} {it : AItem} {T : List AVal} {h : List AObj} {E : Env} {Fr : List (Tmp × Nat × Nat)}
    (S : Sim good P eqs N0 C items pre E0 h0 w0 K listed a w D (it :: R) T h E Fr) (he : it.o.op.effect = true) (hp : ∀ s d v, it.o.op ≠ .pstore s d v) (hpre : ∀ j ∈ preOf pre it.idx, listed.getD j true = true) {v : AVal} {u : Value} {h' : List AObj} {E' : Env} {w' : World}
    (hv : VRel v E' u) (H' : HRel (CRof P eqs) E' h' w') (s : Step E h w E' h' w') (hg : good (drawA C (D.filter fun it => it.o.op.reads) R ⟨putL T it.o.dst v, h'⟩ K))
    (hlate : ∀ x ∈ D, unl listed x → x.o.op.reads = true → ∃ z, evalG x.o ⟨putL T it.o.dst v, h'⟩ = some z ∧ ∀ d, x.o.dst = some d → d < T.length → (putL T it.o.dst v).getD d .undef = z) :
    Sim good P eqs N0 C items pre E0 h0 w0 K (listed.setIfInBounds it.idx true) (a.put it.o.dst u) w' (D ++ [it]) R (putL T it.o.dst v) h' E' Fr := by
  have hits : it ∈ items := by rw [S.split]; simp
  have hun := S.un it (by simp)
  refine S.effect_after hk hnd he hpre (putL_length _ _ _) (fun t ht => putL_ne fun x hx e => ht (e ▸ dst_writes hx)) (act_put_size _ _ _) (fun t ht => act_put_ne fun e => ht (dst_writes e)) ?_ s.le H' (by rw [put_defers]; exact S.M.step s) (S.st.trans s) hlate hg ?_ S.nd (fun _ h => h) (fun _ h => .inl h)
  · intro t ht
    have hd := effect_writes hp ht
    by_cases hlt : t < T.length
    · rw [hd, putL_eq hlt]
      simp only [Act.put, Array.getD_eq_getD_getElem?]
      rw [Array.getElem?_setIfInBounds_self_of_lt (Nat.lt_of_lt_of_le hlt S.tl)]
      exact hv
    · rw [show (putL T it.o.dst v).getD t .undef = .undef by rw [List.getD_eq_getElem?_getD, List.getElem?_eq_none (by rw [putL_length]; exact Nat.le_of_not_lt hlt)]; rfl]
      simp only [VRel]
  · intro x hx
    obtain ⟨k1, k2⟩ := S.fr x hx
    refine ⟨k1.step s, fun hlt => ?_⟩
    obtain ⟨p, q1, q2, q3, q4⟩ := S.frp x hx
    rw [act_put_size] at hlt
    rw [act_put_ne fun e => ?_]
    · exact k2 hlt
    · -- 'it' does not write what a pending block is held by
      have hpi : p ∈ items := by rw [S.split]; simp [q1]
      rcases pend_only hk hpi q2 q3 it hits (dst_writes e) with k | ⟨v, k⟩
      · have := idx_inj hnd it hits p hpi k
        subst this
        exact q4 hun
      · exact hp _ _ _ k

theorem oper_wide {C : Cfg α} (hf : ¬ good C.fail) (EQ : ∀ t, eqs.contains t = true → EqPlain P t) (HC : HOK good (CRof P eqs) P C.H) {ops : List Oper} {o : Oper} {ao : AOper} (hk : chkOper P eqs ops o ao = true)
    {ro : Option Nat} {E : Env} {st : St} {a : Act} {w : World} (T : TRel E st.tmps a.tmps) (H : HRel (CRof P eqs) E st.heap w) {K1 : AVal → List AObj → α} (h : good (opA C ao.op st K1)) {next : Act → World → Prop} {Q : Exit → Act → World → Prop}
    (hn : ∀ v u h' E' w', good (K1 v h') → VRel v E' u → HRel (CRof P eqs) E' h' w' → Step E st.heap w E' h' w' → next (a.put o.dst u) w') : o.wpIn (fenceOf ro) n P a w next Q := by
  refine ⟨fun _ _ => trivial, ?_⟩
  simp only [chkOper, Bool.and_eq_true, beq_iff_eq] at hk
  obtain ⟨⟨hd, _⟩, hk⟩ := hk
  cases hc : isCall ao.op with
  | true =>
    rw [hc] at hk
    simp only [cond_true] at hk
    unfold chkCall at hk
    split at hk
    · rename_i f as ts f' as' h1 h2
      simp only [Bool.and_eq_true] at hk
      rw [h2] at h
      simp only [opA] at h
      obtain ⟨d, hd1, hd2⟩ := HC.call _ _ _ _ E w (a.eval f) (as.map a.eval) h (argOk_rel hk.1 T) (by simpa using argsOk_rel hk.2 T) H
      have hsem : o.semAt (fenceOf ro).round a.eval = execOp a.eval o := Oper.semAt_eq _ _ _ (by rw [h1]; intro c e; cases e)
      rw [hsem]
      have hrun : (execOp a.eval o).run P w = (invoke d.target d.args).run P w := by
        simp only [execOp, h1, resolve, Sem.run_bind, hd1, Result.andThen_ok]
      rw [hrun]
      split at hd2
      · rename_i v w' hr
        rw [hr]
        obtain ⟨z, h', E', k1, k2, k3, k4⟩ := hd2
        exact hn _ _ _ _ _ k1 k2 k3 k4
      · rename_i g as' w' hr
        rw [hr]
        simp only [Oper.uponIn]
        refine ⟨fun e => by simp [fenceOf] at e, callsIn_open (hd2.mono fun e w'' he => ?_)⟩
        cases e with
        | returned v =>
          obtain ⟨z, h', E', k1, k2, k3, k4⟩ := he
          exact hn _ _ _ _ _ k1 k2 k3 k4
        | panicked c => exact he.elim
        | outgrown => exact he.elim
      · rename_i l f tmps assign body w' hr
        rw [hr]
        simp only [Oper.uponIn]
        refine ⟨fun e => by simp [fenceOf] at e, roundIn_open (hd2.mono fun e w'' he => ?_)⟩
        cases e with
        | returned v =>
          obtain ⟨z, h', E', k1, k2, k3, k4⟩ := he
          exact hn _ _ _ _ _ k1 k2 k3 k4
        | panicked c => exact he.elim
        | outgrown => exact he.elim
      · exact hd2.elim
    · cases hk
  | false =>
    rw [hc] at hk
    simp only [cond_false] at hk
    rw [Oper.semAt_eq _ _ _ (chkOp_defer hk)]
    obtain ⟨v, u, h', E', w', k1, k2, k3, k4, k5⟩ := op_sound hf EQ hk T H h
    rcases k2 with k2 | ⟨k2, rfl⟩
    · rw [k2]; exact hn _ _ _ _ _ k1 k3 k4 k5
    · rw [k2]; exact hn _ _ _ _ _ k1 k3 k4 k5

/-- What the machine does with the next effect. -/
theorem Sim.effect_step (hf : ¬ good C.fail) (hs : ∀ x y k, good (C.same x y k) → x = y ∧ good k) (EQ : ∀ t, eqs.contains t = true → EqPlain P t) (HC : HOK good (CRof P eqs) P C.H) (hk : ∀ D it R, items = D ++ it :: R → At P eqs ops items pre D it R) (hnd : (items.map (·.idx)).Nodup) {ro : Option Nat}
    {D R : List AItem} {it : AItem} {T : List AVal} {h : List AObj} {E : Env} {Fr : List (Tmp × Nat × Nat)}
    (S : Sim good P eqs N0 C items pre E0 h0 w0 K listed a w D (it :: R) T h E Fr) (he : it.o.op.effect = true) (hpre : ∀ j ∈ preOf pre it.idx, listed.getD j true = true) {Q : Exit → Act → World → Prop} {K' : Act → World → Prop}
    (hK : ∀ a' E' w' T' h' Fr', Sim good P eqs N0 C items pre E0 h0 w0 K (listed.setIfInBounds it.idx true) a' w' (D ++ [it]) R T' h' E' Fr' → K' a' w') : wpOpIn (fenceOf ro) n P ops.toArray Q it.idx K' a w := by
  have hits : it ∈ items := by rw [S.split]; simp
  have hun := S.un it (by simp)
  have A := hk D it R S.split
  obtain ⟨o, ho, hci, _, _⟩ := A.op
  obtain ⟨_, q2, q3⟩ := A.eff he
  have hget : ops.toArray[it.idx]? = some o := by rw [List.getElem?_toArray]; exact ho
  have hT := S.trel
  have hmask : ∀ t ∈ it.o.looks, (mask (Ahead listed D) T).getD t .undef = T.getD t .undef := fun t ht => mask_out (S.not_ahead hk hnd hits hpre (.inl ht))
  have hg := S.gd
  simp only [drawA, he] at hg
  rw [guardA_congr (T' := mask (Ahead listed D) T) fun t b hgd => (hmask t (by simp [AOper.looks, hgd])).symm] at hg
  have hlates : ∀ {v : AVal} {h' : List AObj}, (∀ r ∈ (D.filter fun it => it.o.op.reads).filter (fun r => it.late.contains r.idx), ∃ z, evalG r.o ⟨putL T it.o.dst v, h'⟩ = some z ∧ ∀ d, r.o.dst = some d → (putL T it.o.dst v).getD d .undef = z) →
      ∀ x ∈ D, unl listed x → x.o.op.reads = true → ∃ z, evalG x.o ⟨putL T it.o.dst v, h'⟩ = some z ∧ ∀ d, x.o.dst = some d → d < T.length → (putL T it.o.dst v).getD d .undef = z := by
    intro v h' hl x hx hux hr
    rcases q3 x hx hr with k | k
    · have := hpre _ k
      unfold unl at hux
      rw [hux] at this; cases this
    · obtain ⟨z, k1, k2⟩ := hl x (by simp [hx, hr, k])
      exact ⟨z, k1, fun d hd _ => k2 d hd⟩
  have hshx : ∀ x ∈ D, unl listed x → ∀ t ∈ it.o.writes, t ∉ x.o.looks ∧ t ∉ x.o.writes := by
    intro x hx hux
    refine share_false ?_
    cases hs : share it.o x.o with
    | false => rfl
    | true =>
      have := hpre _ (q2 x hx hs)
      unfold unl at hux
      rw [hux] at this; cases this
  unfold wpOpIn
  simp only [hget]
  by_cases hp : ∃ s d v, it.o.op = .pstore s d v
  · obtain ⟨size, d, v, hop⟩ := hp
    unfold chkItem at hci
    rw [hop] at hci hg
    simp only [Bool.and_eq_true, Option.isNone_iff_eq_none, List.any_eq_true, List.all_eq_true, Bool.or_eq_true, Bool.not_eq_true', List.contains_eq_mem, decide_eq_true_eq, decide_eq_false_iff_not, beq_iff_eq] at hci
    obtain ⟨⟨⟨⟨⟨⟨hc, hd1⟩, hd2⟩, hg1⟩, hg2⟩, ⟨p, hpm, hpp, hppre⟩⟩, hall⟩ := hci
    split at hc
    · rename_i t d' v' hot
      simp only [Bool.and_eq_true, beq_iff_eq, decide_eq_true_eq] at hc
      obtain ⟨⟨rfl, hsz⟩, hav⟩ := hc
      have hw : Region.wanted o (yielded ops.toArray a.tmps) = true := by simp [Region.wanted, hg1]
      simp only [hw, if_true]
      simp only [guardA, hg2] at hg
      obtain ⟨hcs, hg⟩ := need_good hf hg
      simp only [Bool.and_eq_true, beq_iff_eq, Nat.blt_eq] at hcs
      obtain ⟨⟨hst, hlen⟩, hdl⟩ := hcs
      have hev : St.ev ⟨T, h⟩ v = St.ev ⟨mask (Ahead listed D) T, h⟩ v := ev_of_getD fun t ht => (hmask t (by simp only [AOper.looks, List.mem_append, List.mem_flatMap, hop]; exact .inl ⟨v, by simp [AOp.args], ht⟩)).symm
      have hvr : VRel (St.ev ⟨T, h⟩ v) E (a.eval v') := by rw [hev]; exact argOk_rel hav hT
      -- the block
      have hpend : p.o.op = .pend size ∧ p.o.dst = some d' := by
        unfold isPend at hpp
        split at hpp
        · rename_i s hops; simp only [Bool.and_eq_true, beq_iff_eq] at hpp; exact ⟨by rw [hops, hpp.1], hpp.2⟩
        · cases hpp
      have hpD : p ∈ D := by
        obtain ⟨x, hx, e⟩ := A.early _ hppre
        have := idx_inj hnd x (by rw [S.split]; simp [hx]) p hpm e
        exact this ▸ hx
      have hpl : ¬ unl listed p := fun hu => by
        have := hpre _ hppre
        unfold unl at hu; rw [hu] at this; cases this
      have hidx : ∀ j ∈ D, j.idx ≠ it.idx := by
        intro j hj e
        have hnd' := hnd
        rw [S.split, List.map_append, List.map_cons] at hnd'
        exact (List.nodup_append.1 hnd').2.2 j.idx (List.mem_map.2 ⟨j, hj, rfl⟩) it.idx (by simp) e
      rcases S.pn p hpD size d' hpend.1 hpend.2 hpl with ⟨r, hr⟩ | ⟨j, hj, jv, hjo⟩
      · obtain ⟨hfresh, hptr⟩ := S.fr _ hr
        have hptr := hptr (Nat.lt_of_lt_of_le hdl S.tl)
        obtain ⟨c, tt, hcell, hcsz⟩ := hfresh.cells
        have hcsz : c.size = size := hcsz
        have hl : (a.eval v').cells.size = size := by have := (hvr.cells hst).length; rw [← hlen]; simpa using this
        have hone := storable_one hvr hst
        obtain ⟨w', c', k1, k2, k3, k4, k5, k6⟩ := run_storeCells (P := P) (a.eval v').cells.toList 0 0 w c hcell (by simp; omega) (fun x hx => hone x hx)
        have hc' : c'.toList = (a.eval v').cells.toList ++ [] := by
          rw [k3]
          simp only [spliceV, Nat.zero_add, List.take_zero, List.nil_append]
          rw [List.drop_eq_nil_of_le (by simp; omega)]
        have hrun : (execOp a.eval o).run P w = .ok .skip w' := by
          simp only [execOp, hot]
          refine run_u ?_
          have hea : a.eval (.tmp d') = .pointer (some ⟨r, 0, none⟩) := hptr
          simp only [hea, Instr.storeAt, Instr.sureAddr, storeVar, Sem.run_bind, Sem.run_pure, Result.andThen_ok, run_sizeOf hsz]
          rw [if_neg (by omega)]
          exact k1
        refine ⟨fun _ _ => trivial, ?_⟩
        rw [Oper.semAt_eq _ _ _ (by rw [hot]; intro c e; cases e), hrun]
        simp only [Oper.uponIn]
        rw [hd1]
        have hle := S.H.add_le (r := some r) (t := fun _ => none) (f := E.fz) fun _ _ _ h => h
        have H' : HRel (CRof P eqs) (E.add h.length (some r) (fun _ => none) E.fz) (h ++ [.rows size [St.ev ⟨T, h⟩ v]]) w' :=
          S.H.adopt hfresh.own hfresh.fz k4 ⟨r, c', tt, by simp [Env.add], k2, a.eval v', [], hvr.mono _ hle, hl, hone, hc', trivial⟩
        have hown : ∀ k, Own (E.add h.length (some r) (fun _ => none) E.fz) (h ++ [.rows size [St.ev ⟨T, h⟩ v]]) k → Own E h k ∨ k = r := fun k o => own_add S.H o
        have st' : Step E0 h0 w0 (E.add h.length (some r) (fun _ => none) E.fz) (h ++ [.rows size [St.ev ⟨T, h⟩ v]]) w' :=
          ⟨S.st.le.trans hle, by rw [k5]; exact S.st.size, fun k hk ho => by rw [k4 k (by have := hfresh.new; omega)]; exact S.st.keep k hk ho,
            fun k o => (hown k o).elim (S.st.own k) (fun e => .inr (e ▸ hfresh.new)), fun x y z hz => S.st.fzn x y z hz, k6.1.trans S.st.out.1, k6.2.trans S.st.out.2⟩
        obtain ⟨m1, m2⟩ := late_ok hf hs _ _ _ hg
        have hwr : ∀ t ∈ it.o.writes, t = d' := by
          intro t ht
          simpa [AOper.writes, hd2, hop] using ht
        refine hK a _ w' (T.set d' (.hp h.length size 0 0)) _ (Fr.filter fun x => x.2.2 != r) (S.effect_after hk hnd he hpre (by simp) (fun t ht => ?_) rfl (fun _ _ => rfl) ?_ hle H' ?_ st' ?_ m1 ?_ ?_ ?_ ?_)
        · have hne : d' ≠ t := fun e => ht (by simp [AOper.writes, hop, e])
          simp only [List.getD_eq_getElem?_getD]; rw [List.getElem?_set_ne hne]
        · intro t ht
          rw [hwr t ht, hptr]
          simp only [List.getD_eq_getElem?_getD, List.getElem?_set_self hdl, Option.getD_some, VRel]
          exact ⟨r, by simp [Env.add], by simp⟩
        · obtain ⟨rs, n1, n2, n3⟩ := S.M
          refine ⟨rs, n1, n2, fun x hx => ?_⟩
          obtain ⟨o1, o2, o3⟩ := n3 x hx
          have hne : x ≠ r := fun e => by rw [e, hcell] at o2; cases o2
          exact ⟨o1, (k4 x hne).trans o2, fun o => (hown x o).elim o3 hne⟩
        · intro x hx hux hrd
          rcases q3 x hx hrd with k | k
          · have := hpre _ k
            unfold unl at hux
            rw [hux] at this; cases this
          · obtain ⟨z, z1, z2⟩ := m2 x (by simp [hx, hrd, k])
            exact ⟨z, z1, fun d hd _ => z2 d hd⟩
        · intro x hx
          obtain ⟨hx1, hx2⟩ := List.mem_filter.1 hx
          obtain ⟨f1, f2⟩ := S.fr x hx1
          have hne : x.2.2 ≠ r := by simpa using hx2
          obtain ⟨cx, tx, cx1, cx2⟩ := f1.cells
          exact ⟨⟨f1.new, fun o => (hown _ o).elim f1.own hne, f1.fz, cx, tx, (k4 _ hne).trans cx1, cx2⟩, f2⟩
        · exact List.Nodup.sublist (List.Sublist.map _ List.filter_sublist) S.nd
        · exact fun x hx => (List.mem_filter.1 hx).1
        · intro x hx
          by_cases e : x.2.2 = r
          · refine .inr ⟨v, ?_⟩
            have : x = (d', size, r) := by
              have inj : ∀ (L : List (Tmp × Nat × Nat)), (L.map (·.2.2)).Nodup → ∀ x ∈ L, ∀ y ∈ L, x.2.2 = y.2.2 → x = y := by
                intro L
                induction L with
                | nil => intro _ x hx; cases hx
                | cons z L ih =>
                  intro hn x hx y hy e
                  simp only [List.map_cons, List.nodup_cons] at hn
                  rcases List.mem_cons.1 hx with hx' | hx' <;> rcases List.mem_cons.1 hy with hy' | hy'
                  · rw [hx', hy']
                  · exact absurd (List.mem_map.2 ⟨y, hy', by rw [← e, hx']⟩) hn.1
                  · exact absurd (List.mem_map.2 ⟨x, hx', by rw [e, hy']⟩) hn.1
                  · exact ih hn.2 x hx' y hy' e
              exact inj Fr S.nd x hx _ hr e
            rw [this, hop]
          · exact .inl (List.mem_filter.2 ⟨hx, by simpa using e⟩)
      · rcases hall j (by rw [S.split]; simp [hj]) with (k | k) | k
        · exact absurd (by simp [AOper.writes, hjo]) k
        · exact absurd k (hidx j hj)
        · unfold isPend at k; rw [hjo] at k; cases k
    · cases hc
  · have hp' : ∀ s d v, it.o.op ≠ .pstore s d v := fun s d v e => hp ⟨s, d, v, e⟩
    have hco : chkOper P eqs ops o it.o = true := by
      unfold chkItem at hci
      split at hci
      · rename_i size hop; rw [hop] at he; simp [AOp.effect] at he
      · rename_i size d x hop; exact absurd hop (hp' _ _ _)
      · exact hci
    have hg' : good (guardA C.fail it.o (mask (Ahead listed D) T)
        (opA C it.o.op ⟨T, h⟩ fun v h' => lateA C ((D.filter fun it => it.o.op.reads).filter fun r => it.late.contains r.idx) ⟨putL T it.o.dst v, h'⟩ (drawA C (D.filter fun it => it.o.op.reads) R ⟨putL T it.o.dst v, h'⟩ K))
        (drawA C (D.filter fun it => it.o.op.reads) R ⟨putL T it.o.dst (.tuple []), h⟩ K)) := by
      cases hop : it.o.op <;> rw [hop] at hg <;> first | exact hg | exact absurd hop (hp' _ _ _)
    rw [opA_congr C it.o.op (T' := mask (Ahead listed D) T) _ fun x hx => ev_of_getD fun t ht => (hmask t (by simp only [AOper.looks, List.mem_append, List.mem_flatMap]; exact .inl ⟨x, hx, ht⟩)).symm] at hg'
    have hgo : chkGuard ops o.guard it.o.guard = true := by
      simp only [chkOper, Bool.and_eq_true] at hco; exact hco.1.2
    have hdst : o.dst = it.o.dst := by
      simp only [chkOper, Bool.and_eq_true, beq_iff_eq] at hco; exact hco.1.1
    rcases guard_ok (st := ⟨mask (Ahead listed D) T, h⟩) hf hgo hT hg' with ⟨hw, hx⟩ | ⟨hw, hx⟩
    · simp only [hw, if_true]
      refine oper_wide hf EQ HC hco hT S.H hx fun v u h' E' w' k1 k2 k3 k4 => ?_
      obtain ⟨m1, m2⟩ := late_ok hf hs _ _ _ k1
      rw [hdst]
      exact hK _ _ _ _ _ _ (S.plain_after hf hs hk hnd he hp' hpre k2 k3 k4 m1 (hlates m2))
    · simp only [hw, Bool.false_eq_true, if_false]
      refine ⟨fun _ _ => trivial, ?_⟩
      rw [hdst]
      refine hK _ _ _ _ _ _ (S.plain_after hf hs hk hnd he hp' hpre (v := .tuple []) (u := undef) (by simp only [VRel]; exact ⟨#[], rfl, by simp [VRels]⟩) S.H (.refl _ _ _) hx ?_)
      intro x hx hux hr
      obtain ⟨z, k1, k2⟩ := S.ev x hx hux
      have hsh := hshx x hx hux
      refine ⟨z, ?_, fun d hd hlt => ?_⟩
      · rw [evalG_congr (T' := T) fun t ht => putL_ne fun y hy e => (hsh y (dst_writes hy)).1 (e ▸ ht)]; exact k1
      · rw [putL_ne fun y hy e => (hsh y (dst_writes hy)).2 (e ▸ dst_writes hd)]; exact k2 d hd hlt

/-! ### The whole region -/

theorem filter_lt {β : Type} {p q : β → Bool} : ∀ (l : List β), (∀ x ∈ l, q x = true → p x = true) → (∃ x ∈ l, p x = true ∧ q x = false) → (l.filter q).length < (l.filter p).length
  | [], _, ⟨x, hx, _⟩ => by cases hx
  | y :: l, h, ⟨x, hx, hp, hq⟩ => by
    have hle : ∀ (l : List β), (∀ x ∈ l, q x = true → p x = true) → (l.filter q).length ≤ (l.filter p).length := by
      intro l
      induction l with
      | nil => intro _; simp
      | cons z l ih =>
        intro h
        have := ih fun x hx => h x (by simp [hx])
        cases hqz : q z with
        | true => simp [List.filter_cons, hqz, h z (by simp) hqz]; exact this
        | false => cases hpz : p z <;> simp [List.filter_cons, hqz, hpz] <;> omega
    rcases List.mem_cons.1 hx with rfl | hx
    · have := hle l fun x hx => h x (by simp [hx])
      simp [List.filter_cons, hp, hq]; omega
    · have := filter_lt l (fun x hx => h x (by simp [hx])) ⟨x, hx, hp, hq⟩
      cases hqz : q y with
      | true => simp [List.filter_cons, hqz, h y (by simp) hqz]; exact this
      | false => cases hpz : p y <;> simp [List.filter_cons, hqz, hpz] <;> omega

def unlB (listed : Array Bool) (it : AItem) : Bool := !listed.getD it.idx true

theorem unlB_iff {listed : Array Bool} {it : AItem} : unlB listed it = true ↔ unl listed it := by simp [unlB, unl]

theorem ready_mem {ops : List Oper} {listed : Array Bool} {i : Nat} : i ∈ Region.ready .any ops.toArray listed ↔ listed.getD i true = false ∧ ∃ o, ops[i]? = some o ∧ ∀ e ∈ o.after, Region.binds .any e = true → listed.getD e.on false = true := by
  unfold Region.ready
  simp only [List.mem_filter, List.mem_range, Bool.and_eq_true, Bool.not_eq_true', List.size_toArray, List.getElem?_toArray]
  constructor
  · rintro ⟨hi, h1, h2⟩
    refine ⟨h1, ops[i], List.getElem?_eq_getElem hi, fun e he hb => ?_⟩
    rw [List.getElem?_eq_getElem hi] at h2
    simp only [Option.map_some, Option.getD_some, Array.all_eq_true_iff_forall_mem] at h2
    have := h2 e he
    rw [hb] at this; simpa using this
  · rintro ⟨h1, o, h2, h3⟩
    have hi := (List.getElem?_eq_some_iff.1 h2).1
    refine ⟨hi, h1, ?_⟩
    rw [h2]
    simp only [Option.map_some, Option.getD_some, Array.all_eq_true_iff_forall_mem]
    intro e he
    cases hb : Region.binds .any e with
    | false => simp
    | true => simp [h3 e he hb]

theorem first_unl {listed : Array Bool} : ∀ (l : List AItem), (∃ x ∈ l, unl listed x) → ∃ D it R, l = D ++ it :: R ∧ unl listed it ∧ ∀ x ∈ D, ¬ unl listed x
  | [], ⟨x, hx, _⟩ => by cases hx
  | y :: l, ⟨x, hx, hu⟩ => by
    by_cases hy : unl listed y
    · exact ⟨[], y, l, rfl, hy, fun _ h => by cases h⟩
    · have : ∃ x ∈ l, unl listed x := by
        rcases List.mem_cons.1 hx with rfl | hx
        · exact absurd hu hy
        · exact ⟨x, hx, hu⟩
      obtain ⟨D, it, R, e, h1, h2⟩ := first_unl l this
      refine ⟨y :: D, it, R, by simp [e], h1, fun z hz => ?_⟩
      rcases List.mem_cons.1 hz with rfl | hz
      · exact hy
      · exact h2 z hz

theorem Sim.all (hf : ¬ good C.fail) (hs : ∀ x y k, good (C.same x y k) → x = y ∧ good k) (EQ : ∀ t, eqs.contains t = true → EqPlain P t) (HC : HOK good (CRof P eqs) P C.H) (hk : ∀ D it R, items = D ++ it :: R → At P eqs ops items pre D it R) (hnd : (items.map (·.idx)).Nodup)
    (hcov : ∀ i, i < ops.length → ∃ it ∈ items, it.idx = i) {ro : Option Nat} {Q : Exit → Act → World → Prop}
    (hQ : ∀ st' E' a' w', good (K st') → SR (CRof P eqs) N0 E' st' a' w' → Step E0 h0 w0 E' st'.heap w' → Q .normal a' w') :
    ∀ (fuel : Nat) {listed : Array Bool} {a : Act} {w : World} {D R : List AItem} {T : List AVal} {h : List AObj} {E : Env} {Fr : List (Tmp × Nat × Nat)}, listed.size = ops.length → Sim good P eqs N0 C items pre E0 h0 w0 K listed a w D R T h E Fr →
      (∀ it R'', R = it :: R'' → it.o.op.effect = true) → (items.filter (unlB listed)).length ≤ fuel → wpAnyIn (fenceOf ro) n P .any ops.toArray Q fuel listed a w := by
  have hdone : ∀ {listed : Array Bool} {a : Act} {w : World} {D R : List AItem} {T : List AVal} {h : List AObj} {E : Env} {Fr : List (Tmp × Nat × Nat)}, Sim good P eqs N0 C items pre E0 h0 w0 K listed a w D R T h E Fr → (∀ x ∈ items, ¬ unl listed x) → Q .normal a w := by
    intro listed a w D R T h E Fr S hall
    have hR : R = [] := by
      cases R with
      | nil => rfl
      | cons x R => exact absurd (S.un x (by simp)) (hall x (by rw [S.split]; simp))
    subst hR
    have hg := S.gd
    simp only [drawA] at hg
    exact hQ _ E _ _ hg ⟨⟨S.tl, fun t => S.rel t fun x hx hu => absurd hu (hall x (by rw [S.split]; simp [hx]))⟩, S.H, S.M⟩ S.st
  have hready : ∀ {listed : Array Bool} {a : Act} {w : World} {D R : List AItem} {T : List AVal} {h : List AObj} {E : Env} {Fr : List (Tmp × Nat × Nat)}, listed.size = ops.length → Sim good P eqs N0 C items pre E0 h0 w0 K listed a w D R T h E Fr → Region.ready .any ops.toArray listed = [] → ∀ x ∈ items, ¬ unl listed x := by
    intro listed a w D R T h E Fr hsz S hr x hx hu
    obtain ⟨D1, it, R1, e, h1, h2⟩ := first_unl items ⟨x, hx, hu⟩
    obtain ⟨o, ho, _, _, hall⟩ := (hk D1 it R1 e).op
    have : it.idx ∈ Region.ready .any ops.toArray listed := by
      refine ready_mem.2 ⟨h1, o, ho, fun ed he hb => ?_⟩
      obtain ⟨y, hy, hye⟩ := (hk D1 it R1 e).early _ (hall ed he hb)
      have hyl := h2 y hy
      have hlt : y.idx < listed.size := by
        obtain ⟨D2, R2, e2⟩ := List.append_of_mem (show y ∈ items by rw [e]; simp [hy])
        obtain ⟨o2, ho2, _⟩ := (hk D2 y R2 e2).op
        rw [hsz]; exact (List.getElem?_eq_some_iff.1 ho2).1
      rw [← hye]
      unfold unl at hyl
      simp only [Array.getD_eq_getD_getElem?, Array.getElem?_eq_getElem hlt, Option.getD_some] at hyl ⊢
      simpa using hyl
    rw [hr] at this; cases this
  intro fuel
  induction fuel with
  | zero =>
    intro listed a w D R T h E Fr hsz S hhd hcnt
    have hall : ∀ x ∈ items, ¬ unl listed x := by
      intro x hx hu
      have : x ∈ items.filter (unlB listed) := List.mem_filter.2 ⟨hx, unlB_iff.2 hu⟩
      have := List.length_pos_of_mem this
      omega
    refine ⟨?_, hdone S hall⟩
    cases hr : Region.ready .any ops.toArray listed with
    | nil => rfl
    | cons i l =>
      have hi : i ∈ Region.ready .any ops.toArray listed := by rw [hr]; simp
      obtain ⟨h1, o, h2, _⟩ := ready_mem.1 hi
      obtain ⟨it, hit, rfl⟩ := hcov i (List.getElem?_eq_some_iff.1 h2).1
      exact absurd h1 (hall it hit)
  | succ fuel ih =>
    intro listed a w D R T h E Fr hsz S hhd hcnt
    refine ⟨fun hr => hdone S (hready hsz S hr), fun i hi => ?_⟩
    obtain ⟨hu, o, ho, hpreds⟩ := ready_mem.1 hi
    obtain ⟨it, hit, rfl⟩ := hcov i (List.getElem?_eq_some_iff.1 ho).1
    have hu : unl listed it := hu
    have hgf : ∀ j, listed.getD j false = true → listed.getD j true = true := by
      intro j hj
      simp only [Array.getD_eq_getD_getElem?] at hj ⊢
      cases hl : listed[j]? with
      | none => rfl
      | some b => rw [hl] at hj; simpa using hj
    have hpre : ∀ j ∈ preOf pre it.idx, listed.getD j true = true := by
      intro j hj
      obtain ⟨D1, R1, e⟩ := List.append_of_mem hit
      have A := hk D1 it R1 e
      obtain ⟨o', ho', _, h2, h3⟩ := A.op
      rw [ho] at ho'; cases ho'
      obtain ⟨ed, he, hb, hor⟩ := h2 j hj
      have hl := hpreds ed he hb
      rcases hor with hor | hor
      · exact hor ▸ hgf _ hl
      · obtain ⟨y, hy, hye⟩ := A.early _ (h3 ed he hb)
        rw [← hye] at hor hl
        refine S.closed y (by rw [e]; simp [hy]) (fun hyu => ?_) j hor
        have := hgf _ hl
        unfold unl at hyu
        rw [hyu] at this; cases this
    have hcnt' : (items.filter (unlB (listed.setIfInBounds it.idx true))).length ≤ fuel := by
      have := filter_lt (p := unlB listed) (q := unlB (listed.setIfInBounds it.idx true)) items (fun x _ hq => unlB_iff.2 ((unl_set (unl_lt hu)).1 (unlB_iff.1 hq)).1)
        ⟨it, hit, unlB_iff.2 hu, by cases hq : unlB (listed.setIfInBounds it.idx true) it with
          | false => rfl
          | true => exact absurd rfl ((unl_set (unl_lt hu)).1 (unlB_iff.1 hq)).2⟩
      omega
    have hsz' : (listed.setIfInBounds it.idx true).size = ops.length := by rw [Array.size_setIfInBounds]; exact hsz
    have hcase : it ∈ D ∨ it ∈ R := by rw [S.split] at hit; simpa using hit
    rcases hcase with hc | hc
    · exact S.pure_step EQ hk hnd hc hu hpre fun u E' w' Fr' S' => ih hsz' S' hhd hcnt'
    · cases R with
      | nil => cases hc
      | cons x R =>
        have hxe := hhd x R rfl
        rcases List.mem_cons.1 hc with rfl | hc
        · refine S.effect_step hf hs EQ HC hk hnd hxe hpre fun a' E' w' T' h' Fr' S' => ?_
          obtain ⟨D2, R2, T2, S2, hhd2⟩ := Sim.catch hf hk _ _ _ S'
          exact ih hsz' S2 hhd2 hcnt'
        · have := hpre _ (((hk D x R S.split).eff hxe).1 it hc)
          have hxu := S.un x (by simp)
          unfold unl at hxu
          rw [hxu] at this; cases this

theorem draw_sound (hf : ¬ good C.fail) (hs : ∀ x y k, good (C.same x y k) → x = y ∧ good k) (EQ : ∀ t, eqs.contains t = true → EqPlain P t) (HC : HOK good (CRof P eqs) P C.H) {ops : Array Oper} (hc : chkDraw P eqs ops.toList items pre = true) {ro : Option Nat} {E : Env} {st : St} {a : Act} {w : World}
    (R : SR (CRof P eqs) N0 E st a w) (h : good (drawA C [] items st K)) {Q : Exit → Act → World → Prop} (hQ : ∀ st' E' a' w', good (K st') → SR (CRof P eqs) N0 E' st' a' w' → Step E st.heap w E' st'.heap w' → Q .normal a' w') {id : Nat} :
    (Code.region id ops true).wpIn (fenceOf ro) n P Q a w := by
  simp only [chkDraw, Bool.and_eq_true, List.all_eq_true, List.mem_range, List.any_eq_true, beq_iff_eq] at hc
  obtain ⟨⟨⟨⟨hm, hle⟩, hnd⟩, hcov⟩, hrest⟩ := hc
  have hk : ∀ D it R, items = D ++ it :: R → At P eqs ops.toList items pre D it R := fun D it R e => chkAt_ok (by simpa using chkRest_at items [] hrest D it R e)
  refine wpIn_region_any hm ?_
  have hall : ∀ x ∈ items, unl (Array.replicate ops.size false) x := by
    intro x hx
    obtain ⟨D1, R1, e⟩ := List.append_of_mem hx
    obtain ⟨o, ho, _⟩ := (hk D1 x R1 e).op
    have := (List.getElem?_eq_some_iff.1 ho).1
    unfold unl
    rw [Array.getD_eq_getD_getElem?, Array.getElem?_eq_getElem (by simpa using this)]
    simp
  have hst : Step E st.heap w E st.heap { w with drawn := w.drawn + 1 } := ⟨.refl _, Nat.le_refl _, fun _ _ _ => rfl, fun _ h => .inl h, fun _ _ _ h => .inl h, rfl, rfl⟩
  have S : Sim good P eqs N0 C items pre E st.heap w K (Array.replicate ops.size false) a { w with drawn := w.drawn + 1 } [] items st.tmps st.heap E [] :=
    ⟨rfl, hall, fun _ h => (by cases h), fun x hx hu => absurd (hall x hx) hu, R.H.drew, R.M.step hst, hst, R.T.1, fun t _ => R.T.2 t, fun _ h => (by cases h), h, fun _ h => (by cases h), List.nodup_nil, fun _ h => (by cases h), fun _ h => (by cases h)⟩
  obtain ⟨D2, R2, T2, S2, hhd⟩ := Sim.catch hf hk _ _ _ S
  have hle : items.length ≤ ops.size := by simpa using hle
  exact Sim.all (n := n) (ro := ro) (Q := Q) hf hs EQ HC hk (nodupB_ok hnd) (fun i hi => hcov i hi) hQ ops.size (by simp) S2 hhd (Nat.le_trans (List.length_filter_le _ _) hle)

end
end Go.Ai
