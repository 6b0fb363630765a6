/- The abstract heap against the model's: what is owned, what is frozen, how a step may turn them. -/
import Derived.Test.YtdggbdjpcbiofaaGreatAiRel
namespace Go.Ai

def RowsRel (E : Env) (esz : Nat) : List AVal → List Value → Prop
  | [], _ => True
  | x :: xs, cs => ∃ u rest, VRel x E u ∧ u.cells.size = esz ∧ oneC u ∧ cs = u.cells.toList ++ rest ∧ RowsRel E esz xs rest

def EntRel (E : Env) : List (Int × AVal) → List MapEntry → Prop
  | [], es => es = []
  | p :: l, es => ∃ e rest, es = e :: rest ∧ e.key = .int .i64 p.1 ∧ VRel p.2 E e.val ∧ EntRel E l rest

def TRel (E : Env) (ts : List AVal) (a : Array Value) : Prop :=
  ts.length ≤ a.size ∧ ∀ i, VRel (ts.getD i .undef) E (a.getD i undef)

def jumpCode : AExit → Option Code
  | .normal => none
  | .exit id => some (.exit id)
  | .ret => some .ret

def loopState (ready : Bool) (pe : Option AExit) : LoopState :=
  match ready with
  | true => .ready
  | false => match pe with
    | none => .busy
    | some _ => .done

def ORel (CR : Code → ACode → Prop) (E : Env) (w : World) (b : Nat) : AObj → Prop
  | .rows esz es => ∃ r c t, E.ρ b = some r ∧ w.heap[r]? = some (.cells c t (0, 0)) ∧ RowsRel E esz es c.toList
  | .tok esz used => 0 < esz ∧ (0 < used → ∃ r cap c t, E.τ b used = some (r, cap) ∧ w.heap[r]? = some (.cells c t (0, 0)) ∧ cap * esz ≤ c.size ∧ used ≤ cap ∧ ∀ o, used * esz ≤ o → E.fz r o = none)
  | .grow esz es => E.ρ b = none ∧ (es ≠ [] → ∃ r cap c t, E.τ b es.length = some (r, cap) ∧ w.heap[r]? = some (.cells c t (0, 0)) ∧ cap * esz ≤ c.size ∧ es.length ≤ cap ∧ RowsRel E esz es c.toList)
  | .map es => ∃ r es' clock, E.ρ b = some r ∧ w.heap[r]? = some (.map es' clock) ∧ EntRel E es es'.toList
  | .loop ready pe ts ps a bd => ∃ r L, E.ρ b = some r ∧ w.heap[r]? = some (.loop L) ∧ L.state = loopState ready pe ∧ L.pending = pe.bind jumpCode ∧ TRel E ts L.tmps ∧ L.params = ps.toArray ∧ CR L.assign a ∧ CR L.body bd
  | .dead => True

/-- The block that an object is. -/
def realOf (E : Env) (b : Nat) : AObj → Option Nat
  | .rows _ _ => E.ρ b
  | .tok _ used => if used = 0 then none else (E.τ b used).map (·.1)
  | .grow _ es => if es.length = 0 then none else (E.τ b es.length).map (·.1)
  | .map _ => E.ρ b
  | .loop .. => E.ρ b
  | .dead => none

/-- What is known of the blocks of a slice that grows, by its lengths. -/
def TauOK (E : Env) (b n : Nat) (x : Nat × Nat) : AObj → Prop
  | .tok _ used => n ≤ used
  | .grow _ es => n ≤ es.length
  | .rows _ es => n ≤ es.length ∧ (n = es.length → E.ρ b = some x.1)
  | .dead => True
  | _ => False

def Own (E : Env) (h : List AObj) (r : Nat) : Prop := ∃ b o, h[b]? = some o ∧ realOf E b o = some r

structure HRel (CR : Code → ACode → Prop) (E : Env) (h : List AObj) (w : World) : Prop where
  obj : ∀ b o, h[b]? = some o → ORel CR E w b o
  inj : ∀ b o b' o' r, h[b]? = some o → h[b']? = some o' → realOf E b o = some r → realOf E b' o' = some r → b = b'
  fz : ∀ r o v, E.fz r o = some v → w.cell? ⟨r, o, none⟩ = some v
  sep : ∀ b o r, h[b]? = some o → realOf E b o = some r → (∀ esz used, o ≠ .tok esz used) → ∀ off, E.fz r off = none
  dom : ∀ b r, E.ρ b = some r → b < h.length
  domt : ∀ b n x, E.τ b n = some x → ∃ o, h[b]? = some o ∧ TauOK E b n x o

/-- What lies outside is as it was. -/
def SameOut (w w' : World) : Prop := w'.os = w.os ∧ w'.output = w.output

/-- What a step may turn: what was owned, and what is new. -/
structure Step (E : Env) (h : List AObj) (w : World) (E' : Env) (h' : List AObj) (w' : World) : Prop where
  le : E.le E'
  size : w.heap.size ≤ w'.heap.size
  keep : ∀ k, k < w.heap.size → ¬ Own E h k → w'.heap[k]? = w.heap[k]?
  own : ∀ k, Own E' h' k → Own E h k ∨ w.heap.size ≤ k
  fzn : ∀ r o v, E'.fz r o = some v → E.fz r o = some v ∨ Own E h r ∨ w.heap.size ≤ r
  out : SameOut w w'

theorem Step.refl (E : Env) (h : List AObj) (w : World) : Step E h w E h w :=
  ⟨.refl E, Nat.le_refl _, fun _ _ _ => rfl, fun _ h => .inl h, fun _ _ _ h => .inl h, rfl, rfl⟩

theorem Step.trans {E E' E'' : Env} {h h' h'' : List AObj} {w w' w'' : World} (a : Step E h w E' h' w') (b : Step E' h' w' E'' h'' w'') : Step E h w E'' h'' w'' where
  le := a.le.trans b.le
  size := Nat.le_trans a.size b.size
  keep k hk ho := by
    have h1 := a.keep k hk ho
    have h2 := b.keep k (Nat.lt_of_lt_of_le hk a.size) (fun o => (a.own k o).elim ho (fun hle => absurd hk (by omega)))
    exact h2.trans h1
  own k o := by
    rcases b.own k o with o | hle
    · exact a.own k o
    · exact .inr (Nat.le_trans a.size hle)
  fzn r o v hv := by
    rcases b.fzn r o v hv with hv | hv | hv
    · exact a.fzn r o v hv
    · exact (a.own r hv).elim (fun x => .inr (.inl x)) (fun x => .inr (.inr x))
    · exact .inr (.inr (Nat.le_trans a.size hv))
  out := ⟨b.out.1.trans a.out.1, b.out.2.trans a.out.2⟩

section mono
variable {E E' : Env}
theorem RowsRel.mono (hle : E.le E') {esz : Nat} : ∀ {es : List AVal} {cs : List Value}, RowsRel E esz es cs → RowsRel E' esz es cs
  | [], _, _ => trivial
  | _ :: _, _, ⟨u, rest, h1, h2, h3, h4, h5⟩ => ⟨u, rest, h1.mono _ hle, h2, h3, h4, RowsRel.mono hle h5⟩
theorem EntRel.mono (hle : E.le E') : ∀ {es : List (Int × AVal)} {cs : List MapEntry}, EntRel E es cs → EntRel E' es cs
  | [], _, h => h
  | _ :: _, _, ⟨e, rest, h1, h2, h3, h4⟩ => ⟨e, rest, h1, h2, h3.mono _ hle, EntRel.mono hle h4⟩
theorem TRel.mono (hle : E.le E') {ts : List AVal} {a : Array Value} (h : TRel E ts a) : TRel E' ts a :=
  ⟨h.1, fun i => (h.2 i).mono _ hle⟩
end mono

theorem ORel.pres {CR : Code → ACode → Prop} {E E' : Env} {w w' : World} {b : Nat} {o : AObj} (hle : E.le E') (hρ : E'.ρ b = E.ρ b)
    (hown : ∀ r, realOf E b o = some r → w'.heap[r]? = w.heap[r]? ∧ ∀ off, E.fz r off = none → E'.fz r off = none) (h : ORel CR E w b o) : ORel CR E' w' b o := by
  cases o with
  | rows esz es =>
    obtain ⟨r, c, t, h1, h2, h3⟩ := h
    exact ⟨r, c, t, hle.ρ _ _ h1, ((hown r h1).1).trans h2, h3.mono hle⟩
  | tok esz used =>
    obtain ⟨h0, h⟩ := h
    refine ⟨h0, fun hu => ?_⟩
    obtain ⟨r, cap, c, t, h1, h2, h3, h4, h5⟩ := h hu
    have hr : realOf E b (.tok esz used) = some r := by simp [realOf, h1]; omega
    exact ⟨r, cap, c, t, hle.τ _ _ _ h1, ((hown r hr).1).trans h2, h3, h4, fun o ho => (hown r hr).2 o (h5 o ho)⟩
  | grow esz es =>
    obtain ⟨h0, h⟩ := h
    refine ⟨hρ.trans h0, fun hu => ?_⟩
    obtain ⟨r, cap, c, t, h1, h2, h3, h4, h5⟩ := h hu
    have hl : ¬ es.length = 0 := fun e => hu (List.eq_nil_of_length_eq_zero e)
    have hr : realOf E b (.grow esz es) = some r := by simp only [realOf]; rw [if_neg hl, h1]; rfl
    exact ⟨r, cap, c, t, hle.τ _ _ _ h1, ((hown r hr).1).trans h2, h3, h4, h5.mono hle⟩
  | map es =>
    obtain ⟨r, es', clock, h1, h2, h3⟩ := h
    exact ⟨r, es', clock, hle.ρ _ _ h1, ((hown r h1).1).trans h2, h3.mono hle⟩
  | loop ready pe ts ps a bd =>
    obtain ⟨r, L, h1, h2, h3, h4, h5, h6⟩ := h
    exact ⟨r, L, hle.ρ _ _ h1, ((hown r h1).1).trans h2, h3, h4, h5.mono hle, h6⟩
  | dead => trivial

theorem TauOK.mono {E E' : Env} {b n : Nat} {x : Nat × Nat} {o : AObj} (h : TauOK E b n x o) (hρ : ∀ r, E.ρ b = some r → E'.ρ b = some r) : TauOK E' b n x o := by
  cases o <;> simp only [TauOK] at h ⊢ <;> first | exact h | exact ⟨h.1, fun e => hρ _ (h.2 e)⟩

section
variable {CR : Code → ACode → Prop} {E : Env} {h : List AObj} {w : World}

theorem ORel.block {b : Nat} {o : AObj} {r : Nat} (ho : ORel CR E w b o) (hr : realOf E b o = some r) : r < w.heap.size := by
  have key : ∀ {x : Obj}, w.heap[r]? = some x → r < w.heap.size := fun hx => (Array.getElem?_eq_some_iff.1 hx).1
  cases o with
  | rows esz es =>
    obtain ⟨r', c, t, h1, h2, h3⟩ := ho
    simp only [realOf] at hr; rw [hr] at h1; cases h1; exact key h2
  | tok esz used =>
    obtain ⟨h0, ho⟩ := ho
    simp only [realOf] at hr
    split at hr
    · cases hr
    · obtain ⟨r', cap, c, t, h1, h2, h3⟩ := ho (by omega)
      rw [h1] at hr; simp at hr; subst hr; exact key h2
  | grow esz es =>
    obtain ⟨_, ho⟩ := ho
    simp only [realOf] at hr
    split at hr
    · cases hr
    · rename_i hl
      obtain ⟨r', cap, c, t, h1, h2, h3⟩ := ho (fun e => hl (by rw [e]; rfl))
      rw [h1] at hr; simp at hr; subst hr; exact key h2
  | map es =>
    obtain ⟨r', es', clock, h1, h2, h3⟩ := ho
    simp only [realOf] at hr; rw [hr] at h1; cases h1; exact key h2
  | loop ready pe ts ps a bd =>
    obtain ⟨r', L, h1, h2, h3⟩ := ho
    simp only [realOf] at hr; rw [hr] at h1; cases h1; exact key h2
  | dead => simp [realOf] at hr

theorem HRel.own_lt (H : HRel CR E h w) {r : Nat} (ho : Own E h r) : r < w.heap.size := by
  obtain ⟨b, o, hb, hr⟩ := ho
  exact (H.obj b o hb).block hr

theorem HRel.fz_lt (H : HRel CR E h w) {r o : Nat} {v : Value} (hv : E.fz r o = some v) : r < w.heap.size :=
  World.block_lt_of_cell? (a := ⟨r, o, none⟩) _ (H.fz r o v hv)

theorem HRel.fz_new (H : HRel CR E h w) {r o : Nat} (hr : w.heap.size ≤ r) : E.fz r o = none := by
  cases hv : E.fz r o with
  | none => rfl
  | some v => exact absurd (H.fz_lt hv) (by omega)

/-- The environment with an object more. -/
def Env.add (E : Env) (n : Nat) (r : Option Nat) (t : Nat → Option (Nat × Nat)) (f : Nat → Nat → Option Value) : Env :=
  ⟨fun b => if b = n then r else E.ρ b, fun b k => if b = n then t k else E.τ b k, f⟩

theorem HRel.ρ_new (H : HRel CR E h w) : E.ρ h.length = none := by
  cases hv : E.ρ h.length with
  | none => rfl
  | some v => exact absurd (H.dom _ _ hv) (by omega)
theorem HRel.domt_lt (H : HRel CR E h w) {b n : Nat} {x : Nat × Nat} (hx : E.τ b n = some x) : b < h.length := by
  obtain ⟨o, hb, _⟩ := H.domt _ _ _ hx
  exact (List.getElem?_eq_some_iff.1 hb).1
theorem HRel.τ_new (H : HRel CR E h w) (k : Nat) : E.τ h.length k = none := by
  cases hv : E.τ h.length k with
  | none => rfl
  | some v => exact absurd (H.domt_lt hv) (by omega)

theorem HRel.add_le (H : HRel CR E h w) {r : Option Nat} {t : Nat → Option (Nat × Nat)} {f : Nat → Nat → Option Value} (hf : ∀ r o v, E.fz r o = some v → f r o = some v) :
    E.le (E.add h.length r t f) := by
  refine ⟨fun b r' hb => ?_, fun b k x hb => ?_, hf⟩
  · have := H.dom _ _ hb
    simp only [Env.add]; rw [if_neg (by omega)]; exact hb
  · have := H.domt_lt hb
    simp only [Env.add]; rw [if_neg (by omega)]; exact hb

theorem realOf_add {n b : Nat} {r : Option Nat} {t : Nat → Option (Nat × Nat)} {f : Nat → Nat → Option Value} {o : AObj} (hb : b ≠ n) : realOf (E.add n r t f) b o = realOf E b o := by
  cases o <;> simp [realOf, Env.add, hb]

/-- An object more, over new blocks: the old ones lie as they lay. -/
theorem HRel.push (H : HRel CR E h w) {o : AObj} {r : Option Nat} {t : Nat → Option (Nat × Nat)} {f : Nat → Nat → Option Value} {w' : World}
    (hsz : w.heap.size ≤ w'.heap.size) (hold : ∀ k, k < w.heap.size → w'.heap[k]? = w.heap[k]?)
    (hf1 : ∀ r o v, E.fz r o = some v → f r o = some v) (hf2 : ∀ r o, r < w.heap.size → f r o = E.fz r o)
    (hf3 : ∀ r o v, w.heap.size ≤ r → f r o = some v → w'.cell? ⟨r, o, none⟩ = some v)
    (hnew : ∀ r', realOf (E.add h.length r t f) h.length o = some r' → w.heap.size ≤ r' ∧ ((∀ esz used, o ≠ .tok esz used) → ∀ off, f r' off = none))
    (hobj : ORel CR (E.add h.length r t f) w' h.length o)
    (htk : ∀ n x, t n = some x → TauOK (E.add h.length r t f) h.length n x o := by intro n x h; cases h) (hout : SameOut w w' := by exact ⟨rfl, rfl⟩) :
    HRel CR (E.add h.length r t f) (h ++ [o]) w' ∧ Step E h w (E.add h.length r t f) (h ++ [o]) w' := by
  have hle := H.add_le (r := r) (t := t) hf1
  have hget : ∀ b x, (h ++ [o])[b]? = some x → (b < h.length ∧ h[b]? = some x) ∨ (b = h.length ∧ x = o) := by
    intro b x hb
    rcases Nat.lt_trichotomy b h.length with hlt | heq | hgt
    · rw [List.getElem?_append_left hlt] at hb; exact .inl ⟨hlt, hb⟩
    · subst heq; simp at hb; exact .inr ⟨rfl, hb.symm⟩
    · rw [List.getElem?_eq_none (by simp; omega)] at hb; cases hb
  have hcell : ∀ r' off, r' < w.heap.size → w'.cell? ⟨r', off, none⟩ = w.cell? ⟨r', off, none⟩ := by
    intro r' off hr; simp only [World.cell?]; rw [hold r' hr]
  refine ⟨⟨?_, ?_, ?_, ?_, ?_, ?_⟩, ⟨hle, hsz, fun k hk _ => hold k hk, ?_, ?_, hout⟩⟩
  · intro b x hb
    rcases hget b x hb with ⟨hlt, hb⟩ | ⟨rfl, rfl⟩
    · refine (H.obj b x hb).pres hle (by simp only [Env.add]; rw [if_neg (by omega)]) fun r' hr => ?_
      have hl := (H.obj b x hb).block hr
      exact ⟨hold r' hl, fun off ho => by show f r' off = none; rw [hf2 r' off hl]; exact ho⟩
    · exact hobj
  · intro b x b' x' r' hb hb' hr hr'
    rcases hget b x hb with ⟨hlt, hb1⟩ | ⟨e1, e2⟩
    · rw [realOf_add (by omega)] at hr
      rcases hget b' x' hb' with ⟨hlt', hb2⟩ | ⟨e3, e4⟩
      · rw [realOf_add (by omega)] at hr'; exact H.inj b x b' x' r' hb1 hb2 hr hr'
      · subst e3; subst e4
        have := (H.obj b x hb1).block hr; have := (hnew r' hr').1; omega
    · rcases hget b' x' hb' with ⟨hlt', hb2⟩ | ⟨e3, e4⟩
      · subst e1; subst e2
        rw [realOf_add (by omega)] at hr'
        have := (H.obj b' x' hb2).block hr'; have := (hnew r' hr).1; omega
      · rw [e1, e3]
  · intro r' off v hv
    rcases Nat.lt_or_ge r' w.heap.size with hl | hl
    · rw [hcell r' off hl]
      exact H.fz r' off v (by rw [← hf2 r' off hl]; exact hv)
    · exact hf3 r' off v hl hv
  · intro b x r' hb hr hx off
    rcases hget b x hb with ⟨hlt, hb⟩ | ⟨rfl, rfl⟩
    · rw [realOf_add (by omega)] at hr
      show f r' off = none
      rw [hf2 r' off ((H.obj b x hb).block hr)]
      exact H.sep b x r' hb hr hx off
    · exact (hnew r' hr).2 hx off
  · intro b r' hb
    simp only [Env.add] at hb
    split at hb
    · simp; omega
    · have := H.dom b r' hb; simp; omega
  · intro b n x hb
    simp only [Env.add] at hb
    split at hb
    · rename_i e
      subst e
      exact ⟨o, by simp, htk n x hb⟩
    · obtain ⟨o', ho, hn⟩ := H.domt b n x hb
      exact ⟨o', by rw [List.getElem?_append_left (H.domt_lt hb)]; exact ho, hn.mono (hle.ρ b)⟩
  · rintro k ⟨b, x, hb, hr⟩
    rcases hget b x hb with ⟨hlt, hb⟩ | ⟨rfl, rfl⟩
    · rw [realOf_add (by omega)] at hr; exact .inl ⟨b, x, hb, hr⟩
    · exact .inr (hnew k hr).1
  · intro r' off v hv
    rcases Nat.lt_or_ge r' w.heap.size with hl | hl
    · exact .inl (by rw [← hf2 r' off hl]; exact hv)
    · exact .inr (.inr hl)

/-- Nothing of what the interpreter knows is turned: more blocks, more frozen cells in them. -/
theorem HRel.grow (H : HRel CR E h w) {f : Nat → Nat → Option Value} {w' : World}
    (hsz : w.heap.size ≤ w'.heap.size) (hold : ∀ k, k < w.heap.size → w'.heap[k]? = w.heap[k]?)
    (hf1 : ∀ r o v, E.fz r o = some v → f r o = some v) (hf2 : ∀ r o, r < w.heap.size → f r o = E.fz r o)
    (hf3 : ∀ r o v, w.heap.size ≤ r → f r o = some v → w'.cell? ⟨r, o, none⟩ = some v) (hout : SameOut w w' := by exact ⟨rfl, rfl⟩) :
    HRel CR ⟨E.ρ, E.τ, f⟩ h w' ∧ Step E h w ⟨E.ρ, E.τ, f⟩ h w' := by
  have hle : E.le ⟨E.ρ, E.τ, f⟩ := ⟨fun _ _ h => h, fun _ _ _ h => h, hf1⟩
  have hre : ∀ b o, realOf ⟨E.ρ, E.τ, f⟩ b o = realOf E b o := fun b o => by cases o <;> rfl
  have hcell : ∀ r' off, r' < w.heap.size → w'.cell? ⟨r', off, none⟩ = w.cell? ⟨r', off, none⟩ := by
    intro r' off hr; simp only [World.cell?]; rw [hold r' hr]
  refine ⟨⟨?_, ?_, ?_, ?_, H.dom, H.domt⟩, ⟨hle, hsz, fun k hk _ => hold k hk, ?_, ?_, hout⟩⟩
  · intro b x hb
    refine (H.obj b x hb).pres hle rfl fun r' hr => ?_
    have hl := (H.obj b x hb).block hr
    exact ⟨hold r' hl, fun off ho => by show f r' off = none; rw [hf2 r' off hl]; exact ho⟩
  · intro b x b' x' r' hb hb' hr hr'
    rw [hre] at hr hr'; exact H.inj b x b' x' r' hb hb' hr hr'
  · intro r' off v hv
    rcases Nat.lt_or_ge r' w.heap.size with hl | hl
    · rw [hcell r' off hl]
      exact H.fz r' off v (by rw [← hf2 r' off hl]; exact hv)
    · exact hf3 r' off v hl hv
  · intro b x r' hb hr hx off
    rw [hre] at hr
    show f r' off = none
    rw [hf2 r' off ((H.obj b x hb).block hr)]
    exact H.sep b x r' hb hr hx off
  · rintro k ⟨b, x, hb, hr⟩
    rw [hre] at hr; exact .inl ⟨b, x, hb, hr⟩
  · intro r' off v hv
    rcases Nat.lt_or_ge r' w.heap.size with hl | hl
    · exact .inl (by rw [← hf2 r' off hl]; exact hv)
    · exact .inr (.inr hl)

/-- One object is turned: its own block, or a new one. -/
theorem HRel.update (H : HRel CR E h w) {E' : Env} {b : Nat} {o o' : AObj} {w' : World} (hb : h[b]? = some o)
    (hle : E.le E') (hρ : ∀ b', b' ≠ b → E'.ρ b' = E.ρ b') (hτ : ∀ b' k, b' ≠ b → E'.τ b' k = E.τ b' k)
    (hsz : w.heap.size ≤ w'.heap.size) (hw : ∀ k, k < w.heap.size → realOf E b o ≠ some k → w'.heap[k]? = w.heap[k]?)
    (hr' : ∀ x, realOf E' b o' = some x → realOf E b o = some x ∨ w.heap.size ≤ x)
    (hobj : ORel CR E' w' b o')
    (hf1 : ∀ r o v, E'.fz r o = some v → w'.cell? ⟨r, o, none⟩ = some v)
    (hf2 : ∀ k off, k < w.heap.size → realOf E b o ≠ some k → E'.fz k off = E.fz k off)
    (hsep : ∀ x, realOf E' b o' = some x → (∀ esz used, o' ≠ .tok esz used) → ∀ off, E'.fz x off = none)
    (htk : ∀ n x, E'.τ b n = some x → TauOK E' b n x o') (hout : SameOut w w' := by exact ⟨rfl, rfl⟩) :
    HRel CR E' (h.set b o') w' ∧ Step E h w E' (h.set b o') w' := by
  have hblt : b < h.length := (List.getElem?_eq_some_iff.1 hb).1
  have hget : ∀ b' x, (h.set b o')[b']? = some x → (b' ≠ b ∧ h[b']? = some x) ∨ (b' = b ∧ x = o') := by
    intro b' x hx
    by_cases e : b' = b
    · subst e; rw [List.getElem?_set_self hblt] at hx; exact .inr ⟨rfl, (Option.some.inj hx).symm⟩
    · rw [List.getElem?_set_ne (fun h => e h.symm)] at hx; exact .inl ⟨e, hx⟩
  have hre : ∀ b' x, b' ≠ b → realOf E' b' x = realOf E b' x := by
    intro b' x hne
    cases x <;> simp [realOf, hρ _ hne, hτ _ _ hne]
  have hne : ∀ b' x k, b' ≠ b → h[b']? = some x → realOf E b' x = some k → realOf E b o ≠ some k := by
    intro b' x k hn hx hk hk'
    exact hn (H.inj b' x b o k hx hb hk hk')
  refine ⟨⟨?_, ?_, hf1, ?_, ?_, ?_⟩, ⟨hle, hsz, ?_, ?_, ?_, hout⟩⟩
  · intro b' x hx
    rcases hget b' x hx with ⟨hn, hx1⟩ | ⟨e1, e2⟩
    · refine (H.obj b' x hx1).pres hle (hρ b' hn) fun k hk => ?_
      have hl := (H.obj b' x hx1).block hk
      have hn' := hne b' x k hn hx1 hk
      exact ⟨hw k hl hn', fun off ho => by rw [hf2 k off hl hn']; exact ho⟩
    · subst e1; subst e2; exact hobj
  · intro b1 x1 b2 x2 k hx1 hx2 hk1 hk2
    rcases hget b1 x1 hx1 with ⟨hn1, hy1⟩ | ⟨e1, e2⟩
    · rw [hre _ _ hn1] at hk1
      have hl1 := (H.obj b1 x1 hy1).block hk1
      rcases hget b2 x2 hx2 with ⟨hn2, hy2⟩ | ⟨e3, e4⟩
      · rw [hre _ _ hn2] at hk2; exact H.inj b1 x1 b2 x2 k hy1 hy2 hk1 hk2
      · subst e3; subst e4
        rcases hr' k hk2 with hk2 | hk2
        · exact H.inj b1 x1 _ o k hy1 hb hk1 hk2
        · omega
    · rcases hget b2 x2 hx2 with ⟨hn2, hy2⟩ | ⟨e3, e4⟩
      · rw [hre _ _ hn2] at hk2
        have hl2 := (H.obj b2 x2 hy2).block hk2
        subst e1; subst e2
        rcases hr' k hk1 with hk1 | hk1
        · exact H.inj _ o b2 x2 k hb hy2 hk1 hk2
        · omega
      · rw [e1, e3]
  · intro b' x k hx hk hnt off
    rcases hget b' x hx with ⟨hn, hx1⟩ | ⟨e1, e2⟩
    · rw [hre _ _ hn] at hk
      have hl := (H.obj b' x hx1).block hk
      rw [hf2 k off hl (hne b' x k hn hx1 hk)]
      exact H.sep b' x k hx1 hk hnt off
    · subst e1; subst e2; exact hsep k hk hnt off
  · intro b' r hr
    rw [List.length_set]
    by_cases e : b' = b
    · rw [e]; exact hblt
    · rw [hρ _ e] at hr; exact H.dom b' r hr
  · intro b' n x hx
    by_cases e : b' = b
    · subst e
      exact ⟨o', by rw [List.getElem?_set_self hblt], htk n x hx⟩
    · rw [hτ _ _ e] at hx
      obtain ⟨o1, ho, hn⟩ := H.domt b' n x hx
      exact ⟨o1, by rw [List.getElem?_set_ne (fun h => e h.symm)]; exact ho, hn.mono (hle.ρ b')⟩
  · intro k hk ho
    exact hw k hk fun hr => ho ⟨b, o, hb, hr⟩
  · rintro k ⟨b', x, hx, hk⟩
    rcases hget b' x hx with ⟨hn, hx1⟩ | ⟨e1, e2⟩
    · rw [hre _ _ hn] at hk; exact .inl ⟨b', x, hx1, hk⟩
    · subst e1; subst e2
      rcases hr' k hk with hk | hk
      · exact .inl ⟨_, o, hb, hk⟩
      · exact .inr hk
  · intro r off v hv
    rcases Nat.lt_or_ge r w.heap.size with hl | hl
    · by_cases e : realOf E b o = some r
      · exact .inr (.inl ⟨b, o, hb, e⟩)
      · exact .inl (by rw [← hf2 r off hl e]; exact hv)
    · exact .inr (.inr hl)
end

/-! ### What is dropped at a return, and at a loop's head -/

def Env.cut (E : Env) (n : Nat) : Env := ⟨fun b => if b < n then E.ρ b else none, fun b k => if b < n then E.τ b k else none, E.fz⟩

theorem Env.cut_le (E : Env) (n : Nat) : (E.cut n).le E :=
  ⟨fun b r h => by simp only [Env.cut] at h; split at h <;> simp_all, fun b k x h => by simp only [Env.cut] at h; split at h <;> simp_all, fun _ _ _ h => h⟩

theorem bare_cut (E : Env) (n : Nat) : (E.cut n).bare = E.bare := rfl

theorem blt_lt {a b : Nat} (h : Nat.blt a b = true) : a < b := by simpa [Nat.blt_eq] using h

mutual
theorem VRel.kill (n : Nat) : ∀ (x : AVal) {E : Env} {u : Value}, VRel x E u → VRel (killA n x) (E.cut n) u
  | .undef, _, _, _ => by simp [killA, VRel]
  | .bool b, _, _, h => by simpa [killA, VRel] using h
  | .int k m, _, _, h => by simpa [killA, VRel] using h
  | .str s, _, _, h => by simpa [killA, VRel] using h
  | .nilp, _, _, h => by simpa [killA, VRel] using h
  | .hp b esz i o, E, u, h => by
    simp only [killA]
    cases hb : Nat.blt b n with
    | true =>
      simp only [VRel, cond] at h ⊢
      obtain ⟨r, h1, h2⟩ := h
      exact ⟨r, by simp [Env.cut, blt_lt hb, h1], h2⟩
    | false => simp [VRel]
  | .fp esz xs i o, _, _, h => by simpa [killA, VRel, bare_cut] using h
  | .nils, _, _, h => by simpa [killA, VRel] using h
  | .emp, _, _, h => by simpa [killA, VRel] using h
  | .fs esz xs none, _, _, h => by simpa [killA, VRel, bare_cut] using h
  | .fs esz xs (some b), E, u, h => by
    simp only [killA]
    cases hb : Nat.blt b n with
    | true =>
      simp only [VRel, cond, bare_cut] at h ⊢
      obtain ⟨a, cap, h1, h0, h2, h3⟩ := h
      refine ⟨a, cap, h1, h0, h2, fun b' e => ?_⟩
      have hb' : b < n := blt_lt hb
      refine ⟨(h3 b' e).1, fun hx => ?_⟩
      obtain ⟨r, h4, h5⟩ := (h3 b' e).2 hx
      cases e
      exact ⟨r, by simp [Env.cut, hb', h4], h5⟩
    | false =>
      simp only [VRel, cond, bare_cut] at h ⊢
      obtain ⟨a, cap, h1, h0, h2, h3⟩ := h
      exact ⟨a, cap, h1, h0, h2, fun b' e => by cases e⟩
  | .hs b esz i len, E, u, h => by
    simp only [killA]
    cases hb : Nat.blt b n with
    | true =>
      simp only [VRel, cond] at h ⊢
      obtain ⟨r, a, cap, h1, h2⟩ := h
      exact ⟨r, a, cap, by simp [Env.cut, blt_lt hb, h1], h2⟩
    | false => simp [VRel]
  | .gs b esz m, E, u, h => by
    simp only [killA]
    cases hb : Nat.blt b n with
    | true =>
      simp only [VRel, cond] at h ⊢
      obtain ⟨a, cap, h1, h2, h3, h4⟩ := h
      exact ⟨a, cap, h1, h2, h3, fun hm => let ⟨r, e1, e2⟩ := h4 hm; ⟨r, by simp [Env.cut, blt_lt hb, e1], e2⟩⟩
    | false => simp [VRel]
  | .nilm, _, _, h => by simpa [killA, VRel] using h
  | .map b, E, u, h => by
    simp only [killA]
    cases hb : Nat.blt b n with
    | true =>
      simp only [VRel, cond] at h ⊢
      obtain ⟨r, h1, h2⟩ := h
      exact ⟨r, by simp [Env.cut, blt_lt hb, h1], h2⟩
    | false => simp [VRel]
  | .nilf, _, _, h => by simpa [killA, VRel] using h
  | .func f a c, E, u, h => by
    simp only [killA, VRel] at h ⊢
    obtain ⟨vs, ws, h1, h2, h3⟩ := h
    exact ⟨vs, ws, h1, VRels.kill n a h2, VRels.kill n c h3⟩
  | .yield b, E, u, h => by
    simp only [killA]
    cases hb : Nat.blt b n with
    | true =>
      simp only [VRel, cond] at h ⊢
      obtain ⟨r, h1, h2⟩ := h
      exact ⟨r, by simp [Env.cut, blt_lt hb, h1], h2⟩
    | false => simp [VRel]
  | .agg cs, E, u, h => by
    simp only [killA, VRel] at h ⊢
    obtain ⟨vs, h1, h2, h3⟩ := h
    exact ⟨vs, h1, VRels.kill n cs h2, h3⟩
  | .tuple cs, E, u, h => by
    simp only [killA, VRel] at h ⊢
    obtain ⟨vs, h1, h2⟩ := h
    exact ⟨vs, h1, VRels.kill n cs h2⟩
theorem VRels.kill (n : Nat) : ∀ (xs : List AVal) {E : Env} {vs : List Value}, VRels xs E vs → VRels (killL n xs) (E.cut n) vs
  | [], _, _, h => by simpa [killL, VRels] using h
  | x :: xs, _, _, h => by
    simp only [killL, VRels] at h ⊢
    obtain ⟨v, vs', h1, h2, h3⟩ := h
    exact ⟨v, vs', h1, VRel.kill n x h2, VRels.kill n xs h3⟩
end

theorem RowsRel.kill (n : Nat) {E : Env} {esz : Nat} : ∀ {es : List AVal} {cs : List Value}, RowsRel E esz es cs → RowsRel (E.cut n) esz (killL n es) cs
  | [], _, _ => by simp [killL, RowsRel]
  | _ :: _, _, ⟨u, rest, h1, h2, h3, h4, h5⟩ => by
    simp only [killL]; exact ⟨u, rest, h1.kill n, h2, h3, h4, RowsRel.kill n h5⟩

theorem EntRel.kill (n : Nat) {E : Env} : ∀ {es : List (Int × AVal)} {cs : List MapEntry}, EntRel E es cs → EntRel (E.cut n) (es.map fun p => (p.1, killA n p.2)) cs
  | [], _, h => h
  | _ :: _, _, ⟨e, rest, h1, h2, h3, h4⟩ => ⟨e, rest, h1, h2, h3.kill n, EntRel.kill n h4⟩

theorem killL_eq (n : Nat) : ∀ l, killL n l = l.map (killA n)
  | [] => rfl
  | _ :: l => by simp [killL, killL_eq n l]

theorem TRel.kill (n : Nat) {E : Env} {ts : List AVal} {a : Array Value} (h : TRel E ts a) : TRel (E.cut n) (killL n ts) a := by
  refine ⟨by rw [killL_eq, List.length_map]; exact h.1, fun i => ?_⟩
  have := (h.2 i).kill n
  rw [killL_eq]
  simp only [List.getD_eq_getElem?_getD, List.getElem?_map] at this ⊢
  cases hi : ts[i]? with
  | none => simp [VRel]
  | some v => rw [hi] at this; simpa using this

theorem ORel.kill {CR : Code → ACode → Prop} (n : Nat) {E : Env} {w : World} {b : Nat} {o : AObj} (hb : b < n) (h : ORel CR E w b o) : ORel CR (E.cut n) w b (killO n o) := by
  cases o with
  | rows esz es =>
    obtain ⟨r, c, t, h1, h2, h3⟩ := h
    exact ⟨r, c, t, by simp [Env.cut, hb, h1], h2, h3.kill n⟩
  | tok esz used =>
    obtain ⟨h0, h⟩ := h
    refine ⟨h0, fun hu => ?_⟩
    obtain ⟨r, cap, c, t, h1, h2, h3, h4, h5⟩ := h hu
    exact ⟨r, cap, c, t, by simp [Env.cut, hb, h1], h2, h3, h4, h5⟩
  | grow esz es =>
    obtain ⟨h0, h⟩ := h
    refine ⟨by simp [Env.cut, hb, h0], fun hu => ?_⟩
    obtain ⟨r, cap, c, t, h1, h2, h3, h4, h5⟩ := h (fun e => hu (by rw [e]; rfl))
    have hl : (killL n es).length = es.length := by rw [killL_eq, List.length_map]
    exact ⟨r, cap, c, t, by rw [hl]; simp [Env.cut, hb, h1], h2, h3, by rw [hl]; exact h4, h5.kill n⟩
  | map es =>
    obtain ⟨r, es', clock, h1, h2, h3⟩ := h
    exact ⟨r, es', clock, by simp [Env.cut, hb, h1], h2, h3.kill n⟩
  | loop ready pe ts ps a bd =>
    obtain ⟨r, L, h1, h2, h3, h4, h5, h6⟩ := h
    exact ⟨r, L, by simp [Env.cut, hb, h1], h2, h3, h4, h5.kill n, h6⟩
  | dead => trivial

theorem realOf_kill (n : Nat) (E : Env) {b : Nat} (hb : b < n) (o : AObj) : realOf (E.cut n) b (killO n o) = realOf E b o := by
  cases o <;> simp [killO, realOf, Env.cut, hb, killL_eq]

theorem TauOK.kill {n : Nat} {E : Env} {b k : Nat} {x : Nat × Nat} {o : AObj} (hb : b < n) (h : TauOK E b k x o) : TauOK (E.cut n) b k x (killO n o) := by
  cases o <;> simp only [TauOK, killO, killL_eq, List.length_map] at h ⊢ <;> first | exact h | exact ⟨h.1, fun e => by simp [Env.cut, hb, h.2 e]⟩

theorem killO_tok {n : Nat} {o : AObj} {esz used : Nat} (h : killO n o = .tok esz used) : o = .tok esz used := by
  cases o <;> simp [killO] at h ⊢
  exact h

theorem HRel.kill {CR : Code → ACode → Prop} (n : Nat) {E : Env} {h : List AObj} {w : World} (H : HRel CR E h w) :
    HRel CR (E.cut n) ((h.take n).map (killO n)) w := by
  have hget : ∀ b x, ((h.take n).map (killO n))[b]? = some x → b < n ∧ ∃ o, h[b]? = some o ∧ x = killO n o := by
    intro b x hx
    rw [List.getElem?_map, List.getElem?_take] at hx
    split at hx
    · rename_i hlt
      cases ho : h[b]? with
      | none => simp [ho] at hx
      | some o => simp [ho] at hx; exact ⟨hlt, o, rfl, hx.symm⟩
    · simp at hx
  refine ⟨?_, ?_, H.fz, ?_, ?_, ?_⟩
  · intro b x hx
    obtain ⟨hlt, o, ho, rfl⟩ := hget b x hx
    exact (H.obj b o ho).kill n hlt
  · intro b x b' x' r hx hx' hr hr'
    obtain ⟨hlt, o, ho, rfl⟩ := hget b x hx
    obtain ⟨hlt', o', ho', rfl⟩ := hget b' x' hx'
    rw [realOf_kill n E hlt] at hr; rw [realOf_kill n E hlt'] at hr'
    exact H.inj b o b' o' r ho ho' hr hr'
  · intro b x r hx hr hnt off
    obtain ⟨hlt, o, ho, rfl⟩ := hget b x hx
    rw [realOf_kill n E hlt] at hr
    exact H.sep b o r ho hr (fun esz used e => hnt esz used (by rw [e]; rfl)) off
  · intro b r hr
    simp only [Env.cut] at hr
    split at hr
    · have := H.dom b r hr; simp; omega
    · cases hr
  · intro b k x hr
    simp only [Env.cut] at hr
    split at hr
    · rename_i hlt
      obtain ⟨o, ho, hn⟩ := H.domt b k x hr
      exact ⟨killO n o, by rw [List.getElem?_map, List.getElem?_take, if_pos hlt, ho]; rfl, hn.kill hlt⟩
    · cases hr

/-- What was dropped was not there at the start. -/
theorem Step.kill {E E' : Env} {h h' : List AObj} {w w' : World} {CR : Code → ACode → Prop} (H : HRel CR E h w) (n : Nat) (hn : h.length ≤ n) (s : Step E h w E' h' w') :
    Step E h w (E'.cut n) ((h'.take n).map (killO n)) w' where
  le := ⟨fun b r hr => by have := H.dom b r hr; simp only [Env.cut]; rw [if_pos (by omega)]; exact s.le.ρ b r hr,
    fun b k x hr => by have := H.domt_lt hr; simp only [Env.cut]; rw [if_pos (by omega)]; exact s.le.τ b k x hr, s.le.fz⟩
  size := s.size
  keep := s.keep
  own k := by
    rintro ⟨b, x, hx, hr⟩
    rw [List.getElem?_map, List.getElem?_take] at hx
    split at hx
    · rename_i hlt
      cases ho : h'[b]? with
      | none => simp [ho] at hx
      | some o =>
        simp [ho] at hx
        subst hx
        rw [realOf_kill n E' hlt] at hr
        exact s.own k ⟨b, o, ho, hr⟩
    · simp at hx
  fzn := s.fzn
  out := s.out

end Go.Ai
