/- What a call does, said of the machine itself: the greatest handler; bodies, rounds, frames, weaker arguments. -/
import Derived.Test.YtdggbdjpcbiofaaGreatAiEq
namespace Go.Ai

abbrev GoodP : Prop → Prop := fun p => p

structure Hs (P : Program) (eqs : List TypeId) (g : AVal) (args : List AVal) (heap : List AObj) (K : AVal → List AObj → Prop) : Prop where
  call : ∀ (E : Env) (w : World) (fv : Value) (ras : Array Value), VRel g E fv → VRels args E ras.toList → HRel (CRof P eqs) E heap w → CallOK P fv ras w (Ret GoodP (CRof P eqs) K E heap w)
  range : ∀ l, args = [.yield l] → ∀ (E : Env) (w : World) (fv : Value) (r : Nat), VRel g E fv → E.ρ l = some r → HRel (CRof P eqs) E heap w → EnterOK P fv #[.func (.yield r) #[] #[]] w (Ret GoodP (CRof P eqs) K E heap w)

theorem Hs.ok {P : Program} {eqs : List TypeId} : HOK GoodP (CRof P eqs) P (Hs P eqs) :=
  ⟨fun _ _ _ _ E w fv ras h => h.call E w fv ras, fun _ l _ _ E w fv r h => h.range l rfl E w fv r⟩

/-- The interpreter over propositions. -/
def cfg (P : Program) (eqs : List TypeId) (N : Nat) : Cfg Prop := ⟨False, Hs P eqs, fun x y k => x = y ∧ k, N⟩

section
variable {P : Program} {eqs : List TypeId}

theorem CallOK.mono {fv : Value} {args : Array Value} {w : World} {R R' : Value → World → Prop} (h : CallOK P fv args w R) (hr : ∀ v w', R v w' → R' v w') : CallOK P fv args w R' := by
  obtain ⟨d, h1, h2⟩ := h
  refine ⟨d, h1, ?_⟩
  split at h2
  · exact hr _ _ h2
  · exact h2.mono fun e w'' h => by cases e <;> first | exact hr _ _ h | exact h
  · exact h2.mono fun e w'' h => by cases e <;> first | exact hr _ _ h | exact h
  · exact absurd h2 id

theorem EnterOK.mono {fv : Value} {args : Array Value} {w : World} {R R' : Value → World → Prop} (h : EnterOK P fv args w R) (hr : ∀ v w', R v w' → R' v w') : EnterOK P fv args w R' := by
  obtain ⟨d, f, as, h1, h2, h3⟩ := h
  exact ⟨d, f, as, h1, h2, h3.mono fun e w'' h => by cases e <;> first | exact hr _ _ h | exact h⟩

theorem Hs.mono {g : AVal} {args : List AVal} {heap : List AObj} {K K' : AVal → List AObj → Prop} (h : Hs P eqs g args heap K) (hk : ∀ v h', K v h' → K' v h') : Hs P eqs g args heap K' :=
  ⟨fun E w fv ras h1 h2 h3 => (h.call E w fv ras h1 h2 h3).mono fun _ _ ⟨z, h', E', a, b⟩ => ⟨z, h', E', hk _ _ a, b⟩,
   fun l hl E w fv r h1 h2 h3 => (h.range l hl E w fv r h1 h2 h3).mono fun _ _ ⟨z, h', E', a, b⟩ => ⟨z, h', E', hk _ _ a, b⟩⟩

/-- A function's body. -/
theorem Hs.body (EQ : ∀ t, eqs.contains t = true → EqPlain P t) {f : FuncId} {fn : Func} {af : AFunc} (hfn : P.funcs[f]? = some fn) (hk : chkFunc P eqs fn af = true) {first caps args : List AVal} {heap : List AObj} {K : AVal → List AObj → Prop} {N : Nat}
    (h : bodyA (cfg P eqs N) af (first ++ args ++ caps) heap K) : Hs P eqs (.func f first caps) args heap K := by
  have hf : ¬ GoodP (cfg P eqs N).fail := id
  have hsm : ∀ x y k, GoodP ((cfg P eqs N).same x y k) → x = y ∧ GoodP k := fun _ _ _ h => h
  have enter : ∀ {E : Env} {w : World} {fv : Value} {ras : Array Value}, VRel (.func f first caps) E fv → VRels args E ras.toList → HRel (CRof P eqs) E heap w →
      EnterOK P fv ras w (Ret GoodP (CRof P eqs) K E heap w) := by
    intro E w fv ras hg ha H
    simp only [VRel] at hg
    obtain ⟨vs, ws, rfl, h1, h2⟩ := hg
    have hv : VRels (first ++ args ++ caps) E (vs ++ ras ++ ws).toList := by
      simpa using (h1.append ha).append h2
    exact ⟨_, f, _, rfl, call_func hfn hk _ _, body_sound (C := cfg P eqs N) hf hsm EQ Hs.ok hfn hk h hv H⟩
  refine ⟨fun E w fv ras h1 h2 h3 => ?_, ?_⟩
  · obtain ⟨d, f', as, h1, h2, h3⟩ := enter h1 h2 h3
    exact ⟨d, h1, by rw [h2]; exact h3⟩
  · rintro l rfl E w fv r hg hr H
    exact enter hg (by simp only [VRels]; exact ⟨_, [], rfl, by simp only [VRel]; exact ⟨r, hr, rfl⟩, rfl⟩) H

/-- A round of a range over a function. -/
theorem Hs.round (EQ : ∀ t, eqs.contains t = true → EqPlain P t) {l : Nat} {args : List AVal} {heap : List AObj} {K : AVal → List AObj → Prop} {N : Nat} (ha : ∀ l', args ≠ [.yield l'])
    (h : roundA (cfg P eqs N) l args heap K) : Hs P eqs (.yield l) args heap K := by
  have hf : ¬ GoodP (cfg P eqs N).fail := id
  have hsm : ∀ x y k, GoodP ((cfg P eqs N).same x y k) → x = y ∧ GoodP k := fun _ _ _ h => h
  refine ⟨fun E w fv ras hg hv H => ?_, fun l' e => absurd e (ha l')⟩
  simp only [VRel] at hg
  obtain ⟨r, hr, rfl⟩ := hg
  obtain ⟨L, k1, k2, k3⟩ := round_sound (C := cfg P eqs N) hf hsm EQ Hs.ok h hr hv H
  refine ⟨_, rfl, ?_⟩
  have hgo : (getObj r).run P w = .ok (.loop L) w := by simp [getObj, Sem.run, k1]
  have hi : (invoke (.fn (.yield r) #[]) (#[] ++ ras)).run P w = .ok (.round r L.fn ((L.params.zip ras).foldl (fun tmps (t, a) => tmps.setIfInBounds t a) L.tmps) L.assign L.body) w := by
    have hne : ¬ (ras.size ≠ L.params.size) := by simp [k2]
    simp only [invoke, Instr.yield, Instr.getLoop, Sem.run_bind, hgo, Result.andThen_ok, Sem.run_pure, Array.empty_append, if_neg hne]
  rw [hi]
  exact k3

/-! ### Weaker values -/

/-- 'y' says less than 'x', or the same. -/
def Sub (x y : AVal) : Prop := ∀ E u, VRel x E u → VRel y E u

def Subs (xs ys : List AVal) : Prop := ∀ E us, VRels xs E us → VRels ys E us

theorem Sub.refl (x : AVal) : Sub x x := fun _ _ h => h
theorem Sub.trans {x y z : AVal} (a : Sub x y) (b : Sub y z) : Sub x z := fun E u h => b E u (a E u h)
theorem Sub.of_eq {x y : AVal} (h : x = y) : Sub x y := h ▸ Sub.refl x
theorem Subs.refl (x : List AVal) : Subs x x := fun _ _ h => h
theorem Subs.nil : Subs [] [] := Subs.refl _
theorem Subs.cons {x y : AVal} {xs ys : List AVal} (a : Sub x y) (b : Subs xs ys) : Subs (x :: xs) (y :: ys) := fun E us h => by
  simp only [VRels] at h ⊢
  obtain ⟨v, vs, e, h1, h2⟩ := h
  exact ⟨v, vs, e, a _ _ h1, b _ _ h2⟩
theorem Sub.undef (x : AVal) : Sub x .undef := fun _ _ _ => by simp only [VRel]
theorem Sub.nils (e : Nat) : Sub .nils (.fs e [] none) := fun E u h => by
  simp only [VRel] at h ⊢
  exact ⟨none, 0, h, Nat.le_refl _, fun h => absurd rfl h, fun b hb => by cases hb⟩
theorem Sub.emp (e : Nat) : Sub .emp (.fs e [] none) := fun E u h => by
  simp only [VRel] at h ⊢
  obtain ⟨a, h⟩ := h
  exact ⟨some a, 0, h, Nat.le_refl _, fun h => absurd rfl h, fun b hb => by cases hb⟩
theorem Sub.fs0 (e e' : Nat) (t : Option Nat) : Sub (.fs e [] t) (.fs e' [] none) := fun E u h => by
  simp only [VRel] at h ⊢
  obtain ⟨a, cap, h1, h2, _⟩ := h
  exact ⟨a, cap, h1, h2, fun h => absurd rfl h, fun b hb => by cases hb⟩
theorem Sub.agg {xs ys : List AVal} (h : Subs xs ys) : Sub (.agg xs) (.agg ys) := fun E u k => by
  simp only [VRel] at k ⊢
  obtain ⟨vs, e, k1, k2⟩ := k
  exact ⟨vs, e, h _ _ k1, k2⟩
theorem Sub.tuple {xs ys : List AVal} (h : Subs xs ys) : Sub (.tuple xs) (.tuple ys) := fun E u k => by
  simp only [VRel] at k ⊢
  obtain ⟨vs, e, k1⟩ := k
  exact ⟨vs, e, h _ _ k1⟩
theorem Sub.func {f : FuncId} {xs ys xs' ys' : List AVal} (h : Subs xs ys) (h' : Subs xs' ys') : Sub (.func f xs xs') (.func f ys ys') := fun E u k => by
  simp only [VRel] at k ⊢
  obtain ⟨vs, ws, e, k1, k2⟩ := k
  exact ⟨vs, ws, e, h _ _ k1, h' _ _ k2⟩

/-- Point by point. -/
inductive SubL : List AVal → List AVal → Prop
  | nil : SubL [] []
  | cons {x y : AVal} {xs ys : List AVal} : Sub x y → SubL xs ys → SubL (x :: xs) (y :: ys)

theorem SubL.refl : ∀ xs, SubL xs xs
  | [] => .nil
  | x :: xs => .cons (.refl x) (SubL.refl xs)
theorem SubL.of_eq {xs ys : List AVal} (h : xs = ys) : SubL xs ys := h ▸ SubL.refl xs
theorem SubL.length {xs ys : List AVal} (h : SubL xs ys) : xs.length = ys.length := by induction h <;> simp [*]
theorem SubL.subs {xs ys : List AVal} (h : SubL xs ys) : Subs xs ys := by
  induction h with
  | nil => exact .nil
  | cons h _ ih => exact .cons h ih
theorem SubL.elems {xs ys : List AVal} (h : SubL xs ys) : ∀ {E : Env} {esz r off : Nat}, Elems xs E esz r off → Elems ys E esz r off := by
  induction h with
  | nil => exact fun h => h
  | cons h _ ih =>
    intro E esz r off k
    simp only [Elems] at k ⊢
    obtain ⟨⟨u, k1, k2⟩, k3⟩ := k
    exact ⟨⟨u, h _ _ k1, k2⟩, ih k3⟩
theorem SubL.append {xs ys xs' ys' : List AVal} (h : SubL xs ys) (h' : SubL xs' ys') : SubL (xs ++ xs') (ys ++ ys') := by
  induction h with
  | nil => exact h'
  | cons h _ ih => exact .cons h ih
theorem SubL.map {α : Type} {f g : α → AVal} (h : ∀ a, Sub (f a) (g a)) : ∀ l : List α, SubL (l.map f) (l.map g)
  | [] => .nil
  | a :: l => .cons (h a) (SubL.map h l)

theorem Sub.fs {e : Nat} {xs ys : List AVal} {t : Option Nat} (h : SubL xs ys) : Sub (.fs e xs t) (.fs e ys none) := fun E u k => by
  simp only [VRel] at k ⊢
  obtain ⟨a, cap, k1, k2, k3, _⟩ := k
  have hl := h.length
  refine ⟨a, cap, by rw [← hl]; exact k1, by omega, fun hy => ?_, fun b hb => by cases hb⟩
  obtain ⟨r, off, k4, k5⟩ := k3 (fun e => hy (by subst e; cases h; rfl))
  exact ⟨r, off, k4, h.elems k5⟩
theorem Sub.fst {e : Nat} {xs ys : List AVal} {t : Option Nat} (h : SubL xs ys) : Sub (.fs e xs t) (.fs e ys t) := fun E u k => by
  simp only [VRel] at k ⊢
  obtain ⟨a, cap, k1, k2, k3, k6⟩ := k
  have hl := h.length
  have hn : xs = [] ↔ ys = [] := by cases h <;> simp
  refine ⟨a, cap, by rw [← hl]; exact k1, by omega, fun hy => ?_, fun b hb => ?_⟩
  · obtain ⟨r, off, k4, k5⟩ := k3 (fun e => hy (hn.1 e))
    exact ⟨r, off, k4, h.elems k5⟩
  · obtain ⟨k7, k8⟩ := k6 b hb
    exact ⟨fun e => k7 (hn.2 e), fun hy => by rw [← hl]; exact k8 (fun e => hy (hn.1 e))⟩

inductive SubO : AObj → AObj → Prop
  | refl (o : AObj) : SubO o o
  | rows {e : Nat} {xs ys : List AVal} : SubL xs ys → SubO (.rows e xs) (.rows e ys)

inductive SubH : List AObj → List AObj → Prop
  | nil : SubH [] []
  | cons {x y : AObj} {xs ys : List AObj} : SubO x y → SubH xs ys → SubH (x :: xs) (y :: ys)

theorem SubH.refl : ∀ xs, SubH xs xs
  | [] => .nil
  | x :: xs => .cons (.refl x) (SubH.refl xs)
theorem SubH.length {xs ys : List AObj} (h : SubH xs ys) : xs.length = ys.length := by induction h <;> simp [*]
theorem SubH.get {xs ys : List AObj} (h : SubH xs ys) : ∀ {b : Nat} {y : AObj}, ys[b]? = some y → ∃ x, xs[b]? = some x ∧ SubO x y := by
  induction h with
  | nil => intro b y h; simp at h
  | cons h _ ih =>
    intro b y k
    cases b with
    | zero => simp at k; subst k; exact ⟨_, rfl, h⟩
    | succ b => simp only [List.getElem?_cons_succ] at k ⊢; exact ih k
theorem SubH.get' {xs ys : List AObj} (h : SubH xs ys) : ∀ {b : Nat} {x : AObj}, xs[b]? = some x → ∃ y, ys[b]? = some y ∧ SubO x y := by
  induction h with
  | nil => intro b y h; simp at h
  | cons h _ ih =>
    intro b y k
    cases b with
    | zero => simp at k; subst k; exact ⟨_, rfl, h⟩
    | succ b => simp only [List.getElem?_cons_succ] at k ⊢; exact ih k
theorem SubO.real {x y : AObj} (h : SubO x y) (E : Env) (b : Nat) : realOf E b y = realOf E b x := by cases h <;> rfl
theorem SubO.tok {x y : AObj} (h : SubO x y) {e u : Nat} : x = .tok e u ↔ y = .tok e u := by
  cases h with
  | refl => rfl
  | rows => constructor <;> intro h <;> cases h
theorem SubL.rows {xs ys : List AVal} (h : SubL xs ys) : ∀ {E : Env} {esz : Nat} {cs : List Value}, RowsRel E esz xs cs → RowsRel E esz ys cs := by
  induction h with
  | nil => exact fun h => h
  | cons h _ ih =>
    rintro E esz cs ⟨u, rest, k1, k2, k3, k4, k5⟩
    exact ⟨u, rest, h _ _ k1, k2, k3, k4, ih k5⟩

theorem HRel.sub {CR : Code → ACode → Prop} {E : Env} {h h' : List AObj} {w : World} (H : HRel CR E h w) (s : SubH h h') : HRel CR E h' w := by
  refine ⟨fun b y hy => ?_, fun b o b' o' r h1 h2 h3 h4 => ?_, H.fz, fun b o r h1 h2 h3 => ?_, fun b r hr => by rw [← s.length]; exact H.dom b r hr, fun b n x hx => ?_⟩
  · obtain ⟨x, hx, hs⟩ := s.get hy
    have := H.obj b x hx
    cases hs with
    | refl => exact this
    | rows hl => obtain ⟨r, c, t, k1, k2, k3⟩ := this; exact ⟨r, c, t, k1, k2, hl.rows k3⟩
  · obtain ⟨x, hx, hs⟩ := s.get h1
    obtain ⟨x', hx', hs'⟩ := s.get h2
    exact H.inj b x b' x' r hx hx' (by rw [← hs.real]; exact h3) (by rw [← hs'.real]; exact h4)
  · obtain ⟨x, hx, hs⟩ := s.get h1
    exact H.sep b x r hx (by rw [← hs.real]; exact h2) fun e u hu => h3 e u (hs.tok.1 hu)
  · obtain ⟨o, h1, h2⟩ := H.domt b n x hx
    obtain ⟨y, hy, hs⟩ := s.get' h1
    refine ⟨y, hy, ?_⟩
    cases hs with
    | refl => exact h2
    | rows hl => simpa only [TauOK, hl.length] using h2

theorem Own.sub {E : Env} {h h' : List AObj} (s : SubH h h') {r : Nat} : Own E h' r ↔ Own E h r := by
  constructor
  · rintro ⟨b, o, h1, h2⟩
    obtain ⟨x, hx, hs⟩ := s.get h1
    exact ⟨b, x, hx, by rw [← hs.real]; exact h2⟩
  · rintro ⟨b, o, h1, h2⟩
    obtain ⟨x, hx, hs⟩ := s.get' h1
    exact ⟨b, x, hx, by rw [hs.real]; exact h2⟩

theorem Step.sub {E E' : Env} {h h1 h' : List AObj} {w w' : World} (s : SubH h h1) (t : Step E h1 w E' h' w') : Step E h w E' h' w' :=
  ⟨t.le, t.size, fun k hk ho => t.keep k hk fun o => ho ((Own.sub s).1 o), fun k o => (t.own k o).imp (fun o => (Own.sub s).1 o) id, fun r o v hv => (t.fzn r o v hv).imp id (fun h => h.imp (fun o => (Own.sub s).1 o) id), t.out⟩

theorem Step.sub' {E E' : Env} {h h1 h' : List AObj} {w w' : World} (s : SubH h' h1) (t : Step E h w E' h' w') : Step E h w E' h1 w' :=
  ⟨t.le, t.size, t.keep, fun k o => t.own k ((Own.sub s).1 o), t.fzn, t.out⟩

/-- Weaker arguments, a weaker heap; a weaker answer. -/
theorem Hs.weaken {g g' : AVal} {args args' : List AVal} {heap heap' : List AObj} {K K' : AVal → List AObj → Prop} (h : Hs P eqs g' args' heap' K') (hg : Sub g g') (ha : SubL args args') (hh : SubH heap heap')
    (hk : ∀ v h', K' v h' → ∃ v' h'', Sub v v' ∧ SubH h' h'' ∧ K v' h'') (hy : ∀ l, args = [.yield l] → args' = [.yield l]) : Hs P eqs g args heap K := by
  have key : ∀ {E : Env} {w : World} (v : Value) (w' : World), Ret GoodP (CRof P eqs) K' E heap' w v w' → Ret GoodP (CRof P eqs) K E heap w v w' := by
    rintro E w v w' ⟨z, h', E', k1, k2, k3, k4⟩
    obtain ⟨z', h'', s1, s2, s3⟩ := hk _ _ k1
    exact ⟨z', h'', E', s3, s1 _ _ k2, k3.sub s2, (k4.sub hh).sub' s2⟩
  exact ⟨fun E w fv ras h1 h2 h3 => (h.call E w fv ras (hg _ _ h1) (ha.subs _ _ h2) (h3.sub hh)).mono key,
   fun l e E w fv r h1 h2 h3 => (h.range l (hy l e) E w fv r (hg _ _ h1) h2 (h3.sub hh)).mono key⟩

theorem Hs.args {g : AVal} {args args' : List AVal} {heap : List AObj} {K : AVal → List AObj → Prop} (h : Hs P eqs g args' heap K) (ha : SubL args args') (hy : ∀ l, args = [.yield l] → args' = [.yield l]) : Hs P eqs g args heap K :=
  h.weaken (.refl _) ha (.refl _) (fun v h' k => ⟨v, h', .refl _, .refl _, k⟩) hy

theorem Hs.res {g : AVal} {args : List AVal} {heap : List AObj} {K K' : AVal → List AObj → Prop} (h : Hs P eqs g args heap K') (hk : ∀ v h', K' v h' → ∃ v', Sub v v' ∧ K v' h') : Hs P eqs g args heap K :=
  h.weaken (.refl _) (.refl _) (.refl _) (fun v h' k => let ⟨v', s, k'⟩ := hk v h' k; ⟨v', h', s, .refl _, k'⟩) fun _ e => e

/-! ### Frames -/

theorem Hs.frame {g : AVal} {args : List AVal} {h1 h2 : List AObj} {K1 K : AVal → List AObj → Prop} (hg : killA h1.length g = g) (ha : killL h1.length args = args) (hh : h1.map (killO h1.length) = h1)
    (h : Hs P eqs g args h1 K1) (hK : ∀ z h', K1 z h' → h1.length ≤ h'.length ∧ K (killA h1.length z) ((h'.take h1.length).map (killO h1.length) ++ h2)) : Hs P eqs g args (h1 ++ h2) K := by
  generalize hn : h1.length = n at *
  have main : ∀ {E : Env} {w : World} (v : Value) (w' : World), HRel (CRof P eqs) E (h1 ++ h2) w → Ret GoodP (CRof P eqs) K1 (E.cut n) h1 w v w' → Ret GoodP (CRof P eqs) K E (h1 ++ h2) w v w' := by
    rintro E w v w' H ⟨z, h', E', k1, k2, k3, k4⟩
    have H1 : HRel (CRof P eqs) (E.cut n) h1 w := by
      have := H.kill n
      rwa [List.take_left' hn, hh] at this
    obtain ⟨l1, l2⟩ := hK z h' k1
    have r1 : HRel (CRof P eqs) (E'.cut n) ((h'.take n).map (killO n)) w' := k3.kill n
    have r2 : Step (E.cut n) h1 w (E'.cut n) ((h'.take n).map (killO n)) w' := k4.kill H1 n (Nat.le_of_eq hn)
    have r3 : VRel (killA n z) (E'.cut n) v := k2.kill n
    generalize hE1 : E'.cut n = E1 at r1 r2 r3
    generalize hh1' : (h'.take n).map (killO n) = h1' at r1 r2 l2
    have len : h1'.length = n := by rw [← hh1']; simp; omega
    let E2 : Env := ⟨fun b => if b < n then E1.ρ b else E.ρ b, fun b k => if b < n then E1.τ b k else E.τ b k, E1.fz⟩
    have le12 : E1.le E2 := ⟨fun b r hr => by
        have := r1.dom b r hr
        show (if b < n then E1.ρ b else E.ρ b) = some r
        rw [if_pos (by omega)]; exact hr, fun b k x hx => by
        have := r1.domt_lt hx
        show (if b < n then E1.τ b k else E.τ b k) = some x
        rw [if_pos (by omega)]; exact hx, fun _ _ _ h => h⟩
    have leE : E.le E2 := ⟨fun b r hr => by
        show (if b < n then E1.ρ b else E.ρ b) = some r
        split
        · rename_i hb; exact r2.le.ρ b r (by simp only [Env.cut]; rw [if_pos hb]; exact hr)
        · exact hr, fun b k x hx => by
        show (if b < n then E1.τ b k else E.τ b k) = some x
        split
        · rename_i hb; exact r2.le.τ b k x (by simp only [Env.cut]; rw [if_pos hb]; exact hx)
        · exact hx, fun r o v hv => r2.le.fz r o v hv⟩
    have real1 : ∀ {b : Nat} (o : AObj), b < n → realOf E2 b o = realOf E1 b o := by
      intro b o hb; cases o <;> simp [realOf, E2, hb]
    have real2 : ∀ {b : Nat} (o : AObj), ¬ b < n → realOf E2 b o = realOf E b o := by
      intro b o hb; cases o <;> simp [realOf, E2, hb]
    have realc : ∀ {b : Nat} (o : AObj), b < n → realOf (E.cut n) b o = realOf E b o := by
      intro b o hb; cases o <;> simp [realOf, Env.cut, hb]
    have getl : ∀ {b : Nat} {o : AObj} {x : List AObj}, x.length = n → b < n → (x ++ h2)[b]? = some o → x[b]? = some o := by
      intro b o x hx hb h
      rwa [List.getElem?_append_left (by omega)] at h
    have getr : ∀ {b : Nat} {o : AObj}, ¬ b < n → (h1' ++ h2)[b]? = some o → (h1 ++ h2)[b]? = some o := by
      intro b o hb h
      rw [List.getElem?_append_right (by omega)] at h ⊢
      rw [hn]; rw [len] at h; exact h
    have getr' : ∀ {b : Nat} {o : AObj}, ¬ b < n → (h1 ++ h2)[b]? = some o → (h1' ++ h2)[b]? = some o := by
      intro b o hb h
      rw [List.getElem?_append_right (by omega)] at h ⊢
      rw [len]; rw [hn] at h; exact h
    have ownc : ∀ {r : Nat}, Own (E.cut n) h1 r → ∃ b o, b < n ∧ (h1 ++ h2)[b]? = some o ∧ realOf E b o = some r := by
      rintro r ⟨b, o, a1, a2⟩
      have hb : b < n := by have := (List.getElem?_eq_some_iff.1 a1).1; omega
      exact ⟨b, o, hb, by rw [List.getElem?_append_left (by omega)]; exact a1, by rw [← realc o hb]; exact a2⟩
    have notown : ∀ {b : Nat} {o : AObj} {r : Nat}, ¬ b < n → (h1 ++ h2)[b]? = some o → realOf E b o = some r → ¬ Own (E.cut n) h1 r := by
      intro b o r hb a1 a2 a3
      obtain ⟨b', o', hb', a4, a5⟩ := ownc a3
      exact hb (by rw [H.inj b o b' o' r a1 a4 a2 a5]; exact hb')
    have blk : ∀ {b : Nat} {o : AObj} {r : Nat}, (h1 ++ h2)[b]? = some o → realOf E b o = some r → r < w.heap.size := fun a1 a2 => (H.obj _ _ a1).block a2
    have fzk : ∀ {b : Nat} {o : AObj} {r off : Nat}, ¬ b < n → (h1 ++ h2)[b]? = some o → realOf E b o = some r → E.fz r off = none → E2.fz r off = none := by
      intro b o r off hb a1 a2 a3
      cases hv : E2.fz r off with
      | none => rfl
      | some v =>
        rcases r2.fzn r off v hv with a | a | a
        · have : E.fz r off = some v := a
          rw [a3] at this; cases this
        · exact absurd a (notown hb a1 a2)
        · have := blk a1 a2; omega
    refine ⟨killA n z, h1' ++ h2, E2, l2, r3.mono _ le12, ?_, ?_⟩
    · refine ⟨fun b o ho => ?_, fun b o b' o' r a1 a2 a3 a4 => ?_, r1.fz, fun b o r a1 a2 a3 off => ?_, fun b r hr => ?_, fun b k x hx => ?_⟩
      · by_cases hb : b < n
        · exact (r1.obj b o (getl len hb ho)).pres le12 (by show (if b < n then E1.ρ b else E.ρ b) = E1.ρ b; rw [if_pos hb]) fun r hr => ⟨rfl, fun off h => h⟩
        · have ho' := getr hb ho
          exact (H.obj b o ho').pres leE (by show (if b < n then E1.ρ b else E.ρ b) = E.ρ b; rw [if_neg hb]) fun r hr => ⟨r2.keep r (blk ho' hr) (notown hb ho' hr), fun off h => fzk hb ho' hr h⟩
      · by_cases hb : b < n <;> by_cases hb' : b' < n
        · rw [real1 o hb] at a3; rw [real1 o' hb'] at a4
          exact r1.inj b o b' o' r (getl len hb a1) (getl len hb' a2) a3 a4
        · rw [real1 o hb] at a3; rw [real2 o' hb'] at a4
          rcases r2.own r ⟨b, o, getl len hb a1, a3⟩ with a | a
          · exact absurd a (notown hb' (getr hb' a2) a4)
          · have := blk (getr hb' a2) a4; omega
        · rw [real2 o hb] at a3; rw [real1 o' hb'] at a4
          rcases r2.own r ⟨b', o', getl len hb' a2, a4⟩ with a | a
          · exact absurd a (notown hb (getr hb a1) a3)
          · have := blk (getr hb a1) a3; omega
        · rw [real2 o hb] at a3; rw [real2 o' hb'] at a4
          exact H.inj b o b' o' r (getr hb a1) (getr hb' a2) a3 a4
      · by_cases hb : b < n
        · rw [real1 o hb] at a2
          exact r1.sep b o r (getl len hb a1) a2 a3 off
        · rw [real2 o hb] at a2
          exact fzk hb (getr hb a1) a2 (H.sep b o r (getr hb a1) a2 a3 off)
      · have hr : (if b < n then E1.ρ b else E.ρ b) = some r := hr
        split at hr
        · have := r1.dom b r hr; simp; omega
        · have := H.dom b r hr; simp at this ⊢; omega
      · have hx : (if b < n then E1.τ b k else E.τ b k) = some x := hx
        split at hx
        · rename_i hb
          obtain ⟨o, a1, a2⟩ := r1.domt b k x hx
          exact ⟨o, by rw [List.getElem?_append_left (by omega)]; exact a1, a2.mono (le12.ρ b)⟩
        · rename_i hb
          obtain ⟨o, a1, a2⟩ := H.domt b k x hx
          exact ⟨o, getr' hb a1, a2.mono (leE.ρ b)⟩
    · refine ⟨leE, r2.size, fun k hk ho => r2.keep k hk fun o => ho ?_, ?_, fun r o v hv => ?_, r2.out⟩
      · obtain ⟨b, o, _, a1, a2⟩ := ownc o; exact ⟨b, o, a1, a2⟩
      · rintro k ⟨b, o, a1, a2⟩
        by_cases hb : b < n
        · rw [real1 o hb] at a2
          rcases r2.own k ⟨b, o, getl len hb a1, a2⟩ with a | a
          · obtain ⟨b, o, _, a1, a2⟩ := ownc a; exact .inl ⟨b, o, a1, a2⟩
          · exact .inr a
        · rw [real2 o hb] at a2
          exact .inl ⟨b, o, getr hb a1, a2⟩
      · rcases r2.fzn r o v hv with a | a | a
        · exact .inl a
        · obtain ⟨b, o, _, a1, a2⟩ := ownc a; exact .inr (.inl ⟨b, o, a1, a2⟩)
        · exact .inr (.inr a)
  have H1 : ∀ {E : Env} {w : World}, HRel (CRof P eqs) E (h1 ++ h2) w → HRel (CRof P eqs) (E.cut n) h1 w := by
    intro E w H
    have := H.kill n
    rwa [List.take_left' hn, hh] at this
  refine ⟨fun E w fv ras a1 a2 a3 => ?_, fun l e E w fv r a1 a2 a3 => ?_⟩
  · have b1 := a1.kill n; rw [hg] at b1
    have b2 := a2.kill n; rw [ha] at b2
    exact (h.call (E.cut n) w fv ras b1 b2 (H1 a3)).mono fun v w' k => main v w' a3 k
  · have b1 := a1.kill n; rw [hg] at b1
    have hl : l < n := by
      rw [e] at ha
      simp only [killL, killA] at ha
      cases hb : Nat.blt l n with
      | true => exact blt_lt hb
      | false => rw [hb] at ha; simp at ha
    exact (h.range l e (E.cut n) w fv r b1 (by simp only [Env.cut]; rw [if_pos hl]; exact a2) (H1 a3)).mono fun v w' k => main v w' a3 k

/-- A function that reads its arguments alone. -/
def Fun (P : Program) (eqs : List TypeId) (g : AVal) (args : List AVal) (r : AVal) : Prop :=
  ∀ (heap : List AObj) (K : AVal → List AObj → Prop), K r heap → Hs P eqs g args heap K

theorem Fun.of_empty {g : AVal} {args : List AVal} {r : AVal} (hg : killA 0 g = g) (ha : killL 0 args = args) (h : Hs P eqs g args [] fun v _ => Sub (killA 0 v) r) : Fun P eqs g args r := by
  intro heap K hk
  have h' : Hs P eqs g args ([] ++ heap) fun v h => Sub v r ∧ h = heap :=
    h.frame (h1 := []) hg ha rfl fun z h' hz => ⟨Nat.zero_le _, by simpa using hz⟩
  exact h'.res fun v h' hv => ⟨r, hv.1, by rw [hv.2]; exact hk⟩

theorem Fun.sub {g : AVal} {args args' : List AVal} {r r' : AVal} (h : Fun P eqs g args' r) (ha : SubL args args') (hr : Sub r r') (hy : ∀ l, args = [.yield l] → args' = [.yield l]) : Fun P eqs g args r' :=
  fun heap K hk => ((h heap (fun v h' => v = r ∧ h' = heap) ⟨rfl, rfl⟩).args ha hy).res fun v h' e => ⟨r', e.1 ▸ hr, e.2 ▸ hk⟩

end

/-! ### Weaker values, by rules -/

mutual
inductive SubC : AVal → AVal → Prop
  | refl (x : AVal) : SubC x x
  | nils (e : Nat) : SubC .nils (.fs e [] none)
  | emp (e : Nat) : SubC .emp (.fs e [] none)
  | fs0 (e e' : Nat) (t : Option Nat) : SubC (.fs e [] t) (.fs e' [] none)
  | fsn (e : Nat) (t : Option Nat) (xs : List AVal) : SubC (.fs e xs t) (.fs e xs none)
  | agg {xs ys : List AVal} : SubCs xs ys → SubC (.agg xs) (.agg ys)
  | tuple {xs ys : List AVal} : SubCs xs ys → SubC (.tuple xs) (.tuple ys)
  | fs (e : Nat) (t : Option Nat) {xs ys : List AVal} : SubCs xs ys → SubC (.fs e xs t) (.fs e ys none)
  | undef (x : AVal) : SubC x .undef
inductive SubCs : List AVal → List AVal → Prop
  | nil : SubCs [] []
  | cons {x y : AVal} {xs ys : List AVal} : SubC x y → SubCs xs ys → SubCs (x :: xs) (y :: ys)
end

mutual
theorem SubC.sub : ∀ {x y : AVal}, SubC x y → Sub x y
  | _, _, .refl x => .refl x
  | _, _, .nils e => .nils e
  | _, _, .emp e => .emp e
  | _, _, .fs0 e e' t => .fs0 e e' t
  | _, _, .fsn e t xs => .fs (.refl xs)
  | _, _, .agg h => .agg h.subl.subs
  | _, _, .tuple h => .tuple h.subl.subs
  | _, _, .fs _ _ h => .fs h.subl
  | _, _, .undef x => .undef x
theorem SubCs.subl : ∀ {x y : List AVal}, SubCs x y → SubL x y
  | _, _, .nil => .nil
  | _, _, .cons h t => .cons h.sub t.subl
end

end Go.Ai
