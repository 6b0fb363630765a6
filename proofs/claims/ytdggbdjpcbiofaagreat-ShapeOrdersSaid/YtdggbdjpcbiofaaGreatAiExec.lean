/- Code: the interpreter's answer over a piece of code stands for what the machine does with it. -/
import Derived.Test.YtdggbdjpcbiofaaGreatAiOrder
namespace Go.Ai

section
variable {α : Type} {good : α → Prop} {P : Program} {eqs : List TypeId} {F : Fence} {n N0 : Nat}

/-! ### Loops -/

theorem least (p : Nat → Prop) (h : ∃ n, p n) : ∃ n, p n ∧ ∀ m, p m → n ≤ m := by
  obtain ⟨n, hn⟩ := h
  induction n using Nat.strongRecOn with
  | _ n ih =>
    by_cases hx : ∃ m, m < n ∧ p m
    · obtain ⟨m, h1, h2⟩ := hx; exact ih m h1 h2
    · exact ⟨n, hn, fun m hm => Nat.le_of_not_lt fun hlt => hx ⟨m, hlt, hm⟩⟩

theorem wpIn_loop_fuel {F : Fence} {c : Code} {Q : Exit → Act → World → Prop} {a : Act} {w : World} (I : Nat → Act → World → Prop) {N : Nat} (h0 : I N a w)
    (round : ∀ N a w, I N a w → c.wpIn F n P (Exit.then (fun a' w' => ∃ N', N' < N ∧ I N' a' w') Q) a w) : (Code.loop c).wpIn F n P Q a w := by
  classical
  refine wpIn_loop (fun a w => ∃ N, I N a w) (fun a w => if h : ∃ N, I N a w then Classical.choose (least _ h) else 0) ⟨N, h0⟩ fun a w hI => ?_
  refine wpIn_mono (round _ a w (Classical.choose_spec (least _ hI)).1) fun e a' w' he => ?_
  cases e with
  | normal =>
    obtain ⟨N', hlt, hI'⟩ := he
    refine ⟨⟨N', hI'⟩, ?_⟩
    show (if h : ∃ N, I N a' w' then Classical.choose (least _ h) else 0) < (if h : ∃ N, I N a w then Classical.choose (least _ h) else 0)
    rw [dif_pos hI, dif_pos ⟨N', hI'⟩]
    exact Nat.lt_of_le_of_lt ((Classical.choose_spec (least _ ⟨N', hI'⟩)).2 _ hI') hlt
  | _ => exact he

theorem own_kill {E : Env} {h : List AObj} {n r : Nat} (o : Own (E.cut n) ((h.take n).map (killO n)) r) : Own E h r := by
  obtain ⟨b, x, hb, hr⟩ := o
  rw [List.getElem?_map, List.getElem?_take] at hb
  split at hb
  · rename_i hlt
    cases ho : h[b]? with
    | none => rw [ho] at hb; cases hb
    | some y =>
      rw [ho] at hb
      simp only [Option.map_some, Option.some.injEq] at hb
      subst hb
      rw [realOf_kill n E hlt] at hr
      exact ⟨b, y, ho, hr⟩
  · cases hb

theorem Marks.kill {E : Env} {h : List AObj} {w : World} {ds : List Deferred} (m : Marks N0 E h w ds) (n : Nat) : Marks N0 (E.cut n) ((h.take n).map (killO n)) w ds := by
  obtain ⟨rs, h1, h2, h3⟩ := m
  exact ⟨rs, h1, h2, fun r hr => ⟨(h3 r hr).1, (h3 r hr).2.1, fun o => (h3 r hr).2.2 (own_kill o)⟩⟩

theorem keepL_get (n : Nat) (keep : List Tmp) : ∀ (l : List AVal) (j i : Nat), (keepL n keep j l).getD i .undef = cond (keep.contains (j + i)) (killA n (l.getD i .undef)) .undef
  | [], j, i => by simp [keepL, killA]
  | v :: l, j, 0 => by simp [keepL]
  | v :: l, j, i + 1 => by
    have := keepL_get n keep l (j + 1) i
    simp only [keepL, List.getD_cons_succ]
    rw [this]
    rw [show j + 1 + i = j + (i + 1) by omega]

theorem keepL_length (n : Nat) (keep : List Tmp) : ∀ (l : List AVal) (j : Nat), (keepL n keep j l).length = l.length
  | [], _ => rfl
  | _ :: l, j => by simp [keepL, keepL_length n keep l]

theorem TRel.head {E : Env} {ts : List AVal} {a : Array Value} (T : TRel E ts a) (n : Nat) (keep : List Tmp) : TRel (E.cut n) (keepL n keep 0 ts) a := by
  refine ⟨by rw [keepL_length]; exact T.1, fun i => ?_⟩
  rw [keepL_get]
  cases keep.contains (0 + i) with
  | true => exact (T.2 i).kill n
  | false => simp only [cond_false, VRel]

theorem SR.head {E : Env} {st : St} {a : Act} {w : World} (R : SR (CRof P eqs) N0 E st a w) (n : Nat) (keep : List Tmp) : SR (CRof P eqs) N0 (E.cut n) (st.head n keep) a w :=
  ⟨R.T.head n keep, R.H.kill n, R.M.kill n⟩

/-! ### A block that is no one's turns -/

theorem HRel.quiet {CR : Code → ACode → Prop} {E : Env} {h : List AObj} {w : World} (H : HRel CR E h w) {k : Nat} {o : Obj} (hk : k < w.heap.size) (ho : ¬ Own E h k) (hf : ∀ off, E.fz k off = none) : HRel CR E h (w.putObj k o) := by
  have hoth : ∀ j, j ≠ k → (w.putObj k o).heap[j]? = w.heap[j]? := by
    intro j hj
    show (w.heap.setIfInBounds k o)[j]? = _
    rw [Array.getElem?_setIfInBounds_ne (fun e => hj e.symm)]
  refine ⟨fun b x hb => (H.obj b x hb).pres (.refl _) rfl fun r hr => ⟨hoth r fun e => ho (e ▸ ⟨b, x, hb, hr⟩), fun _ h => h⟩, H.inj, fun r off v hv => ?_, H.sep, H.dom, H.domt⟩
  have hrk : r ≠ k := fun e => by rw [e, hf off] at hv; cases hv
  have := H.fz r off v hv
  simp only [World.cell?] at this ⊢
  rw [hoth r hrk]
  exact this

theorem Step.quiet {E E' : Env} {h h' : List AObj} {w w' : World} (s : Step E h w E' h' w') {k : Nat} {o : Obj} (hk : w.heap.size ≤ k) : Step E h w E' h' (w'.putObj k o) where
  le := s.le
  size := by show w.heap.size ≤ (w'.heap.setIfInBounds k o).size; rw [Array.size_setIfInBounds]; exact s.size
  keep j hj ho := by
    show (w'.heap.setIfInBounds k o)[j]? = _
    rw [Array.getElem?_setIfInBounds_ne (by omega)]
    exact s.keep j hj ho
  own := s.own
  fzn := s.fzn
  out := s.out

/-- Entering a range over a function. -/
theorem enter_run {w : World} (fn : FuncId) (tmps : Array Value) (ps : Array Tmp) (assign body : Code) :
    ∃ (W2 : World) (l : Nat), (Instr.enterLoop fn tmps ps assign body none).run P w = .ok (l, [markOf w.heap.size]) W2 ∧ W2.heap.size = w.heap.size + 2 ∧ (∀ k, k < w.heap.size → W2.heap[k]? = w.heap[k]?) ∧
      W2.heap[w.heap.size]? = some (.deferred (some [])) ∧ W2.heap[l]? = some (.loop { state := .ready, pending := none, fn, tmps, params := ps, assign, body, defers := w.heap.size }) ∧ l = w.heap.size + 1 ∧ SameOut w W2 := by
  refine ⟨{ w with heap := (w.heap.push (.deferred (some []))).push (.loop { state := .ready, pending := none, fn, tmps, params := ps, assign, body, defers := w.heap.size }) }, w.heap.size + 1, ?_, ?_, ?_, ?_, ?_, rfl, rfl, rfl⟩
  · simp only [Instr.enterLoop, Sem.run_bind, run_newObj, Result.andThen_ok, Sem.run_pure, markOf]
    simp
  · simp
  · intro k hk
    show ((w.heap.push _).push _)[k]? = _
    rw [Array.getElem?_eq_getElem (by simp; omega), Array.getElem_push_lt (by simp; omega), Array.getElem_push_lt hk, Array.getElem?_eq_getElem hk]
  · show ((w.heap.push _).push _)[w.heap.size]? = _
    rw [Array.getElem?_eq_getElem (by simp; omega), Array.getElem_push_lt (by simp), Array.getElem_push_eq]
  · show ((w.heap.push (.deferred (some []))).push _)[w.heap.size + 1]? = _
    rw [show w.heap.size + 1 = (w.heap.push (.deferred (some []))).size by simp, Array.getElem?_push_size]

/-! ### Code -/

theorem Post.mono_step {K : AExit → St → α} {E E1 : Env} {h h1 : List AObj} {w w1 : World} {e : Exit} {a' : Act} {w' : World} (s : Step E h w E1 h1 w1) (p : Post good P eqs N0 E1 h1 w1 K e a' w') : Post good P eqs N0 E h w K e a' w' := by
  obtain ⟨e', st', E', h1, h2, h3, h4⟩ := p
  exact ⟨e', st', E', h1, h2, h3, s.trans h4⟩

theorem exec_sound {C : Cfg α} (hf : ¬ good C.fail) (hs : ∀ x y k, good (C.same x y k) → x = y ∧ good k) (EQ : ∀ t, eqs.contains t = true → EqPlain P t) (HC : HOK good (CRof P eqs) P C.H) :
    ∀ (ac : ACode) (m : Bool) (c : Code), chkCode P eqs m ac c = true → ∀ {ro : Option Nat}, (m = true → ro = none) → ∀ {E : Env} {st : St} {a : Act} {w : World}, SR (CRof P eqs) N0 E st a w → N0 ≤ w.heap.size →
      ∀ {K : AExit → St → α}, good (exec C ac st K) → c.wpIn (fenceOf ro) n P (Post good P eqs N0 E st.heap w K) a w := by
  intro ac
  induction ac with
  | skip =>
    intro m c hk ro hm E st a w R hN K h
    cases c <;> simp only [chkCode, Bool.false_eq_true] at hk
    exact wpIn_skip ⟨.normal, st, E, rfl, h, R, .refl _ _ _⟩
  | label =>
    intro m c hk ro hm E st a w R hN K h
    cases c <;> simp only [chkCode, Bool.false_eq_true] at hk
    exact wpIn_label ⟨.normal, st, E, rfl, h, R, .refl _ _ _⟩
  | exit id =>
    intro m c hk ro hm E st a w R hN K h
    cases c <;> simp only [chkCode, Bool.false_eq_true, beq_iff_eq] at hk
    subst hk
    exact wpIn_exit ⟨.exit id, st, E, rfl, h, R, .refl _ _ _⟩
  | ret =>
    intro m c hk ro hm E st a w R hN K h
    cases c <;> simp only [chkCode, Bool.false_eq_true] at hk
    exact wpIn_ret ⟨.ret, st, E, rfl, h, R, .refl _ _ _⟩
  | region aops =>
    intro m c hk ro hm E st a w R hN K h
    cases c <;> try (simp only [chkCode, Bool.false_eq_true] at hk)
    rename_i id ops draw
    cases draw <;> simp only [chkCode, Bool.false_eq_true] at hk
    refine wpIn_region ?_
    have := ops_sound (n := n) (ro := ro) (Q := Post good P eqs N0 E st.heap w K) hf EQ HC ops.toList aops [] rfl hk R h fun st' E' a' w' k1 k2 k3 => ⟨.normal, st', E', rfl, k1, k2, k3⟩
    simpa [List.range_eq_range'] using this
  | draw items pre =>
    intro m c hk ro hm E st a w R hN K h
    cases c <;> try (simp only [chkCode, Bool.false_eq_true] at hk)
    rename_i id ops draw
    cases draw <;> simp only [chkCode, Bool.false_eq_true] at hk
    exact draw_sound hf hs EQ HC hk R h fun st' E' a' w' k1 k2 k3 => ⟨.normal, st', E', rfl, k1, k2, k3⟩
  | seq x y ihx ihy =>
    intro m c hk ro hm E st a w R hN K h
    cases c <;> simp only [chkCode, Bool.false_eq_true, Bool.and_eq_true] at hk
    simp only [exec] at h
    refine wpIn_seq (wpIn_mono (ihx m _ hk.1 hm R hN h) fun e a' w' p => ?_)
    obtain ⟨e', st', E', rfl, h2, h3, h4⟩ := p
    cases e' with
    | normal => exact wpIn_mono (ihy m _ hk.2 hm h3 (Nat.le_trans hN h4.size) h2) fun _ _ _ p => p.mono_step h4
    | exit j => exact ⟨_, st', E', rfl, h2, h3, h4⟩
    | ret => exact ⟨_, st', E', rfl, h2, h3, h4⟩
  | cond g x y ihx ihy =>
    intro m c hk ro hm E st a w R hN K h
    cases c <;> simp only [chkCode, Bool.false_eq_true, Bool.and_eq_true] at hk
    simp only [exec] at h
    obtain ⟨t, ht, h⟩ := asB_good hf h
    have hg := argOk_rel hk.1.1 R.T
    rw [ht] at hg
    simp only [VRel] at hg
    refine wpIn_cond hg ?_
    cases t with
    | true => exact ihx m _ hk.1.2 hm R hN h
    | false => exact ihy m _ hk.2 hm R hN h
  | block id x ih =>
    intro m c hk ro hm E st a w R hN K h
    cases c <;> simp only [chkCode, Bool.false_eq_true, Bool.and_eq_true, beq_iff_eq] at hk
    obtain ⟨rfl, hk⟩ := hk
    simp only [exec] at h
    refine wpIn_block (wpIn_mono (ih m _ hk hm R hN h) fun e a' w' p => ?_)
    obtain ⟨e', st', E', rfl, h2, h3, h4⟩ := p
    cases e' with
    | normal => exact ⟨.normal, st', E', rfl, h2, h3, h4⟩
    | exit j =>
      simp only [exOf, Exit.inBlock]
      simp only at h2
      by_cases hj : j = id
      · subst hj
        simp only [beq_self_eq_true, cond_true] at h2
        simp only [if_true]
        exact ⟨.normal, st', E', rfl, h2, h3, h4⟩
      · have : (j == id) = false := by simpa using hj
        rw [this] at h2
        simp only [hj, if_false]
        exact ⟨.exit j, st', E', rfl, h2, h3, h4⟩
    | ret => exact ⟨.ret, st', E', rfl, h2, h3, h4⟩
  | loop keep x ih =>
    intro m c hk ro hm E st a w R hN K h
    cases c <;> simp only [chkCode, Bool.false_eq_true] at hk
    rename_i body
    simp only [exec] at h
    refine wpIn_loop_fuel (fun N a' w' => ∃ st' E', good (loopA C.fail st.heap.length keep (exec C x) N st' K) ∧ SR (CRof P eqs) N0 E' st' a' w' ∧ Step E st.heap w E' st'.heap w')
      ⟨st, E, h, R, .refl _ _ _⟩ ?_
    intro N a' w' ⟨st', E', h1, h2, h3⟩
    cases N with
    | zero => exact absurd h1 hf
    | succ N =>
      simp only [loopA] at h1
      have hst := h3.kill R.H st.heap.length (Nat.le_refl _)
      refine wpIn_mono (ih m _ hk hm (h2.head st.heap.length keep) (Nat.le_trans hN h3.size) h1) fun e a'' w'' p => ?_
      obtain ⟨e', st'', E'', rfl, k2, k3, k4⟩ := p
      have k5 := hst.trans k4
      cases e' with
      | normal => exact ⟨N, Nat.lt_succ_self N, st'', E'', k2, k3, k5⟩
      | exit j => exact ⟨.exit j, st'', E'', rfl, k2, k3, k5⟩
      | ret => exact ⟨.ret, st'', E'', rfl, k2, k3, k5⟩
  | rangeFunc g ps x y ihx ihy =>
    intro m c hk ro hm E st a w R hN K h
    cases m with
    | false => cases c <;> simp only [chkCode, Bool.false_eq_true] at hk
    | true =>
    cases c <;> simp only [chkCode, Bool.false_eq_true, Bool.and_eq_true, beq_iff_eq] at hk
    rename_i g' ps' as' b'
    obtain ⟨⟨⟨hk1, hk2⟩, hk3⟩, hk4⟩ := hk
    obtain rfl := hm rfl
    simp only [exec] at h
    refine wpIn_rangeFunc fun fn _ => ?_
    obtain ⟨W2, l, he, hW1, hW2, hW3, hW4, hl, hW5⟩ := enter_run (P := P) (w := w) fn a.tmps ps' as' b'
    obtain ⟨H2, s2⟩ := R.H.push (o := .loop true none st.tmps ps x y) (r := some l) (t := fun _ => none) (f := E.fz) (w' := W2) (hout := hW5) (by omega) hW2 (fun _ _ _ h => h) (fun _ _ _ => rfl)
      (fun r o v hr hv => by rw [R.H.fz_new hr] at hv; cases hv)
      (fun r' hr => by
        simp only [realOf, Env.add, if_true, Option.some.injEq] at hr
        subst hr
        exact ⟨by omega, fun _ off => R.H.fz_new (by omega)⟩)
      ⟨l, _, by simp [Env.add], hW4, rfl, rfl, R.T.mono (R.H.add_le fun _ _ _ h => h), by rw [← hk2], hk3, hk4⟩
    have hρ : (E.add st.heap.length (some l) (fun _ => none) E.fz).ρ st.heap.length = some l := by simp [Env.add]
    have hv : VRel (st.ev g) (E.add st.heap.length (some l) (fun _ => none) E.fz) (a.eval g') := (argOk_rel hk1 R.T).mono _ s2.le
    obtain ⟨d, f, as, hd, hinv, hcall⟩ := HC.range _ _ _ _ _ W2 _ l h hv hρ H2
    refine ⟨l, [markOf w.heap.size], W2, d, W2, f, as, W2, he, ?_, fun _ _ => trivial, hinv, fun e => by simp [fenceOf] at e, callsIn_open (hcall.mono fun e w3 he => ?_)⟩
    · simp only [resolve, rangeCall, List.map_toArray, List.map_cons, List.map_nil, Act.eval]
      exact hd
    cases e with
    | panicked c => exact he.elim
    | outgrown => exact he.elim
    | returned v =>
    obtain ⟨z, h', E', k1, k2, H3, s3⟩ := he
    have hm2 : Marks N0 (E.add st.heap.length (some l) (fun _ => none) E.fz) (st.heap ++ [.loop true none st.tmps ps x y]) W2 (markOf w.heap.size :: a.defers) := by
      obtain ⟨rs, m1, m2, m3⟩ := R.M.step s2
      have hlt : ∀ r ∈ rs, r < w.heap.size := by
        obtain ⟨rs', q1, q2, q3⟩ := R.M
        have : rs' = rs := by
          have := q1.symm.trans m1
          have inj : ∀ (x y : List Nat), x.map markOf = y.map markOf → x = y := by
            intro x
            induction x with
            | nil => intro y hy; cases y with
              | nil => rfl
              | cons _ _ => simp at hy
            | cons p x ih => intro y hy; cases y with
              | nil => simp at hy
              | cons q y =>
                simp only [List.map_cons, List.cons.injEq] at hy
                obtain ⟨e1, e2⟩ := hy
                simp only [markOf, Deferred.mk.injEq, Target.collected.injEq, and_true] at e1
                rw [e1, ih y e2]
          exact inj _ _ this
        subst this
        intro r hr
        exact (Array.getElem?_eq_some_iff.1 (q3 r hr).2.1).1
      refine ⟨w.heap.size :: rs, by simp [m1], List.nodup_cons.2 ⟨fun hx => absurd (hlt _ hx) (by omega), m2⟩, fun r hr => ?_⟩
      rcases List.mem_cons.1 hr with rfl | hr
      · refine ⟨hN, hW3, fun ⟨b, o, hb, ho⟩ => ?_⟩
        rcases Nat.lt_trichotomy b st.heap.length with hlt' | heq | hgt
        · rw [List.getElem?_append_left hlt'] at hb
          rw [realOf_add (by omega)] at ho
          have := (R.H.obj b o hb).block ho
          omega
        · subst heq
          simp at hb
          subst hb
          simp [realOf, Env.add] at ho
          omega
        · rw [List.getElem?_eq_none (by simp; omega)] at hb; cases hb
      · exact m3 r hr
    have hm3 := hm2.step s3
    have s13 := s2.trans s3
    split at k1
    · rename_i rd pe ts0 ps0 x0 y0 hobj
      obtain ⟨l', L, q1, q2, q3, q4, q5⟩ := H3.obj _ _ hobj
      have : l' = l := by
        have := s3.le.ρ _ _ hρ
        rw [this] at q1; cases q1; rfl
      subst this
      have hnb : L.state ≠ .busy := by
        rw [q3]
        cases rd with
        | true => simp [loopState]
        | false =>
          cases pe with
          | none => exact absurd k1 hf
          | some e => simp [loopState]
      have hend : (Instr.endLoop l').run P w3 = .ok L.pending (w3.putObj l' (.loop { L with state := .exhausted })) := by
        have hb : (L.state == LoopState.busy) = false := by simpa using hnb
        have hg : (getObj l').run P w3 = .ok (.loop L) w3 := by simp [getObj, Sem.run, q2]
        have hs : ∀ o, (setObj l' o).run P w3 = .ok () (w3.putObj l' o) := fun o => by simp [setObj, Sem.run, q2, World.putObj]
        simp only [Instr.endLoop, Instr.getLoop, Sem.run_bind, hg, Result.andThen_ok, Sem.run_pure, hb, Bool.false_eq_true, if_false, hs]
      have hlt3 : l' < w3.heap.size := (Array.getElem?_eq_some_iff.1 q2).1
      have hno : ¬ Own (E'.cut st.heap.length) ((h'.take st.heap.length).map (killO st.heap.length)) l' := by
        rintro ⟨b, o, hb, hr⟩
        rw [List.getElem?_map, List.getElem?_take] at hb
        split at hb
        · rename_i hlt
          cases ho : h'[b]? with
          | none => rw [ho] at hb; cases hb
          | some y =>
            rw [ho] at hb
            simp only [Option.map_some, Option.some.injEq] at hb
            subst hb
            rw [realOf_kill _ E' hlt] at hr
            have := H3.inj b y st.heap.length _ l' ho hobj hr q1
            omega
        · cases hb
      have hfz : ∀ off, (E'.cut st.heap.length).fz l' off = none := H3.sep st.heap.length _ l' hobj q1 (fun _ _ e => by cases e)
      have H4 := (H3.kill st.heap.length).quiet (o := .loop { L with state := .exhausted }) hlt3 hno hfz
      have s4 := (s13.kill R.H st.heap.length (Nat.le_refl _)).quiet (k := l') (o := .loop { L with state := .exhausted }) (by omega)
      have hm4 : Marks N0 (E'.cut st.heap.length) ((h'.take st.heap.length).map (killO st.heap.length)) (w3.putObj l' (.loop { L with state := .exhausted })) (markOf w.heap.size :: a.defers) := by
        obtain ⟨rs, m1, m2, m3⟩ := hm3.kill st.heap.length
        refine ⟨rs, m1, m2, fun r hr => ⟨(m3 r hr).1, ?_, (m3 r hr).2.2⟩⟩
        have hne : r ≠ l' := by
          intro e; subst e
          have := (m3 r hr).2.1
          rw [q2] at this; cases this
        show (w3.heap.setIfInBounds l' _)[r]? = _
        rw [Array.getElem?_setIfInBounds_ne (fun e => hne e.symm)]
        exact (m3 r hr).2.1
      have R4 : SR (CRof P eqs) N0 (E'.cut st.heap.length) ⟨st.tmps, (h'.take st.heap.length).map (killO st.heap.length)⟩ { a with defers := [markOf w.heap.size] ++ a.defers } (w3.putObj l' (.loop { L with state := .exhausted })) :=
        ⟨R.T.mono s4.le, H4, hm4⟩
      have hend' : ∃ W4, (Instr.endLoop l').run P w3 = .ok L.pending W4 ∧ SR (CRof P eqs) N0 (E'.cut st.heap.length) ⟨st.tmps, (h'.take st.heap.length).map (killO st.heap.length)⟩ { a with defers := [markOf w.heap.size] ++ a.defers } W4 ∧
        Step E st.heap w (E'.cut st.heap.length) ((h'.take st.heap.length).map (killO st.heap.length)) W4 := ⟨_, hend, R4, s4⟩
      clear hend R4 s4 hm4 H4
      obtain ⟨W4, hend, R4, s4⟩ := hend'
      refine ⟨L.pending, W4, hend, ?_⟩
      rw [q4]
      cases pe with
      | none =>
        cases rd with
        | true => exact ⟨.normal, _, _, rfl, k1, R4, s4⟩
        | false => exact absurd k1 hf
      | some e =>
        cases e with
        | normal => exact ⟨.normal, _, _, rfl, k1, R4, s4⟩
        | exit id => exact wpIn_exit ⟨.exit id, _, _, rfl, k1, R4, s4⟩
        | ret => exact wpIn_ret ⟨.ret, _, _, rfl, k1, R4, s4⟩
    · exact absurd k1 hf

end
end Go.Ai
