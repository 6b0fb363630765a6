/- The maker's statements that have no others. -/
import Derived.Test.YtdggbdjpcbiofaaGreatMkC
set_option linter.unusedSimpArgs false
set_option linter.unusedVariables false
set_option maxHeartbeats 8000000
set_option maxRecDepth 100000
namespace Go.Par
open Go.Ai Go.Proofs

def cxOf (m : M) : Cx := ⟨m.d.params.length, m.d.vars, m.d.refs, m.d.arrays.length, m.p.d.globals.length, m.p.d.classes.length, m.p.d.queues.length, m.p.d.sinks.length, m.p.d.locks, m.p.d.parts⟩

/-- What the maker's state is like while it makes statements. -/
structure Ok (m : M) : Prop where
  h0 : 0 ≤ m.at_
  h1 : m.at_ < 1000000000000
  s0 : 0 ≤ m.site
  s1 : m.site < 1000000000
  hv : (m.d.params.length : Int) < m.d.vars
  hv1 : m.d.vars ≤ 12
  ha0 : 1 ≤ m.d.arrays.length
  ha : m.d.arrays.length ≤ 4
  refs : m.d.refs = 2
  glob : m.p.d.globals.length = 2
  cls : m.p.d.classes.length = 2
  que : m.p.d.queues.length = 1
  snk : m.p.d.sinks.length = 3
  locks : m.p.d.locks = 3
  parts : m.p.d.parts = 3
  calm : m.calm = false

/-- The places among the bytes and the sites go on. -/
def Adv2 (c d : Int) (m m' : M) : Prop := ∃ t s, m.at_ ≤ t ∧ t ≤ m.at_ + c ∧ m.site ≤ s ∧ s ≤ m.site + d ∧ m' = { m with at_ := t, site := s }

/-- A list of statements was made. -/
def ListPost (d : Nat) (c e : Int) (m : M) (r : AVal) (m' : M) : Prop := ∃ l, r = .fs 20 (l.map encS) none ∧ WfL (cxOf m) m.p.heads d l ∧ Inc m.site m'.site (sitesL l) ∧ nC l ≤ 1 ∧ Adv2 c e m m'
/-- A statement without others was made. -/
def StmtPost (c e : Int) (m : M) (r : AVal) (m' : M) : Prop := ∃ s, r = encS s ∧ Wf1 (cxOf m) m.p.heads s ∧ s.body = [] ∧ s.els = [] ∧ s.site = m.site + 1 ∧ m.site + 1 ≤ m'.site ∧ Adv2 c e m m'

theorem sitesL_one {s : S} (hb : s.body = []) (he : s.els = []) : sitesL [s] = [s.site] := by rw [sitesL_cons, hb, he]; rfl
theorem wf_one {cx : Cx} {hs : List Hd} {s : S} (h : Wf1 cx hs s) (hb : s.body = []) (he : s.els = []) : WfL cx hs 1 [s] := fun x hx => by
  simp only [List.mem_singleton] at hx; subst hx; exact ⟨h, by rw [hb]; rfl, by rw [he]; rfl⟩

theorem simple8 {a0 a1 : AObj} (lo : Low a0 a1) (m : M) (ok : Ok m) : Spec 186 [] (H8 a0 a1) m (ListPost 1 40 3 m) := by
  have h0 := ok.h0; have h1 := ok.h1; have s0 := ok.s0; have s1 := ok.s1; have hv := ok.hv; have hv1 := ok.hv1; have ha0 := ok.ha0; have ha := ok.ha
  have refs := ok.refs; have glob := ok.glob; have cls := ok.cls; have que := ok.que; have snk := ok.snk; have locks := ok.locks; have parts := ok.parts
  refine Spec.intro 8 (H8_len a0 a1) (by omega) (H8_kill lo) rfl (fun r m' ⟨v, h, _⟩ => by rw [h]; simp (dsimp := false) only [go_sem]) ?_
  refine Tryz.w186 0 ?_
  simp (maxSteps := 9999999) (dsimp := false) (disch := omega) only [go_sem, wrap64, Tryz.c186, Tryz.a186r0, Tryz.a186r1]
  simp only [H8, List.cons_append, List.nil_append]
  refine site8 lo m (by omega) (by omega) _ _ ?_
  rintro _ _ ⟨rfl, rfl⟩
  simp (maxSteps := 9999999) (dsimp := false) (disch := omega) only [go_sem, H8, wrap64, Tryz.a186r2]
  refine next8 lo { m with site := m.site + 1 } _ (by omega) (by first | omega | (simp only; omega)) (by first | omega | (simp only; omega)) _ _ ?_
  rintro _ _ ⟨k, rfl, ka, kb, rfl⟩
  by_cases hk0 : k = 0
  · simp (maxSteps := 9999999) (dsimp := false) (disch := omega) only [go_sem, H8, wrap64, cellsE, cellsC, dec_t, dec_f, hk0, Tryz.a186r3, Tryz.a186r4]
    refine target8 lo { m with at_ := m.at_ + 1, site := m.site + 1 } ok.hv (by first | omega | (simp only; omega)) (by first | omega | (simp only; omega)) (by first | omega | (simp only; omega)) _ _ ?_
    rintro _ _ ⟨v1, rfl, v1a, v1b, t2, t2a, t2b, rfl⟩
    try simp only at t2a t2b
    try simp only at v1a v1b
    simp (maxSteps := 9999999) (dsimp := false) (disch := omega) only [go_sem, H8, wrap64, cellsE, cellsC, dec_t, dec_f]
    refine next8 lo { m with at_ := t2, site := m.site + 1 } _ (by omega) (by first | omega | (simp only; omega)) (by first | omega | (simp only; omega)) _ _ ?_
    rintro _ _ ⟨u3, rfl, u3a, u3b, rfl⟩
    simp (maxSteps := 9999999) (dsimp := false) (disch := omega) only [go_sem, H8, wrap64, cellsE, cellsC, dec_t, dec_f]
    refine num _ _ _ ?_
    simp (maxSteps := 9999999) (dsimp := false) (disch := omega) only [go_sem, H8, wrap64, cellsE, cellsC, dec_t, dec_f, lo.k0, lo.k1]
    refine ⟨_, { m with at_ := t2 + 1, site := m.site + 1 }, ⟨[(.mk (m.site + 1) 2 (v1) (0) (0) (.mk 1 0 (u3) []) E0 C0 [] [] [] [])], rfl, ?_, ?_, by simp [nC_cons, nC_nil, S.op, S.body, S.els], t2 + 1, m.site + 1, by first | omega | (simp only; omega), by first | omega | (simp only; omega), by first | omega | (simp only; omega), by first | omega | (simp only; omega), rfl⟩, ?_, .refl _⟩
    · exact (wf_one (cx := cxOf m) (hs := m.p.heads) (s := (.mk (m.site + 1) 2 (v1) (0) (0) (.mk 1 0 (u3) []) E0 C0 [] [] [] [])) ⟨⟨_, rfl, ⟨by simp only [cxOf, S.n, S.m, S.v]; omega, by simp only [cxOf, S.n, S.m, S.v]; omega⟩, ⟨by simp only [cxOf, S.n, S.m, S.v]; omega, by simp only [cxOf, S.n, S.m, S.v]; omega⟩, rfl, (.inl ⟨rfl, rfl, rfl, by simp only [E.v, S.x, S.y]; omega, by simp only [E.v, S.x, S.y]; omega⟩), rfl, rfl, ⟨rfl, rfl⟩, fun _ => rfl, fun _ => rfl⟩, by simp only [S.site]; omega, by simp only [S.site]; omega⟩ rfl rfl)
    · simp only [sitesL_cons, sitesL_nil, S.site, S.body, S.els, List.append_nil, List.nil_append, List.cons_append]
      exact .one (by omega)
    · simp only [encS_eq, cellsS, cellsE, cellsC, S.site, S.op, S.n, S.m, S.v, S.x, S.y, S.c, S.args, S.ptrs, S.body, S.els, E0, C0, E.op, E.n, E.v, E.a, C.op, C.a, C.c, List.cons_append, List.nil_append, List.map_cons, List.map_nil]
      exact SubC.sub (by repeat constructor)
  by_cases hk1 : k = 1
  · simp (maxSteps := 9999999) (dsimp := false) (disch := omega) only [go_sem, H8, wrap64, cellsE, cellsC, dec_t, dec_f, hk0, hk1, Tryz.a186r3, Tryz.a186r5, Tryz.a186r6]
    refine next8 lo { m with at_ := m.at_ + 1, site := m.site + 1 } _ (by omega) (by first | omega | (simp only; omega)) (by first | omega | (simp only; omega)) _ _ ?_
    rintro _ _ ⟨u1, rfl, u1a, u1b, rfl⟩
    simp (maxSteps := 9999999) (dsimp := false) (disch := omega) only [go_sem, H8, wrap64, cellsE, cellsC, dec_t, dec_f]
    refine num _ _ _ ?_
    simp (maxSteps := 9999999) (dsimp := false) (disch := omega) only [go_sem, H8, wrap64, cellsE, cellsC, dec_t, dec_f]
    refine expr8n lo 2 _ rfl { m with at_ := m.at_ + 1 + 1, site := m.site + 1 } (by omega) (by first | omega | (simp only; omega)) (by simp only [cE]; omega) (by first | omega | (simp only; omega)) (by first | omega | (simp only; omega)) (by first | omega | (simp only; omega)) _ _ ?_
    rintro _ _ ⟨e2, rfl, e2w, t3, t3a, t3b, rfl⟩
    try simp only at t3a t3b
    simp only [cE] at t3b
    simp (maxSteps := 9999999) (dsimp := false) (disch := omega) only [go_sem, H8, wrap64, cellsE, cellsC, dec_t, dec_f, lo.k0, lo.k1]
    refine ⟨_, { m with at_ := t3, site := m.site + 1 }, ⟨[(.mk (m.site + 1) 3 (0) (0) (0) (.mk 1 0 (u1) []) e2 C0 [] [] [] [])], rfl, ?_, ?_, by simp [nC_cons, nC_nil, S.op, S.body, S.els], t3, m.site + 1, by first | omega | (simp only; omega), by first | omega | (simp only; omega), by first | omega | (simp only; omega), by first | omega | (simp only; omega), rfl⟩, ?_, .refl _⟩
    · exact (wf_one (cx := cxOf m) (hs := m.p.heads) (s := (.mk (m.site + 1) 3 (0) (0) (0) (.mk 1 0 (u1) []) e2 C0 [] [] [] [])) ⟨⟨_, rfl, rfl, ⟨by simp only [cxOf, S.n, S.m, S.v]; omega, by simp only [cxOf, S.n, S.m, S.v]; omega⟩, rfl, (.inl ⟨rfl, rfl, rfl, by simp only [E.v, S.x, S.y]; omega, by simp only [E.v, S.x, S.y]; omega⟩), e2w, rfl, ⟨rfl, rfl⟩, fun _ => rfl, fun _ => rfl⟩, by simp only [S.site]; omega, by simp only [S.site]; omega⟩ rfl rfl)
    · simp only [sitesL_cons, sitesL_nil, S.site, S.body, S.els, List.append_nil, List.nil_append, List.cons_append]
      exact .one (by omega)
    · simp only [encS_eq, cellsS, cellsE, cellsC, S.site, S.op, S.n, S.m, S.v, S.x, S.y, S.c, S.args, S.ptrs, S.body, S.els, E0, C0, E.op, E.n, E.v, E.a, C.op, C.a, C.c, List.cons_append, List.nil_append, List.map_cons, List.map_nil]
      exact SubC.sub (by repeat constructor)
  by_cases hk2 : k = 2
  · simp (maxSteps := 9999999) (dsimp := false) (disch := omega) only [go_sem, H8, wrap64, cellsE, cellsC, dec_t, dec_f, hk0, hk1, hk2, Tryz.a186r3, Tryz.a186r5, Tryz.a186r7, Tryz.a186r8]
    refine target8 lo { m with at_ := m.at_ + 1, site := m.site + 1 } ok.hv (by first | omega | (simp only; omega)) (by first | omega | (simp only; omega)) (by first | omega | (simp only; omega)) _ _ ?_
    rintro _ _ ⟨v1, rfl, v1a, v1b, t2, t2a, t2b, rfl⟩
    try simp only at t2a t2b
    try simp only at v1a v1b
    simp (maxSteps := 9999999) (dsimp := false) (disch := omega) only [go_sem, H8, wrap64, cellsE, cellsC, dec_t, dec_f]
    refine next8 lo { m with at_ := t2, site := m.site + 1 } _ (by omega) (by first | omega | (simp only; omega)) (by first | omega | (simp only; omega)) _ _ ?_
    rintro _ _ ⟨u3, rfl, u3a, u3b, rfl⟩
    simp (maxSteps := 9999999) (dsimp := false) (disch := omega) only [go_sem, H8, wrap64, cellsE, cellsC, dec_t, dec_f, lo.k0, lo.k1]
    refine ⟨_, { m with at_ := t2 + 1, site := m.site + 1 }, ⟨[(.mk (m.site + 1) 4 (v1) (u3) (0) E0 E0 C0 [] [] [] [])], rfl, ?_, ?_, by simp [nC_cons, nC_nil, S.op, S.body, S.els], t2 + 1, m.site + 1, by first | omega | (simp only; omega), by first | omega | (simp only; omega), by first | omega | (simp only; omega), by first | omega | (simp only; omega), rfl⟩, ?_, .refl _⟩
    · exact (wf_one (cx := cxOf m) (hs := m.p.heads) (s := (.mk (m.site + 1) 4 (v1) (u3) (0) E0 E0 C0 [] [] [] [])) ⟨⟨_, rfl, ⟨by simp only [cxOf, S.n, S.m, S.v]; omega, by simp only [cxOf, S.n, S.m, S.v]; omega⟩, ⟨by simp only [cxOf, S.n, S.m, S.v]; omega, by simp only [cxOf, S.n, S.m, S.v]; omega⟩, rfl, rfl, rfl, rfl, ⟨rfl, rfl⟩, fun _ => rfl, fun _ => rfl⟩, by simp only [S.site]; omega, by simp only [S.site]; omega⟩ rfl rfl)
    · simp only [sitesL_cons, sitesL_nil, S.site, S.body, S.els, List.append_nil, List.nil_append, List.cons_append]
      exact .one (by omega)
    · simp only [encS_eq, cellsS, cellsE, cellsC, S.site, S.op, S.n, S.m, S.v, S.x, S.y, S.c, S.args, S.ptrs, S.body, S.els, E0, C0, E.op, E.n, E.v, E.a, C.op, C.a, C.c, List.cons_append, List.nil_append, List.map_cons, List.map_nil]
      exact SubC.sub (by repeat constructor)
  by_cases hk3 : k = 3
  · simp (maxSteps := 9999999) (dsimp := false) (disch := omega) only [go_sem, H8, wrap64, cellsE, cellsC, dec_t, dec_f, hk0, hk1, hk2, hk3, Tryz.a186r3, Tryz.a186r5, Tryz.a186r7, Tryz.a186r9, Tryz.a186r10]
    refine target8 lo { m with at_ := m.at_ + 1, site := m.site + 1 } ok.hv (by first | omega | (simp only; omega)) (by first | omega | (simp only; omega)) (by first | omega | (simp only; omega)) _ _ ?_
    rintro _ _ ⟨v1, rfl, v1a, v1b, t2, t2a, t2b, rfl⟩
    try simp only at t2a t2b
    try simp only at v1a v1b
    simp (maxSteps := 9999999) (dsimp := false) (disch := omega) only [go_sem, H8, wrap64, cellsE, cellsC, dec_t, dec_f]
    refine next8 lo { m with at_ := t2, site := m.site + 1 } _ (by omega) (by first | omega | (simp only; omega)) (by first | omega | (simp only; omega)) _ _ ?_
    rintro _ _ ⟨u3, rfl, u3a, u3b, rfl⟩
    simp (maxSteps := 9999999) (dsimp := false) (disch := omega) only [go_sem, H8, wrap64, cellsE, cellsC, dec_t, dec_f, lo.k0, lo.k1]
    refine ⟨_, { m with at_ := t2 + 1, site := m.site + 1 }, ⟨[(.mk (m.site + 1) 20 (v1) (u3) (0) E0 E0 C0 [] [] [] [])], rfl, ?_, ?_, by simp [nC_cons, nC_nil, S.op, S.body, S.els], t2 + 1, m.site + 1, by first | omega | (simp only; omega), by first | omega | (simp only; omega), by first | omega | (simp only; omega), by first | omega | (simp only; omega), rfl⟩, ?_, .refl _⟩
    · exact (wf_one (cx := cxOf m) (hs := m.p.heads) (s := (.mk (m.site + 1) 20 (v1) (u3) (0) E0 E0 C0 [] [] [] [])) ⟨⟨_, rfl, ⟨by simp only [cxOf, S.n, S.m, S.v]; omega, by simp only [cxOf, S.n, S.m, S.v]; omega⟩, ⟨by simp only [cxOf, S.n, S.m, S.v]; omega, by simp only [cxOf, S.n, S.m, S.v]; omega⟩, rfl, rfl, rfl, rfl, ⟨rfl, rfl⟩, fun _ => rfl, fun _ => rfl⟩, by simp only [S.site]; omega, by simp only [S.site]; omega⟩ rfl rfl)
    · simp only [sitesL_cons, sitesL_nil, S.site, S.body, S.els, List.append_nil, List.nil_append, List.cons_append]
      exact .one (by omega)
    · simp only [encS_eq, cellsS, cellsE, cellsC, S.site, S.op, S.n, S.m, S.v, S.x, S.y, S.c, S.args, S.ptrs, S.body, S.els, E0, C0, E.op, E.n, E.v, E.a, C.op, C.a, C.c, List.cons_append, List.nil_append, List.map_cons, List.map_nil]
      exact SubC.sub (by repeat constructor)
  by_cases hk4 : k = 4
  · simp (maxSteps := 9999999) (dsimp := false) (disch := omega) only [go_sem, H8, wrap64, cellsE, cellsC, dec_t, dec_f, hk0, hk1, hk2, hk3, hk4, Tryz.a186r3, Tryz.a186r5, Tryz.a186r7, Tryz.a186r9, Tryz.a186r11, Tryz.a186r12]
    refine next8 lo { m with at_ := m.at_ + 1, site := m.site + 1 } _ (by omega) (by first | omega | (simp only; omega)) (by first | omega | (simp only; omega)) _ _ ?_
    rintro _ _ ⟨u1, rfl, u1a, u1b, rfl⟩
    simp (maxSteps := 9999999) (dsimp := false) (disch := omega) only [go_sem, H8, wrap64, cellsE, cellsC, dec_t, dec_f, Tryz.a186r13]
    refine site8 lo { m with at_ := m.at_ + 1 + 1, site := m.site + 1 } (by first | omega | (simp only; omega)) (by first | omega | (simp only; omega)) _ _ ?_
    rintro _ _ ⟨rfl, rfl⟩
    simp (maxSteps := 9999999) (dsimp := false) (disch := omega) only [go_sem, H8, wrap64, cellsE, cellsC, dec_t, dec_f]
    refine next8 lo { m with at_ := m.at_ + 1 + 1, site := m.site + 1 + 1 } _ (by omega) (by first | omega | (simp only; omega)) (by first | omega | (simp only; omega)) _ _ ?_
    rintro _ _ ⟨u2, rfl, u2a, u2b, rfl⟩
    simp (maxSteps := 9999999) (dsimp := false) (disch := omega) only [go_sem, H8, wrap64, cellsE, cellsC, dec_t, dec_f]
    refine num _ _ _ ?_
    simp (maxSteps := 9999999) (dsimp := false) (disch := omega) only [go_sem, H8, wrap64, cellsE, cellsC, dec_t, dec_f]
    refine site8 lo { m with at_ := m.at_ + 1 + 1 + 1, site := m.site + 1 + 1 } (by first | omega | (simp only; omega)) (by first | omega | (simp only; omega)) _ _ ?_
    rintro _ _ ⟨rfl, rfl⟩
    simp (maxSteps := 9999999) (dsimp := false) (disch := omega) only [go_sem, H8, wrap64, cellsE, cellsC, dec_t, dec_f, lo.k0, lo.k1]
    refine ⟨_, { m with at_ := m.at_ + 1 + 1 + 1, site := m.site + 1 + 1 + 1 }, ⟨[(.mk (m.site + 1) 16 (0) (u1) (0) E0 E0 C0 [] [] [] []), (.mk (m.site + 1 + 1) 5 (0) (0) (0) (.mk 1 0 (u2) []) E0 C0 [] [] [] []), (.mk (m.site + 1 + 1 + 1) 17 (0) (u1) (0) E0 E0 C0 [] [] [] [])], rfl, ?_, ?_, by simp [nC_cons, nC_nil, S.op, S.body, S.els], m.at_ + 1 + 1 + 1, m.site + 1 + 1 + 1, by first | omega | (simp only; omega), by first | omega | (simp only; omega), by first | omega | (simp only; omega), by first | omega | (simp only; omega), rfl⟩, ?_, .refl _⟩
    · exact (((wf_one (cx := cxOf m) (hs := m.p.heads) (s := (.mk (m.site + 1) 16 (0) (u1) (0) E0 E0 C0 [] [] [] [])) ⟨⟨_, rfl, rfl, ⟨by simp only [cxOf, S.n, S.m, S.v]; omega, by simp only [cxOf, S.n, S.m, S.v]; omega⟩, rfl, rfl, rfl, rfl, ⟨rfl, rfl⟩, fun _ => rfl, fun _ => rfl⟩, by simp only [S.site]; omega, by simp only [S.site]; omega⟩ rfl rfl)).append (wf_one (cx := cxOf m) (hs := m.p.heads) (s := (.mk (m.site + 1 + 1) 5 (0) (0) (0) (.mk 1 0 (u2) []) E0 C0 [] [] [] [])) ⟨⟨_, rfl, rfl, ⟨by simp only [cxOf, S.n, S.m, S.v]; omega, by simp only [cxOf, S.n, S.m, S.v]; omega⟩, rfl, (.inl ⟨rfl, rfl, rfl, by simp only [E.v, S.x, S.y]; omega, by simp only [E.v, S.x, S.y]; omega⟩), rfl, rfl, ⟨rfl, rfl⟩, fun _ => rfl, fun _ => rfl⟩, by simp only [S.site]; omega, by simp only [S.site]; omega⟩ rfl rfl)).append (wf_one (cx := cxOf m) (hs := m.p.heads) (s := (.mk (m.site + 1 + 1 + 1) 17 (0) (u1) (0) E0 E0 C0 [] [] [] [])) ⟨⟨_, rfl, rfl, ⟨by simp only [cxOf, S.n, S.m, S.v]; omega, by simp only [cxOf, S.n, S.m, S.v]; omega⟩, rfl, rfl, rfl, rfl, ⟨rfl, rfl⟩, fun _ => rfl, fun _ => rfl⟩, by simp only [S.site]; omega, by simp only [S.site]; omega⟩ rfl rfl)
    · simp only [sitesL_cons, sitesL_nil, S.site, S.body, S.els, List.append_nil, List.nil_append, List.cons_append]
      exact ((Inc.one (a := m.site) (b := m.site + 1) (by omega)).append (Inc.one (b := m.site + 1 + 1) (by omega))).append (Inc.one (b := m.site + 1 + 1 + 1) (by omega))
    · simp only [encS_eq, cellsS, cellsE, cellsC, S.site, S.op, S.n, S.m, S.v, S.x, S.y, S.c, S.args, S.ptrs, S.body, S.els, E0, C0, E.op, E.n, E.v, E.a, C.op, C.a, C.c, List.cons_append, List.nil_append, List.map_cons, List.map_nil]
      exact SubC.sub (by repeat constructor)
  by_cases hk5 : k = 5
  · simp (maxSteps := 9999999) (dsimp := false) (disch := omega) only [go_sem, H8, wrap64, cellsE, cellsC, dec_t, dec_f, hk0, hk1, hk2, hk3, hk4, hk5, Tryz.a186r3, Tryz.a186r5, Tryz.a186r7, Tryz.a186r9, Tryz.a186r11, Tryz.a186r14, Tryz.a186r15]
    refine site8 lo { m with at_ := m.at_ + 1, site := m.site + 1 } (by first | omega | (simp only; omega)) (by first | omega | (simp only; omega)) _ _ ?_
    rintro _ _ ⟨rfl, rfl⟩
    simp (maxSteps := 9999999) (dsimp := false) (disch := omega) only [go_sem, H8, wrap64, cellsE, cellsC, dec_t, dec_f]
    refine expr8n lo 1 _ rfl { m with at_ := m.at_ + 1, site := m.site + 1 + 1 } (by omega) (by first | omega | (simp only; omega)) (by simp only [cE]; omega) (by first | omega | (simp only; omega)) (by first | omega | (simp only; omega)) (by first | omega | (simp only; omega)) _ _ ?_
    rintro _ _ ⟨e1, rfl, e1w, t2, t2a, t2b, rfl⟩
    try simp only at t2a t2b
    simp only [cE] at t2b
    simp (maxSteps := 9999999) (dsimp := false) (disch := omega) only [go_sem, H8, wrap64, cellsE, cellsC, dec_t, dec_f]
    refine site8 lo { m with at_ := t2, site := m.site + 1 + 1 } (by first | omega | (simp only; omega)) (by first | omega | (simp only; omega)) _ _ ?_
    rintro _ _ ⟨rfl, rfl⟩
    simp (maxSteps := 9999999) (dsimp := false) (disch := omega) only [go_sem, H8, wrap64, cellsE, cellsC, dec_t, dec_f, lo.k0, lo.k1]
    refine ⟨_, { m with at_ := t2, site := m.site + 1 + 1 + 1 }, ⟨[(.mk (m.site + 1) 6 (1) (0) (0) E0 E0 C0 [] [] [] []), (.mk (m.site + 1 + 1) 9 (1) (0) (0) e1 E0 C0 [] [] [] []), (.mk (m.site + 1 + 1 + 1) 7 (1) (0) (0) E0 E0 C0 [] [] [] [])], rfl, ?_, ?_, by simp [nC_cons, nC_nil, S.op, S.body, S.els], t2, m.site + 1 + 1 + 1, by first | omega | (simp only; omega), by first | omega | (simp only; omega), by first | omega | (simp only; omega), by first | omega | (simp only; omega), rfl⟩, ?_, .refl _⟩
    · exact (((wf_one (cx := cxOf m) (hs := m.p.heads) (s := (.mk (m.site + 1) 6 (1) (0) (0) E0 E0 C0 [] [] [] [])) ⟨⟨_, rfl, ⟨by simp only [cxOf, S.n, S.m, S.v]; omega, by simp only [cxOf, S.n, S.m, S.v]; omega⟩, rfl, rfl, rfl, rfl, rfl, ⟨rfl, rfl⟩, fun _ => rfl, fun _ => rfl⟩, by simp only [S.site]; omega, by simp only [S.site]; omega⟩ rfl rfl)).append (wf_one (cx := cxOf m) (hs := m.p.heads) (s := (.mk (m.site + 1 + 1) 9 (1) (0) (0) e1 E0 C0 [] [] [] [])) ⟨⟨_, rfl, ⟨by simp only [cxOf, S.n, S.m, S.v]; omega, by simp only [cxOf, S.n, S.m, S.v]; omega⟩, rfl, rfl, e1w.le (by omega), rfl, rfl, ⟨rfl, rfl⟩, fun _ => rfl, fun _ => rfl⟩, by simp only [S.site]; omega, by simp only [S.site]; omega⟩ rfl rfl)).append (wf_one (cx := cxOf m) (hs := m.p.heads) (s := (.mk (m.site + 1 + 1 + 1) 7 (1) (0) (0) E0 E0 C0 [] [] [] [])) ⟨⟨_, rfl, ⟨by simp only [cxOf, S.n, S.m, S.v]; omega, by simp only [cxOf, S.n, S.m, S.v]; omega⟩, rfl, rfl, rfl, rfl, rfl, ⟨rfl, rfl⟩, fun _ => rfl, fun _ => rfl⟩, by simp only [S.site]; omega, by simp only [S.site]; omega⟩ rfl rfl)
    · simp only [sitesL_cons, sitesL_nil, S.site, S.body, S.els, List.append_nil, List.nil_append, List.cons_append]
      exact ((Inc.one (a := m.site) (b := m.site + 1) (by omega)).append (Inc.one (b := m.site + 1 + 1) (by omega))).append (Inc.one (b := m.site + 1 + 1 + 1) (by omega))
    · simp only [encS_eq, cellsS, cellsE, cellsC, S.site, S.op, S.n, S.m, S.v, S.x, S.y, S.c, S.args, S.ptrs, S.body, S.els, E0, C0, E.op, E.n, E.v, E.a, C.op, C.a, C.c, List.cons_append, List.nil_append, List.map_cons, List.map_nil]
      exact SubC.sub (by repeat constructor)
  simp (maxSteps := 9999999) (dsimp := false) (disch := omega) only [go_sem, H8, wrap64, cellsE, cellsC, dec_t, dec_f, hk0, hk1, hk2, hk3, hk4, hk5, Tryz.a186r3, Tryz.a186r5, Tryz.a186r7, Tryz.a186r9, Tryz.a186r11, Tryz.a186r14, Tryz.a186r16]
  refine target8 lo { m with at_ := m.at_ + 1, site := m.site + 1 } ok.hv (by first | omega | (simp only; omega)) (by first | omega | (simp only; omega)) (by first | omega | (simp only; omega)) _ _ ?_
  rintro _ _ ⟨v1, rfl, v1a, v1b, t2, t2a, t2b, rfl⟩
  try simp only at t2a t2b
  try simp only at v1a v1b
  simp (maxSteps := 9999999) (dsimp := false) (disch := omega) only [go_sem, H8, wrap64, cellsE, cellsC, dec_t, dec_f, Tryz.a186r17]
  refine expr8n lo 2 _ rfl { m with at_ := t2, site := m.site + 1 } (by omega) (by first | omega | (simp only; omega)) (by simp only [cE]; omega) (by first | omega | (simp only; omega)) (by first | omega | (simp only; omega)) (by first | omega | (simp only; omega)) _ _ ?_
  rintro _ _ ⟨e3, rfl, e3w, t4, t4a, t4b, rfl⟩
  try simp only at t4a t4b
  simp only [cE] at t4b
  simp (maxSteps := 9999999) (dsimp := false) (disch := omega) only [go_sem, H8, wrap64, cellsE, cellsC, dec_t, dec_f, Tryz.a186r18, lo.k0, lo.k1]
  refine ⟨_, { m with at_ := t4, site := m.site + 1 }, ⟨[(.mk (m.site + 1) 1 (v1) (0) (0) e3 E0 C0 [] [] [] [])], rfl, ?_, ?_, by simp [nC_cons, nC_nil, S.op, S.body, S.els], t4, m.site + 1, by first | omega | (simp only; omega), by first | omega | (simp only; omega), by first | omega | (simp only; omega), by first | omega | (simp only; omega), rfl⟩, ?_, .refl _⟩
  · exact (wf_one (cx := cxOf m) (hs := m.p.heads) (s := (.mk (m.site + 1) 1 (v1) (0) (0) e3 E0 C0 [] [] [] [])) ⟨⟨_, rfl, ⟨by simp only [cxOf, S.n, S.m, S.v]; omega, by simp only [cxOf, S.n, S.m, S.v]; omega⟩, rfl, rfl, e3w, rfl, rfl, ⟨rfl, rfl⟩, fun _ => rfl, fun _ => rfl⟩, by simp only [S.site]; omega, by simp only [S.site]; omega⟩ rfl rfl)
  · simp only [sitesL_cons, sitesL_nil, S.site, S.body, S.els, List.append_nil, List.nil_append, List.cons_append]
    exact .one (by omega)
  · simp only [encS_eq, cellsS, cellsE, cellsC, S.site, S.op, S.n, S.m, S.v, S.x, S.y, S.c, S.args, S.ptrs, S.body, S.els, E0, C0, E.op, E.n, E.v, E.a, C.op, C.a, C.c, List.cons_append, List.nil_append, List.map_cons, List.map_nil]
    exact SubC.sub (by repeat constructor)

theorem risky8 {a0 a1 : AObj} (lo : Low a0 a1) (m : M) (ok : Ok m) : Spec 187 [] (H8 a0 a1) m (StmtPost 60 1 m) := by
  have h0 := ok.h0; have h1 := ok.h1; have s0 := ok.s0; have s1 := ok.s1; have hv := ok.hv; have hv1 := ok.hv1; have ha0 := ok.ha0; have ha := ok.ha
  have refs := ok.refs; have glob := ok.glob; have cls := ok.cls; have que := ok.que; have snk := ok.snk; have locks := ok.locks; have parts := ok.parts
  refine Spec.intro 8 (H8_len a0 a1) (by omega) (H8_kill lo) rfl (fun r m' ⟨v, h, _⟩ => by rw [h]; simp (dsimp := false) only [go_sem]) ?_
  refine Tryz.w187 0 ?_
  simp (maxSteps := 9999999) (dsimp := false) (disch := omega) only [go_sem, wrap64, Tryz.c187, Tryz.a187r0, Tryz.a187r1]
  simp only [H8, List.cons_append, List.nil_append]
  refine site8 lo m (by omega) (by omega) _ _ ?_
  rintro _ _ ⟨rfl, rfl⟩
  simp (maxSteps := 9999999) (dsimp := false) (disch := omega) only [go_sem, H8, wrap64, Tryz.a187r2]
  refine next8 lo { m with site := m.site + 1 } _ (by omega) (by first | omega | (simp only; omega)) (by first | omega | (simp only; omega)) _ _ ?_
  rintro _ _ ⟨k, rfl, ka, kb, rfl⟩
  by_cases hk0 : k = 0
  · simp (maxSteps := 9999999) (dsimp := false) (disch := omega) only [go_sem, H8, wrap64, cellsE, cellsC, dec_t, dec_f, hk0, Tryz.a187r3, Tryz.a187r5]
    refine target8 lo { m with at_ := m.at_ + 1, site := m.site + 1 } ok.hv (by first | omega | (simp only; omega)) (by first | omega | (simp only; omega)) (by first | omega | (simp only; omega)) _ _ ?_
    rintro _ _ ⟨v1, rfl, v1a, v1b, t2, t2a, t2b, rfl⟩
    try simp only at t2a t2b
    try simp only at v1a v1b
    simp (maxSteps := 9999999) (dsimp := false) (disch := omega) only [go_sem, H8, wrap64, cellsE, cellsC, dec_t, dec_f]
    refine next8 lo { m with at_ := t2, site := m.site + 1 } _ (by omega) (by first | omega | (simp only; omega)) (by first | omega | (simp only; omega)) _ _ ?_
    rintro _ _ ⟨u3, rfl, u3a, u3b, rfl⟩
    simp (maxSteps := 9999999) (dsimp := false) (disch := omega) only [go_sem, H8, wrap64, cellsE, cellsC, dec_t, dec_f]
    refine expr8n lo 1 _ rfl { m with at_ := t2 + 1, site := m.site + 1 } (by omega) (by first | omega | (simp only; omega)) (by simp only [cE]; omega) (by first | omega | (simp only; omega)) (by first | omega | (simp only; omega)) (by first | omega | (simp only; omega)) _ _ ?_
    rintro _ _ ⟨e4, rfl, e4w, t5, t5a, t5b, rfl⟩
    try simp only at t5a t5b
    simp only [cE] at t5b
    simp (maxSteps := 9999999) (dsimp := false) (disch := omega) only [go_sem, H8, wrap64, cellsE, cellsC, dec_t, dec_f, lo.k0, lo.k1]
    refine ⟨_, { m with at_ := t5, site := m.site + 1 }, ⟨(.mk (m.site + 1) 2 (v1) (u3) (0) e4 E0 C0 [] [] [] []), rfl, ⟨⟨_, rfl, ⟨by simp only [cxOf, S.n, S.m, S.v]; omega, by simp only [cxOf, S.n, S.m, S.v]; omega⟩, ⟨by simp only [cxOf, S.n, S.m, S.v]; omega, by simp only [cxOf, S.n, S.m, S.v]; omega⟩, rfl, e4w.le (by omega), rfl, rfl, ⟨rfl, rfl⟩, fun _ => rfl, fun _ => rfl⟩, by simp only [S.site]; omega, by simp only [S.site]; omega⟩, rfl, rfl, rfl, by first | omega | (simp only; omega), t5, m.site + 1, by first | omega | (simp only; omega), by first | omega | (simp only; omega), by first | omega | (simp only; omega), by first | omega | (simp only; omega), rfl⟩, ?_, .refl _⟩
    simp only [encS_eq, cellsS, cellsE, cellsC, S.site, S.op, S.n, S.m, S.v, S.x, S.y, S.c, S.args, S.ptrs, S.body, S.els, E0, C0, E.op, E.n, E.v, E.a, C.op, C.a, C.c, List.cons_append, List.nil_append, List.map_cons, List.map_nil]
    exact SubC.sub (by repeat constructor)
  by_cases hk1 : k = 1
  · simp (maxSteps := 9999999) (dsimp := false) (disch := omega) only [go_sem, H8, wrap64, cellsE, cellsC, dec_t, dec_f, hk0, hk1, Tryz.a187r3, Tryz.a187r4, Tryz.a187r5]
    refine target8 lo { m with at_ := m.at_ + 1, site := m.site + 1 } ok.hv (by first | omega | (simp only; omega)) (by first | omega | (simp only; omega)) (by first | omega | (simp only; omega)) _ _ ?_
    rintro _ _ ⟨v1, rfl, v1a, v1b, t2, t2a, t2b, rfl⟩
    try simp only at t2a t2b
    try simp only at v1a v1b
    simp (maxSteps := 9999999) (dsimp := false) (disch := omega) only [go_sem, H8, wrap64, cellsE, cellsC, dec_t, dec_f]
    refine next8 lo { m with at_ := t2, site := m.site + 1 } _ (by omega) (by first | omega | (simp only; omega)) (by first | omega | (simp only; omega)) _ _ ?_
    rintro _ _ ⟨u3, rfl, u3a, u3b, rfl⟩
    simp (maxSteps := 9999999) (dsimp := false) (disch := omega) only [go_sem, H8, wrap64, cellsE, cellsC, dec_t, dec_f]
    refine expr8n lo 1 _ rfl { m with at_ := t2 + 1, site := m.site + 1 } (by omega) (by first | omega | (simp only; omega)) (by simp only [cE]; omega) (by first | omega | (simp only; omega)) (by first | omega | (simp only; omega)) (by first | omega | (simp only; omega)) _ _ ?_
    rintro _ _ ⟨e4, rfl, e4w, t5, t5a, t5b, rfl⟩
    try simp only at t5a t5b
    simp only [cE] at t5b
    simp (maxSteps := 9999999) (dsimp := false) (disch := omega) only [go_sem, H8, wrap64, cellsE, cellsC, dec_t, dec_f, lo.k0, lo.k1]
    refine ⟨_, { m with at_ := t5, site := m.site + 1 }, ⟨(.mk (m.site + 1) 2 (v1) (u3) (0) e4 E0 C0 [] [] [] []), rfl, ⟨⟨_, rfl, ⟨by simp only [cxOf, S.n, S.m, S.v]; omega, by simp only [cxOf, S.n, S.m, S.v]; omega⟩, ⟨by simp only [cxOf, S.n, S.m, S.v]; omega, by simp only [cxOf, S.n, S.m, S.v]; omega⟩, rfl, e4w.le (by omega), rfl, rfl, ⟨rfl, rfl⟩, fun _ => rfl, fun _ => rfl⟩, by simp only [S.site]; omega, by simp only [S.site]; omega⟩, rfl, rfl, rfl, by first | omega | (simp only; omega), t5, m.site + 1, by first | omega | (simp only; omega), by first | omega | (simp only; omega), by first | omega | (simp only; omega), by first | omega | (simp only; omega), rfl⟩, ?_, .refl _⟩
    simp only [encS_eq, cellsS, cellsE, cellsC, S.site, S.op, S.n, S.m, S.v, S.x, S.y, S.c, S.args, S.ptrs, S.body, S.els, E0, C0, E.op, E.n, E.v, E.a, C.op, C.a, C.c, List.cons_append, List.nil_append, List.map_cons, List.map_nil]
    exact SubC.sub (by repeat constructor)
  by_cases hk2 : k = 2
  · simp (maxSteps := 9999999) (dsimp := false) (disch := omega) only [go_sem, H8, wrap64, cellsE, cellsC, dec_t, dec_f, hk0, hk1, hk2, Tryz.a187r3, Tryz.a187r4, Tryz.a187r6, Tryz.a187r7]
    refine next8 lo { m with at_ := m.at_ + 1, site := m.site + 1 } _ (by omega) (by first | omega | (simp only; omega)) (by first | omega | (simp only; omega)) _ _ ?_
    rintro _ _ ⟨u1, rfl, u1a, u1b, rfl⟩
    simp (maxSteps := 9999999) (dsimp := false) (disch := omega) only [go_sem, H8, wrap64, cellsE, cellsC, dec_t, dec_f]
    refine expr8n lo 1 _ rfl { m with at_ := m.at_ + 1 + 1, site := m.site + 1 } (by omega) (by first | omega | (simp only; omega)) (by simp only [cE]; omega) (by first | omega | (simp only; omega)) (by first | omega | (simp only; omega)) (by first | omega | (simp only; omega)) _ _ ?_
    rintro _ _ ⟨e2, rfl, e2w, t3, t3a, t3b, rfl⟩
    try simp only at t3a t3b
    simp only [cE] at t3b
    simp (maxSteps := 9999999) (dsimp := false) (disch := omega) only [go_sem, H8, wrap64, cellsE, cellsC, dec_t, dec_f]
    refine expr8n lo 1 _ rfl { m with at_ := t3, site := m.site + 1 } (by omega) (by first | omega | (simp only; omega)) (by simp only [cE]; omega) (by first | omega | (simp only; omega)) (by first | omega | (simp only; omega)) (by first | omega | (simp only; omega)) _ _ ?_
    rintro _ _ ⟨e4, rfl, e4w, t5, t5a, t5b, rfl⟩
    try simp only at t5a t5b
    simp only [cE] at t5b
    simp (maxSteps := 9999999) (dsimp := false) (disch := omega) only [go_sem, H8, wrap64, cellsE, cellsC, dec_t, dec_f, lo.k0, lo.k1]
    refine ⟨_, { m with at_ := t5, site := m.site + 1 }, ⟨(.mk (m.site + 1) 3 (0) (u1) (0) e2 e4 C0 [] [] [] []), rfl, ⟨⟨_, rfl, rfl, ⟨by simp only [cxOf, S.n, S.m, S.v]; omega, by simp only [cxOf, S.n, S.m, S.v]; omega⟩, rfl, e2w.le (by omega), e4w.le (by omega), rfl, ⟨rfl, rfl⟩, fun _ => rfl, fun _ => rfl⟩, by simp only [S.site]; omega, by simp only [S.site]; omega⟩, rfl, rfl, rfl, by first | omega | (simp only; omega), t5, m.site + 1, by first | omega | (simp only; omega), by first | omega | (simp only; omega), by first | omega | (simp only; omega), by first | omega | (simp only; omega), rfl⟩, ?_, .refl _⟩
    simp only [encS_eq, cellsS, cellsE, cellsC, S.site, S.op, S.n, S.m, S.v, S.x, S.y, S.c, S.args, S.ptrs, S.body, S.els, E0, C0, E.op, E.n, E.v, E.a, C.op, C.a, C.c, List.cons_append, List.nil_append, List.map_cons, List.map_nil]
    exact SubC.sub (by repeat constructor)
  by_cases hk3 : k = 3
  · simp (maxSteps := 9999999) (dsimp := false) (disch := omega) only [go_sem, H8, wrap64, cellsE, cellsC, dec_t, dec_f, hk0, hk1, hk2, hk3, Tryz.a187r3, Tryz.a187r4, Tryz.a187r6, Tryz.a187r8, Tryz.a187r9]
    refine next8 lo { m with at_ := m.at_ + 1, site := m.site + 1 } _ (by omega) (by first | omega | (simp only; omega)) (by first | omega | (simp only; omega)) _ _ ?_
    rintro _ _ ⟨u1, rfl, u1a, u1b, rfl⟩
    simp (maxSteps := 9999999) (dsimp := false) (disch := omega) only [go_sem, H8, wrap64, cellsE, cellsC, dec_t, dec_f]
    refine expr8n lo 1 _ rfl { m with at_ := m.at_ + 1 + 1, site := m.site + 1 } (by omega) (by first | omega | (simp only; omega)) (by simp only [cE]; omega) (by first | omega | (simp only; omega)) (by first | omega | (simp only; omega)) (by first | omega | (simp only; omega)) _ _ ?_
    rintro _ _ ⟨e2, rfl, e2w, t3, t3a, t3b, rfl⟩
    try simp only at t3a t3b
    simp only [cE] at t3b
    simp (maxSteps := 9999999) (dsimp := false) (disch := omega) only [go_sem, H8, wrap64, cellsE, cellsC, dec_t, dec_f, lo.k0, lo.k1]
    refine ⟨_, { m with at_ := t3, site := m.site + 1 }, ⟨(.mk (m.site + 1) 5 (0) (u1) (0) e2 E0 C0 [] [] [] []), rfl, ⟨⟨_, rfl, rfl, ⟨by simp only [cxOf, S.n, S.m, S.v]; omega, by simp only [cxOf, S.n, S.m, S.v]; omega⟩, rfl, e2w.le (by omega), rfl, rfl, ⟨rfl, rfl⟩, fun _ => rfl, fun _ => rfl⟩, by simp only [S.site]; omega, by simp only [S.site]; omega⟩, rfl, rfl, rfl, by first | omega | (simp only; omega), t3, m.site + 1, by first | omega | (simp only; omega), by first | omega | (simp only; omega), by first | omega | (simp only; omega), by first | omega | (simp only; omega), rfl⟩, ?_, .refl _⟩
    simp only [encS_eq, cellsS, cellsE, cellsC, S.site, S.op, S.n, S.m, S.v, S.x, S.y, S.c, S.args, S.ptrs, S.body, S.els, E0, C0, E.op, E.n, E.v, E.a, C.op, C.a, C.c, List.cons_append, List.nil_append, List.map_cons, List.map_nil]
    exact SubC.sub (by repeat constructor)
  by_cases hk4 : k = 4
  · simp (maxSteps := 9999999) (dsimp := false) (disch := omega) only [go_sem, H8, wrap64, cellsE, cellsC, dec_t, dec_f, hk0, hk1, hk2, hk3, hk4, Tryz.a187r3, Tryz.a187r4, Tryz.a187r6, Tryz.a187r8, Tryz.a187r10, Tryz.a187r11]
    refine next8 lo { m with at_ := m.at_ + 1, site := m.site + 1 } _ (by omega) (by first | omega | (simp only; omega)) (by first | omega | (simp only; omega)) _ _ ?_
    rintro _ _ ⟨u1, rfl, u1a, u1b, rfl⟩
    simp (maxSteps := 9999999) (dsimp := false) (disch := omega) only [go_sem, H8, wrap64, cellsE, cellsC, dec_t, dec_f, lo.k0, lo.k1]
    refine ⟨_, { m with at_ := m.at_ + 1 + 1, site := m.site + 1 }, ⟨(.mk (m.site + 1) 6 (u1) (0) (0) E0 E0 C0 [] [] [] []), rfl, ⟨⟨_, rfl, ⟨by simp only [cxOf, S.n, S.m, S.v]; omega, by simp only [cxOf, S.n, S.m, S.v]; omega⟩, rfl, rfl, rfl, rfl, rfl, ⟨rfl, rfl⟩, fun _ => rfl, fun _ => rfl⟩, by simp only [S.site]; omega, by simp only [S.site]; omega⟩, rfl, rfl, rfl, by first | omega | (simp only; omega), m.at_ + 1 + 1, m.site + 1, by first | omega | (simp only; omega), by first | omega | (simp only; omega), by first | omega | (simp only; omega), by first | omega | (simp only; omega), rfl⟩, ?_, .refl _⟩
    simp only [encS_eq, cellsS, cellsE, cellsC, S.site, S.op, S.n, S.m, S.v, S.x, S.y, S.c, S.args, S.ptrs, S.body, S.els, E0, C0, E.op, E.n, E.v, E.a, C.op, C.a, C.c, List.cons_append, List.nil_append, List.map_cons, List.map_nil]
    exact SubC.sub (by repeat constructor)
  by_cases hk5 : k = 5
  · simp (maxSteps := 9999999) (dsimp := false) (disch := omega) only [go_sem, H8, wrap64, cellsE, cellsC, dec_t, dec_f, hk0, hk1, hk2, hk3, hk4, hk5, Tryz.a187r3, Tryz.a187r4, Tryz.a187r6, Tryz.a187r8, Tryz.a187r10, Tryz.a187r12, Tryz.a187r13]
    refine next8 lo { m with at_ := m.at_ + 1, site := m.site + 1 } _ (by omega) (by first | omega | (simp only; omega)) (by first | omega | (simp only; omega)) _ _ ?_
    rintro _ _ ⟨u1, rfl, u1a, u1b, rfl⟩
    simp (maxSteps := 9999999) (dsimp := false) (disch := omega) only [go_sem, H8, wrap64, cellsE, cellsC, dec_t, dec_f, lo.k0, lo.k1]
    refine ⟨_, { m with at_ := m.at_ + 1 + 1, site := m.site + 1 }, ⟨(.mk (m.site + 1) 7 (u1) (0) (0) E0 E0 C0 [] [] [] []), rfl, ⟨⟨_, rfl, ⟨by simp only [cxOf, S.n, S.m, S.v]; omega, by simp only [cxOf, S.n, S.m, S.v]; omega⟩, rfl, rfl, rfl, rfl, rfl, ⟨rfl, rfl⟩, fun _ => rfl, fun _ => rfl⟩, by simp only [S.site]; omega, by simp only [S.site]; omega⟩, rfl, rfl, rfl, by first | omega | (simp only; omega), m.at_ + 1 + 1, m.site + 1, by first | omega | (simp only; omega), by first | omega | (simp only; omega), by first | omega | (simp only; omega), by first | omega | (simp only; omega), rfl⟩, ?_, .refl _⟩
    simp only [encS_eq, cellsS, cellsE, cellsC, S.site, S.op, S.n, S.m, S.v, S.x, S.y, S.c, S.args, S.ptrs, S.body, S.els, E0, C0, E.op, E.n, E.v, E.a, C.op, C.a, C.c, List.cons_append, List.nil_append, List.map_cons, List.map_nil]
    exact SubC.sub (by repeat constructor)
  by_cases hk6 : k = 6
  · simp (maxSteps := 9999999) (dsimp := false) (disch := omega) only [go_sem, H8, wrap64, cellsE, cellsC, dec_t, dec_f, hk0, hk1, hk2, hk3, hk4, hk5, hk6, Tryz.a187r3, Tryz.a187r4, Tryz.a187r6, Tryz.a187r8, Tryz.a187r10, Tryz.a187r12, Tryz.a187r14, Tryz.a187r15]
    refine next8 lo { m with at_ := m.at_ + 1, site := m.site + 1 } _ (by omega) (by first | omega | (simp only; omega)) (by first | omega | (simp only; omega)) _ _ ?_
    rintro _ _ ⟨u1, rfl, u1a, u1b, rfl⟩
    simp (maxSteps := 9999999) (dsimp := false) (disch := omega) only [go_sem, H8, wrap64, cellsE, cellsC, dec_t, dec_f]
    refine next8 lo { m with at_ := m.at_ + 1 + 1, site := m.site + 1 } _ (by omega) (by first | omega | (simp only; omega)) (by first | omega | (simp only; omega)) _ _ ?_
    rintro _ _ ⟨u2, rfl, u2a, u2b, rfl⟩
    simp (maxSteps := 9999999) (dsimp := false) (disch := omega) only [go_sem, H8, wrap64, cellsE, cellsC, dec_t, dec_f, lo.k0, lo.k1]
    refine ⟨_, { m with at_ := m.at_ + 1 + 1 + 1, site := m.site + 1 }, ⟨(.mk (m.site + 1) 8 (u1) (u2) (0) E0 E0 C0 [] [] [] []), rfl, ⟨⟨_, rfl, ⟨by simp only [cxOf, S.n, S.m, S.v]; omega, by simp only [cxOf, S.n, S.m, S.v]; omega⟩, ⟨by simp only [cxOf, S.n, S.m, S.v]; omega, by simp only [cxOf, S.n, S.m, S.v]; omega⟩, rfl, rfl, rfl, rfl, ⟨rfl, rfl⟩, fun _ => rfl, fun _ => rfl⟩, by simp only [S.site]; omega, by simp only [S.site]; omega⟩, rfl, rfl, rfl, by first | omega | (simp only; omega), m.at_ + 1 + 1 + 1, m.site + 1, by first | omega | (simp only; omega), by first | omega | (simp only; omega), by first | omega | (simp only; omega), by first | omega | (simp only; omega), rfl⟩, ?_, .refl _⟩
    simp only [encS_eq, cellsS, cellsE, cellsC, S.site, S.op, S.n, S.m, S.v, S.x, S.y, S.c, S.args, S.ptrs, S.body, S.els, E0, C0, E.op, E.n, E.v, E.a, C.op, C.a, C.c, List.cons_append, List.nil_append, List.map_cons, List.map_nil]
    exact SubC.sub (by repeat constructor)
  by_cases hk7 : k = 7
  · simp (maxSteps := 9999999) (dsimp := false) (disch := omega) only [go_sem, H8, wrap64, cellsE, cellsC, dec_t, dec_f, hk0, hk1, hk2, hk3, hk4, hk5, hk6, hk7, Tryz.a187r3, Tryz.a187r4, Tryz.a187r6, Tryz.a187r8, Tryz.a187r10, Tryz.a187r12, Tryz.a187r14, Tryz.a187r16, Tryz.a187r17]
    refine target8 lo { m with at_ := m.at_ + 1, site := m.site + 1 } ok.hv (by first | omega | (simp only; omega)) (by first | omega | (simp only; omega)) (by first | omega | (simp only; omega)) _ _ ?_
    rintro _ _ ⟨v1, rfl, v1a, v1b, t2, t2a, t2b, rfl⟩
    try simp only at t2a t2b
    try simp only at v1a v1b
    simp (maxSteps := 9999999) (dsimp := false) (disch := omega) only [go_sem, H8, wrap64, cellsE, cellsC, dec_t, dec_f]
    refine next8 lo { m with at_ := t2, site := m.site + 1 } _ (by omega) (by first | omega | (simp only; omega)) (by first | omega | (simp only; omega)) _ _ ?_
    rintro _ _ ⟨u3, rfl, u3a, u3b, rfl⟩
    simp (maxSteps := 9999999) (dsimp := false) (disch := omega) only [go_sem, H8, wrap64, cellsE, cellsC, dec_t, dec_f, lo.k0, lo.k1]
    refine ⟨_, { m with at_ := t2 + 1, site := m.site + 1 }, ⟨(.mk (m.site + 1) 10 (v1) (u3) (0) E0 E0 C0 [] [] [] []), rfl, ⟨⟨_, rfl, ⟨by simp only [cxOf, S.n, S.m, S.v]; omega, by simp only [cxOf, S.n, S.m, S.v]; omega⟩, ⟨by simp only [cxOf, S.n, S.m, S.v]; omega, by simp only [cxOf, S.n, S.m, S.v]; omega⟩, rfl, rfl, rfl, rfl, ⟨rfl, rfl⟩, fun _ => rfl, fun _ => rfl⟩, by simp only [S.site]; omega, by simp only [S.site]; omega⟩, rfl, rfl, rfl, by first | omega | (simp only; omega), t2 + 1, m.site + 1, by first | omega | (simp only; omega), by first | omega | (simp only; omega), by first | omega | (simp only; omega), by first | omega | (simp only; omega), rfl⟩, ?_, .refl _⟩
    simp only [encS_eq, cellsS, cellsE, cellsC, S.site, S.op, S.n, S.m, S.v, S.x, S.y, S.c, S.args, S.ptrs, S.body, S.els, E0, C0, E.op, E.n, E.v, E.a, C.op, C.a, C.c, List.cons_append, List.nil_append, List.map_cons, List.map_nil]
    exact SubC.sub (by repeat constructor)
  by_cases hk8 : k = 8
  · simp (maxSteps := 9999999) (dsimp := false) (disch := omega) only [go_sem, H8, wrap64, cellsE, cellsC, dec_t, dec_f, hk0, hk1, hk2, hk3, hk4, hk5, hk6, hk7, hk8, Tryz.a187r3, Tryz.a187r4, Tryz.a187r6, Tryz.a187r8, Tryz.a187r10, Tryz.a187r12, Tryz.a187r14, Tryz.a187r16, Tryz.a187r18, Tryz.a187r19]
    refine next8 lo { m with at_ := m.at_ + 1, site := m.site + 1 } _ (by omega) (by first | omega | (simp only; omega)) (by first | omega | (simp only; omega)) _ _ ?_
    rintro _ _ ⟨u1, rfl, u1a, u1b, rfl⟩
    simp (maxSteps := 9999999) (dsimp := false) (disch := omega) only [go_sem, H8, wrap64, cellsE, cellsC, dec_t, dec_f]
    refine next8 lo { m with at_ := m.at_ + 1 + 1, site := m.site + 1 } _ (by omega) (by first | omega | (simp only; omega)) (by first | omega | (simp only; omega)) _ _ ?_
    rintro _ _ ⟨u2, rfl, u2a, u2b, rfl⟩
    simp (maxSteps := 9999999) (dsimp := false) (disch := omega) only [go_sem, H8, wrap64, cellsE, cellsC, dec_t, dec_f, lo.k0, lo.k1]
    refine ⟨_, { m with at_ := m.at_ + 1 + 1 + 1, site := m.site + 1 }, ⟨(.mk (m.site + 1) (16 + u1) (0) (u2) (0) E0 E0 C0 [] [] [] []), rfl, (by rcases (show u1 = 0 ∨ u1 = 1 by omega) with h | h <;> subst h <;> exact ⟨⟨_, rfl, rfl, ⟨by simp only [cxOf, S.n, S.m, S.v]; omega, by simp only [cxOf, S.n, S.m, S.v]; omega⟩, rfl, rfl, rfl, rfl, ⟨rfl, rfl⟩, fun _ => rfl, fun _ => rfl⟩, by simp only [S.site]; omega, by simp only [S.site]; omega⟩), rfl, rfl, rfl, by first | omega | (simp only; omega), m.at_ + 1 + 1 + 1, m.site + 1, by first | omega | (simp only; omega), by first | omega | (simp only; omega), by first | omega | (simp only; omega), by first | omega | (simp only; omega), rfl⟩, ?_, .refl _⟩
    simp only [encS_eq, cellsS, cellsE, cellsC, S.site, S.op, S.n, S.m, S.v, S.x, S.y, S.c, S.args, S.ptrs, S.body, S.els, E0, C0, E.op, E.n, E.v, E.a, C.op, C.a, C.c, List.cons_append, List.nil_append, List.map_cons, List.map_nil]
    exact SubC.sub (by repeat constructor)
  by_cases hk9 : k = 9
  · simp (maxSteps := 9999999) (dsimp := false) (disch := omega) only [go_sem, H8, wrap64, cellsE, cellsC, dec_t, dec_f, hk0, hk1, hk2, hk3, hk4, hk5, hk6, hk7, hk8, hk9, Tryz.a187r3, Tryz.a187r4, Tryz.a187r6, Tryz.a187r8, Tryz.a187r10, Tryz.a187r12, Tryz.a187r14, Tryz.a187r16, Tryz.a187r18, Tryz.a187r20, Tryz.a187r21]
    refine expr8n lo 1 _ rfl { m with at_ := m.at_ + 1, site := m.site + 1 } (by omega) (by first | omega | (simp only; omega)) (by simp only [cE]; omega) (by first | omega | (simp only; omega)) (by first | omega | (simp only; omega)) (by first | omega | (simp only; omega)) _ _ ?_
    rintro _ _ ⟨e1, rfl, e1w, t2, t2a, t2b, rfl⟩
    try simp only at t2a t2b
    simp only [cE] at t2b
    simp (maxSteps := 9999999) (dsimp := false) (disch := omega) only [go_sem, H8, wrap64, cellsE, cellsC, dec_t, dec_f, lo.k0, lo.k1]
    refine ⟨_, { m with at_ := t2, site := m.site + 1 }, ⟨(.mk (m.site + 1) 18 (0) (0) (0) e1 E0 C0 [] [] [] []), rfl, ⟨⟨_, rfl, rfl, ⟨by simp only [cxOf, S.n, S.m, S.v]; omega, by simp only [cxOf, S.n, S.m, S.v]; omega⟩, rfl, e1w.le (by omega), rfl, rfl, ⟨rfl, rfl⟩, fun _ => rfl, fun _ => rfl⟩, by simp only [S.site]; omega, by simp only [S.site]; omega⟩, rfl, rfl, rfl, by first | omega | (simp only; omega), t2, m.site + 1, by first | omega | (simp only; omega), by first | omega | (simp only; omega), by first | omega | (simp only; omega), by first | omega | (simp only; omega), rfl⟩, ?_, .refl _⟩
    simp only [encS_eq, cellsS, cellsE, cellsC, S.site, S.op, S.n, S.m, S.v, S.x, S.y, S.c, S.args, S.ptrs, S.body, S.els, E0, C0, E.op, E.n, E.v, E.a, C.op, C.a, C.c, List.cons_append, List.nil_append, List.map_cons, List.map_nil]
    exact SubC.sub (by repeat constructor)
  by_cases hk10 : k = 10
  · simp (maxSteps := 9999999) (dsimp := false) (disch := omega) only [go_sem, H8, wrap64, cellsE, cellsC, dec_t, dec_f, hk0, hk1, hk2, hk3, hk4, hk5, hk6, hk7, hk8, hk9, hk10, Tryz.a187r3, Tryz.a187r4, Tryz.a187r6, Tryz.a187r8, Tryz.a187r10, Tryz.a187r12, Tryz.a187r14, Tryz.a187r16, Tryz.a187r18, Tryz.a187r20, Tryz.a187r22, Tryz.a187r23]
    refine target8 lo { m with at_ := m.at_ + 1, site := m.site + 1 } ok.hv (by first | omega | (simp only; omega)) (by first | omega | (simp only; omega)) (by first | omega | (simp only; omega)) _ _ ?_
    rintro _ _ ⟨v1, rfl, v1a, v1b, t2, t2a, t2b, rfl⟩
    try simp only at t2a t2b
    try simp only at v1a v1b
    simp (maxSteps := 9999999) (dsimp := false) (disch := omega) only [go_sem, H8, wrap64, cellsE, cellsC, dec_t, dec_f, lo.k0, lo.k1]
    refine ⟨_, { m with at_ := t2, site := m.site + 1 }, ⟨(.mk (m.site + 1) 19 (v1) (0) (0) E0 E0 C0 [] [] [] []), rfl, ⟨⟨_, rfl, ⟨by simp only [cxOf, S.n, S.m, S.v]; omega, by simp only [cxOf, S.n, S.m, S.v]; omega⟩, ⟨by simp only [cxOf, S.n, S.m, S.v]; omega, by simp only [cxOf, S.n, S.m, S.v]; omega⟩, rfl, rfl, rfl, rfl, ⟨rfl, rfl⟩, fun _ => rfl, fun _ => rfl⟩, by simp only [S.site]; omega, by simp only [S.site]; omega⟩, rfl, rfl, rfl, by first | omega | (simp only; omega), t2, m.site + 1, by first | omega | (simp only; omega), by first | omega | (simp only; omega), by first | omega | (simp only; omega), by first | omega | (simp only; omega), rfl⟩, ?_, .refl _⟩
    simp only [encS_eq, cellsS, cellsE, cellsC, S.site, S.op, S.n, S.m, S.v, S.x, S.y, S.c, S.args, S.ptrs, S.body, S.els, E0, C0, E.op, E.n, E.v, E.a, C.op, C.a, C.c, List.cons_append, List.nil_append, List.map_cons, List.map_nil]
    exact SubC.sub (by repeat constructor)
  by_cases hk11 : k = 11
  · simp (maxSteps := 9999999) (dsimp := false) (disch := omega) only [go_sem, H8, wrap64, cellsE, cellsC, dec_t, dec_f, hk0, hk1, hk2, hk3, hk4, hk5, hk6, hk7, hk8, hk9, hk10, hk11, Tryz.a187r3, Tryz.a187r4, Tryz.a187r6, Tryz.a187r8, Tryz.a187r10, Tryz.a187r12, Tryz.a187r14, Tryz.a187r16, Tryz.a187r18, Tryz.a187r20, Tryz.a187r22, Tryz.a187r24, Tryz.a187r25]
    refine next8 lo { m with at_ := m.at_ + 1, site := m.site + 1 } _ (by omega) (by first | omega | (simp only; omega)) (by first | omega | (simp only; omega)) _ _ ?_
    rintro _ _ ⟨u1, rfl, u1a, u1b, rfl⟩
    simp (maxSteps := 9999999) (dsimp := false) (disch := omega) only [go_sem, H8, wrap64, cellsE, cellsC, dec_t, dec_f]
    refine expr8n lo 1 _ rfl { m with at_ := m.at_ + 1 + 1, site := m.site + 1 } (by omega) (by first | omega | (simp only; omega)) (by simp only [cE]; omega) (by first | omega | (simp only; omega)) (by first | omega | (simp only; omega)) (by first | omega | (simp only; omega)) _ _ ?_
    rintro _ _ ⟨e2, rfl, e2w, t3, t3a, t3b, rfl⟩
    try simp only at t3a t3b
    simp only [cE] at t3b
    simp (maxSteps := 9999999) (dsimp := false) (disch := omega) only [go_sem, H8, wrap64, cellsE, cellsC, dec_t, dec_f, lo.k0, lo.k1]
    refine ⟨_, { m with at_ := t3, site := m.site + 1 }, ⟨(.mk (m.site + 1) 21 (0) (u1) (0) e2 E0 C0 [] [] [] []), rfl, ⟨⟨_, rfl, rfl, ⟨by simp only [cxOf, S.n, S.m, S.v]; omega, by simp only [cxOf, S.n, S.m, S.v]; omega⟩, rfl, e2w.le (by omega), rfl, rfl, ⟨rfl, rfl⟩, fun _ => rfl, fun _ => rfl⟩, by simp only [S.site]; omega, by simp only [S.site]; omega⟩, rfl, rfl, rfl, by first | omega | (simp only; omega), t3, m.site + 1, by first | omega | (simp only; omega), by first | omega | (simp only; omega), by first | omega | (simp only; omega), by first | omega | (simp only; omega), rfl⟩, ?_, .refl _⟩
    simp only [encS_eq, cellsS, cellsE, cellsC, S.site, S.op, S.n, S.m, S.v, S.x, S.y, S.c, S.args, S.ptrs, S.body, S.els, E0, C0, E.op, E.n, E.v, E.a, C.op, C.a, C.c, List.cons_append, List.nil_append, List.map_cons, List.map_nil]
    exact SubC.sub (by repeat constructor)
  by_cases hk12 : k = 12
  · simp (maxSteps := 9999999) (dsimp := false) (disch := omega) only [go_sem, H8, wrap64, cellsE, cellsC, dec_t, dec_f, hk0, hk1, hk2, hk3, hk4, hk5, hk6, hk7, hk8, hk9, hk10, hk11, hk12, Tryz.a187r3, Tryz.a187r4, Tryz.a187r6, Tryz.a187r8, Tryz.a187r10, Tryz.a187r12, Tryz.a187r14, Tryz.a187r16, Tryz.a187r18, Tryz.a187r20, Tryz.a187r22, Tryz.a187r24, Tryz.a187r26, Tryz.a187r27]
    refine next8 lo { m with at_ := m.at_ + 1, site := m.site + 1 } _ (by omega) (by first | omega | (simp only; omega)) (by first | omega | (simp only; omega)) _ _ ?_
    rintro _ _ ⟨u1, rfl, u1a, u1b, rfl⟩
    simp (maxSteps := 9999999) (dsimp := false) (disch := omega) only [go_sem, H8, wrap64, cellsE, cellsC, dec_t, dec_f, lo.k0, lo.k1]
    refine ⟨_, { m with at_ := m.at_ + 1 + 1, site := m.site + 1 }, ⟨(.mk (m.site + 1) 22 (0) (u1) (0) E0 E0 C0 [] [] [] []), rfl, ⟨⟨_, rfl, rfl, ⟨by simp only [cxOf, S.n, S.m, S.v]; omega, by simp only [cxOf, S.n, S.m, S.v]; omega⟩, rfl, rfl, rfl, rfl, ⟨rfl, rfl⟩, fun _ => rfl, fun _ => rfl⟩, by simp only [S.site]; omega, by simp only [S.site]; omega⟩, rfl, rfl, rfl, by first | omega | (simp only; omega), m.at_ + 1 + 1, m.site + 1, by first | omega | (simp only; omega), by first | omega | (simp only; omega), by first | omega | (simp only; omega), by first | omega | (simp only; omega), rfl⟩, ?_, .refl _⟩
    simp only [encS_eq, cellsS, cellsE, cellsC, S.site, S.op, S.n, S.m, S.v, S.x, S.y, S.c, S.args, S.ptrs, S.body, S.els, E0, C0, E.op, E.n, E.v, E.a, C.op, C.a, C.c, List.cons_append, List.nil_append, List.map_cons, List.map_nil]
    exact SubC.sub (by repeat constructor)
  by_cases hk13 : k = 13
  · simp (maxSteps := 9999999) (dsimp := false) (disch := omega) only [go_sem, H8, wrap64, cellsE, cellsC, dec_t, dec_f, hk0, hk1, hk2, hk3, hk4, hk5, hk6, hk7, hk8, hk9, hk10, hk11, hk12, hk13, Tryz.a187r3, Tryz.a187r4, Tryz.a187r6, Tryz.a187r8, Tryz.a187r10, Tryz.a187r12, Tryz.a187r14, Tryz.a187r16, Tryz.a187r18, Tryz.a187r20, Tryz.a187r22, Tryz.a187r24, Tryz.a187r26, Tryz.a187r28, Tryz.a187r29]
    refine cond8 lo 1 _ rfl { m with at_ := m.at_ + 1, site := m.site + 1 } (by omega) (by first | omega | (simp only; omega)) (by simp only [cC]; omega) (by first | omega | (simp only; omega)) (by first | omega | (simp only; omega)) (by first | omega | (simp only; omega)) _ _ ?_
    rintro _ _ ⟨c1, rfl, c1w, t2, t2a, t2b, rfl⟩
    try simp only at t2a t2b
    simp only [cC] at t2b
    simp (maxSteps := 9999999) (dsimp := false) (disch := omega) only [go_sem, H8, wrap64, cellsE, cellsC, dec_t, dec_f, lo.k0, lo.k1]
    refine ⟨_, { m with at_ := t2, site := m.site + 1 }, ⟨(.mk (m.site + 1) 23 (0) (0) (0) E0 E0 c1 [] [] [] []), rfl, ⟨⟨_, rfl, rfl, rfl, rfl, rfl, rfl, c1w, ⟨rfl, rfl⟩, fun _ => rfl, fun _ => rfl⟩, by simp only [S.site]; omega, by simp only [S.site]; omega⟩, rfl, rfl, rfl, by first | omega | (simp only; omega), t2, m.site + 1, by first | omega | (simp only; omega), by first | omega | (simp only; omega), by first | omega | (simp only; omega), by first | omega | (simp only; omega), rfl⟩, ?_, .refl _⟩
    simp only [encS_eq, cellsS, cellsE, cellsC, S.site, S.op, S.n, S.m, S.v, S.x, S.y, S.c, S.args, S.ptrs, S.body, S.els, E0, C0, E.op, E.n, E.v, E.a, C.op, C.a, C.c, List.cons_append, List.nil_append, List.map_cons, List.map_nil]
    exact SubC.sub (by repeat constructor)
  simp (maxSteps := 9999999) (dsimp := false) (disch := omega) only [go_sem, H8, wrap64, cellsE, cellsC, dec_t, dec_f, hk0, hk1, hk2, hk3, hk4, hk5, hk6, hk7, hk8, hk9, hk10, hk11, hk12, hk13, Tryz.a187r3, Tryz.a187r4, Tryz.a187r6, Tryz.a187r8, Tryz.a187r10, Tryz.a187r12, Tryz.a187r14, Tryz.a187r16, Tryz.a187r18, Tryz.a187r20, Tryz.a187r22, Tryz.a187r24, Tryz.a187r26, Tryz.a187r28, Tryz.a187r30]
  refine next8 lo { m with at_ := m.at_ + 1, site := m.site + 1 } _ (by omega) (by first | omega | (simp only; omega)) (by first | omega | (simp only; omega)) _ _ ?_
  rintro _ _ ⟨u1, rfl, u1a, u1b, rfl⟩
  simp (maxSteps := 9999999) (dsimp := false) (disch := omega) only [go_sem, H8, wrap64, cellsE, cellsC, dec_t, dec_f]
  refine expr8n lo 1 _ rfl { m with at_ := m.at_ + 1 + 1, site := m.site + 1 } (by omega) (by first | omega | (simp only; omega)) (by simp only [cE]; omega) (by first | omega | (simp only; omega)) (by first | omega | (simp only; omega)) (by first | omega | (simp only; omega)) _ _ ?_
  rintro _ _ ⟨e2, rfl, e2w, t3, t3a, t3b, rfl⟩
  try simp only at t3a t3b
  simp only [cE] at t3b
  simp (maxSteps := 9999999) (dsimp := false) (disch := omega) only [go_sem, H8, wrap64, cellsE, cellsC, dec_t, dec_f, lo.k0, lo.k1]
  refine ⟨_, { m with at_ := t3, site := m.site + 1 }, ⟨(.mk (m.site + 1) 9 (u1) (0) (0) e2 E0 C0 [] [] [] []), rfl, ⟨⟨_, rfl, ⟨by simp only [cxOf, S.n, S.m, S.v]; omega, by simp only [cxOf, S.n, S.m, S.v]; omega⟩, rfl, rfl, e2w.le (by omega), rfl, rfl, ⟨rfl, rfl⟩, fun _ => rfl, fun _ => rfl⟩, by simp only [S.site]; omega, by simp only [S.site]; omega⟩, rfl, rfl, rfl, by first | omega | (simp only; omega), t3, m.site + 1, by first | omega | (simp only; omega), by first | omega | (simp only; omega), by first | omega | (simp only; omega), by first | omega | (simp only; omega), rfl⟩, ?_, .refl _⟩
  simp only [encS_eq, cellsS, cellsE, cellsC, S.site, S.op, S.n, S.m, S.v, S.x, S.y, S.c, S.args, S.ptrs, S.body, S.els, E0, C0, E.op, E.n, E.v, E.a, C.op, C.a, C.c, List.cons_append, List.nil_append, List.map_cons, List.map_nil]
  exact SubC.sub (by repeat constructor)

end Go.Par
