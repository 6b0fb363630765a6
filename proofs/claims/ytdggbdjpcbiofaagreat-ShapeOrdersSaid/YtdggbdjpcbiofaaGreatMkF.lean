/- The maker's statements without others, of all kinds. -/
import Derived.Test.YtdggbdjpcbiofaaGreatMkE
set_option linter.unusedSimpArgs false
set_option linter.unusedVariables false
set_option maxHeartbeats 8000000
set_option maxRecDepth 100000
namespace Go.Par
open Go.Ai Go.Proofs

/-- A list of statements was made; perhaps one more call is counted. -/
def OtherPost (c e : Int) (m : M) (r : AVal) (m' : M) : Prop := ∃ l, r = .fs 20 (l.map encS) none ∧ WfL (cxOf m) m.p.heads 1 l ∧ Inc m.site m'.site (sitesL l) ∧ nC l ≤ 1 ∧
  ∃ t s dn, m.at_ ≤ t ∧ t ≤ m.at_ + c ∧ m.site ≤ s ∧ s ≤ m.site + e ∧ 0 ≤ dn ∧ dn ≤ 2 ∧ m' = { m with at_ := t, site := s, done := dn }

theorem Ok2.calm0 {m : M} (ok : Ok2 m) : Ok2 { m with calm := false } := by
  have := ok.calm; cases m; simp only at this; subst this; exact ok

theorem other8 {a0 a1 : AObj} (lo : Low a0 a1) (m : M) (k dep : Int) (ok : Ok2 m) : Spec 169 [I k, I dep] (H8 a0 a1) m (OtherPost 100 3 m) := by
  have h0 := ok.h0; have h1 := ok.h1; have s0 := ok.s0; have s1 := ok.s1; have hv := ok.hv; have hv1 := ok.hv1; have ha0 := ok.ha0; have ha := ok.ha
  have dn0 := ok.dn0; have dn1 := ok.dn1
  have calm := ok.calm
  refine Spec.intro 8 (H8_len a0 a1) (by omega) (H8_kill lo) rfl (fun r m' ⟨v, h, _⟩ => by rw [h]; simp (dsimp := false) only [go_sem]) ?_
  refine Tryz.w169 0 ?_
  by_cases hc : 4 ≤ k ∧ k < 10
  · simp (maxSteps := 9999999) (dsimp := false) (disch := omega) only [go_sem, wrap64, Tryz.c169, Tryz.a169r0, Tryz.a169r1, Tryz.a169r2, dec_t, dec_f]
    simp only [H8, List.cons_append, List.nil_append]
    refine call8 lo m ok [] _ ?_
    rintro _ _ ⟨s, rfl, hw, hb, he, hs, t, dn, ta, tb, da, db, rfl⟩
    simp (maxSteps := 9999999) (dsimp := false) (disch := omega) only [go_sem, H8, lo.k0, lo.k1]
    refine ⟨_, { m with at_ := t, site := m.site + 1, done := dn }, ⟨[s], rfl, wf_one hw hb he, by show Inc m.site (m.site + 1) _; rw [sitesL_one hb he, hs]; exact .one (by omega), nC_flat hb he, t, m.site + 1, dn, by omega, by omega, by omega, by omega, da, db, rfl⟩, ?_, .refl _⟩
    simp only [List.map_cons, List.map_nil]
    exact .refl _
  by_cases h10 : k = 10
  · simp (maxSteps := 9999999) (dsimp := false) (disch := omega) only [go_sem, wrap64, Tryz.c169, Tryz.a169r0, Tryz.a169r1, Tryz.a169r3, Tryz.a169r4, dec_t, dec_f, H8, calm, h10]
    refine site8 lo m (by omega) (by omega) [] _ ?_
    rintro _ _ ⟨rfl, rfl⟩
    simp (maxSteps := 9999999) (dsimp := false) (disch := omega) only [go_sem, H8, wrap64]
    refine next8 lo { m with site := m.site + 1 } _ (by omega) (by simp only; omega) (by simp only; omega) [] _ ?_
    rintro _ _ ⟨u, rfl, ua, ub, rfl⟩
    simp (maxSteps := 9999999) (dsimp := false) (disch := omega) only [go_sem, H8, wrap64, lo.k0, lo.k1]
    refine ⟨_, { m with at_ := m.at_ + 1, site := m.site + 1 }, ⟨[.mk (m.site + 1) 14 0 0 (1 + u) E0 E0 C0 [] [] [] []], rfl, wf_one ⟨⟨_, rfl, rfl, rfl, ⟨by simp only [S.v]; omega, by simp only [S.v]; omega⟩, rfl, rfl, rfl, ⟨rfl, rfl⟩, fun _ => rfl, fun _ => rfl⟩, by simp only [S.site]; omega, by simp only [S.site]; omega⟩ rfl rfl, by show Inc m.site (m.site + 1) _; rw [sitesL_one rfl rfl]; exact .one (by omega), nC_flat rfl rfl, m.at_ + 1, m.site + 1, m.done, by omega, by omega, by omega, by omega, dn0, dn1, rfl⟩, ?_, .refl _⟩
    simp only [encS_eq, cellsS, cellsE, cellsC, S.site, S.op, S.n, S.m, S.v, S.x, S.y, S.c, S.args, S.ptrs, S.body, S.els, E0, C0, E.op, E.n, E.v, E.a, C.op, C.a, C.c, List.cons_append, List.nil_append, List.map_cons, List.map_nil]
    exact SubC.sub (by repeat constructor)
  by_cases h11 : k = 11 ∧ dep < 2
  · obtain ⟨e11, hd2⟩ := h11
    simp (maxSteps := 9999999) (dsimp := false) (disch := omega) only [go_sem, wrap64, Tryz.c169, Tryz.a169r0, Tryz.a169r1, Tryz.a169r3, Tryz.a169r5, Tryz.a169r6, dec_t, dec_f, H8]
    refine site8 lo m (by omega) (by omega) [] _ ?_
    rintro _ _ ⟨rfl, rfl⟩
    simp (maxSteps := 9999999) (dsimp := false) (disch := omega) only [go_sem, H8, wrap64]
    refine expr8n lo 1 _ rfl { m with site := m.site + 1 } (by omega) (by simp only; omega) (by simp only [cE]; omega) (by simp only; omega) (by simp only; omega) (by simp only; omega) [] _ ?_
    rintro _ _ ⟨e, rfl, ew, t, ta, tb, rfl⟩
    simp only [cE] at ta tb ew
    simp (maxSteps := 9999999) (dsimp := false) (disch := omega) only [go_sem, H8, wrap64, lo.k0, lo.k1, cellsE, cellsC]
    refine ⟨_, { m with at_ := t, site := m.site + 1 }, ⟨[.mk (m.site + 1) 24 0 0 0 e E0 C0 [] [] [] []], rfl, wf_one ⟨⟨_, rfl, rfl, rfl, rfl, ew.le (by omega), rfl, rfl, ⟨rfl, rfl⟩, fun _ => rfl, fun _ => rfl⟩, by simp only [S.site]; omega, by simp only [S.site]; omega⟩ rfl rfl, by show Inc m.site (m.site + 1) _; rw [sitesL_one rfl rfl]; exact .one (by omega), nC_flat rfl rfl, t, m.site + 1, m.done, by omega, by omega, by omega, by omega, dn0, dn1, rfl⟩, ?_, .refl _⟩
    simp only [encS_eq, cellsS, cellsE, cellsC, S.site, S.op, S.n, S.m, S.v, S.x, S.y, S.c, S.args, S.ptrs, S.body, S.els, E0, C0, E.op, E.n, E.v, E.a, C.op, C.a, C.c, List.cons_append, List.nil_append, List.map_cons, List.map_nil]
    exact SubC.sub (by repeat constructor)
  have hnn : ¬ (k = 11 ∧ dep < 2) := h11
  by_cases hk4 : k < 4
  · simp (maxSteps := 9999999) (dsimp := false) (disch := omega) only [go_sem, wrap64, Tryz.c169, Tryz.a169r0, Tryz.a169r1, Tryz.a169r3, Tryz.a169r5, Tryz.a169r7, Tryz.a169r8, dec_t, dec_f, H8]
    refine simple8 lo m ok.toOk [] _ ?_
    rintro _ _ ⟨l, rfl, hw, hi, hn, t, s, ta, tb, sa, sb, rfl⟩
    simp (maxSteps := 9999999) (dsimp := false) (disch := omega) only [go_sem, H8, lo.k0, lo.k1]
    exact ⟨_, { m with at_ := t, site := s }, ⟨l, rfl, hw, hi, hn, t, s, m.done, by omega, by omega, by omega, by omega, dn0, dn1, rfl⟩, .refl _, .refl _⟩
  have fin : ∀ (m' : M) (s : S), Wf1 (cxOf m) m.p.heads s → s.body = [] → s.els = [] → s.site = m.site + 1 → m.site + 1 ≤ m'.site → Adv2 60 1 m m' → OtherPost 100 3 m (.fs 20 ([s].map encS) none) m' :=
    fun m' s hw hb he hs hle ⟨t, z, ta, tb, sa, sb, e⟩ => ⟨[s], rfl, wf_one hw hb he, by rw [sitesL_one hb he, hs]; exact (Inc.one (by omega)).up hle, nC_flat hb he, t, z, m.done, by omega, by omega, by omega, by omega, dn0, dn1, e⟩
  by_cases e11 : k = 11
  · have hd2 : ¬ dep < 2 := fun h => hnn ⟨e11, h⟩
    simp (maxSteps := 9999999) (dsimp := false) (disch := omega) only [go_sem, wrap64, Tryz.c169, Tryz.a169r0, Tryz.a169r1, Tryz.a169r3, Tryz.a169r5, Tryz.a169r7, Tryz.a169r9, dec_t, dec_f, H8, calm]
    refine risky8 lo m ok.toOk [] _ ?_
    rintro _ m' ⟨s, rfl, hw, hb, he, hs, hle, ha2⟩
    have hf := fin m' s hw hb he hs hle ha2
    simp (maxSteps := 9999999) (dsimp := false) (disch := omega) only [go_sem, H8, lo.k0, lo.k1]
    exact ⟨_, m', hf, .refl _, .refl _⟩
  · simp (maxSteps := 9999999) (dsimp := false) (disch := omega) only [go_sem, wrap64, Tryz.c169, Tryz.a169r0, Tryz.a169r1, Tryz.a169r3, Tryz.a169r5, Tryz.a169r7, Tryz.a169r9, dec_t, dec_f, H8, calm]
    refine risky8 lo m ok.toOk [] _ ?_
    rintro _ m' ⟨s, rfl, hw, hb, he, hs, hle, ha2⟩
    have hf := fin m' s hw hb he hs hle ha2
    simp (maxSteps := 9999999) (dsimp := false) (disch := omega) only [go_sem, H8, lo.k0, lo.k1]
    exact ⟨_, m', hf, .refl _, .refl _⟩
end Go.Par
