/- The maker's statements that have others. -/
import Derived.Test.YtdggbdjpcbiofaaGreatMkG
set_option linter.unusedSimpArgs false
set_option linter.unusedVariables false
set_option maxHeartbeats 8000000
set_option maxRecDepth 100000
namespace Go.Par
open Go.Ai Go.Proofs

def S0 : S := .mk 0 0 0 0 0 E0 E0 C0 [] [] [] []

theorem nest_none {a0 a1 : AObj} (dep : Nat) (m : M) (ok : Ok3 dep m) (v : AVal) (hv : v = .tuple [.agg [.int .i64 0, .int .i64 0, .int .i64 0, .int .i64 0, .int .i64 0, .int .i64 0, .int .i64 0, .int .i64 0, .nils, .int .i64 0, .int .i64 0, .int .i64 0, .nils, .int .i64 0, .nils, .nils, .nils, .nils, .nils, .nils], .bool false]) :
    ∃ r m', NestPost dep m r m' ∧ Ai.Sub v r ∧ SubH (H8 a0 a1 m) (H8 a0 a1 m') := by
  subst hv
  refine ⟨_, m, ⟨S0, false, rfl, (fun h => by cases h), m.at_, m.site, m.done, m.left, by omega, by omega, by omega, by omega, ok.dn0, ok.dn1, ok.l0, by omega, rfl, fun _ => rfl⟩, ?_, .refl _⟩
  simp only [S0, encS_eq, cellsS, cellsE, cellsC, S.site, S.op, S.n, S.m, S.v, S.x, S.y, S.c, S.args, S.ptrs, S.body, S.els, E0, C0, E.op, E.n, E.v, E.a, C.op, C.a, C.c, List.cons_append, List.nil_append, List.map_cons, List.map_nil]
  exact SubC.sub (by repeat constructor)

theorem nested_step {a0 a1 : AObj} (lo : Low a0 a1) (dep : Nat) (kd : Int) (hkd : kd = dep) (hdep : dep < 100)
    (stmts8 : ∀ d, dep = d + 1 → ∀ (m1 : M) (nn kd1 : Int), 0 ≤ nn → nn < 1000 → kd1 = d → Ok3 d m1 → Spec 129 [I nn, I kd1] (H8 a0 a1) m1 (StmtsPost d m1)) (m : M) (k : Int) (ok : Ok3 dep m) :
    Spec 168 [I k, I kd] (H8 a0 a1) m (NestPost dep m) := by
  have h0 := ok.h0; have s0 := ok.s0; have dn0 := ok.dn0; have dn1 := ok.dn1; have l0 := ok.l0; have l1 := ok.l1; have b1 := ok.b1; have b2 := ok.b2; have lp0 := ok.lp0; have lp1 := ok.lp1
  have hv := ok.hv; have hv1 := ok.hv1; have ha0 := ok.ha0; have ha := ok.ha
  refine Spec.intro 8 (H8_len a0 a1) (by omega) (H8_kill lo) rfl (fun r m' ⟨v, b, h, _⟩ => by rw [h]; simp (dsimp := false) only [go_sem]) ?_
  refine Tryz.w168 0 ?_
  by_cases hz : kd = 0
  · simp (maxSteps := 9999999) (dsimp := false) (disch := omega) only [go_sem, wrap64, Tryz.c168, Tryz.a168r0, Tryz.a168r1, Tryz.a168r2, H8, dec_t, dec_f, lo.k0, lo.k1]
    exact nest_none dep m ok _ rfl
  by_cases h4 : k < 4
  · simp (maxSteps := 9999999) (dsimp := false) (disch := omega) only [go_sem, wrap64, Tryz.c168, Tryz.a168r0, Tryz.a168r1, Tryz.a168r2, H8, dec_t, dec_f, lo.k0, lo.k1]
    exact nest_none dep m ok _ rfl
  by_cases h7 : k > 7
  · simp (maxSteps := 9999999) (dsimp := false) (disch := omega) only [go_sem, wrap64, Tryz.c168, Tryz.a168r0, Tryz.a168r1, Tryz.a168r2, H8, dec_t, dec_f, lo.k0, lo.k1]
    exact nest_none dep m ok _ rfl
  obtain ⟨d, rfl⟩ : ∃ d, dep = d + 1 := ⟨dep - 1, by omega⟩
  have stm := stmts8 d rfl
  simp (maxSteps := 9999999) (dsimp := false) (disch := omega) only [go_sem, wrap64, Tryz.c168, Tryz.a168r0, Tryz.a168r1, Tryz.a168r3, H8, dec_t, dec_f]
  refine site8 lo m (by omega) (by omega) [_] _ ?_
  rintro _ _ ⟨rfl, rfl⟩
  by_cases h6 : k = 6
  · simp (maxSteps := 9999999) (dsimp := false) (disch := omega) only [go_sem, wrap64, Tryz.a168r4, Tryz.a168r5, Tryz.a168r6, H8, dec_t, dec_f]
    refine cond8 lo 1 _ rfl { m with site := m.site + 1 } (by omega) (by simp only; omega) (by simp only [cC]; omega) (by simp only; omega) (by simp only; omega) (by simp only; omega) [_, _] _ ?_
    rintro _ _ ⟨c, rfl, cw, t, ta, tb, rfl⟩
    simp only [cC] at ta tb
    simp (maxSteps := 9999999) (dsimp := false) (disch := omega) only [go_sem, wrap64, Tryz.a168r7, H8, dec_t, dec_f, cellsC]
    refine next8 lo { m with at_ := t, site := m.site + 1 } _ (by omega) (by simp only; omega) (by simp only; omega) [_, _] _ ?_
    rintro _ _ ⟨u, rfl, ua, ub, rfl⟩
    simp (maxSteps := 9999999) (dsimp := false) (disch := omega) only [go_sem, wrap64, Tryz.a168r8, Tryz.a168r9, H8, dec_t, dec_f, cellsC]
    refine next8 lo { m with at_ := t + 1, site := m.site + 1, loop := m.loop + 1 } _ (by omega) (by simp only; omega) (by simp only; omega) [_, _] _ ?_
    rintro _ _ ⟨w, rfl, wa, wb, rfl⟩
    simp (maxSteps := 9999999) (dsimp := false) (disch := omega) only [go_sem, wrap64, H8, dec_t, dec_f]
    refine stm { m with at_ := t + 1 + 1, site := m.site + 1, loop := m.loop + 1 } _ _ (by omega) (by omega) (by omega) (ok.toOk2.step d (t + 1 + 1) (m.site + 1) m.done m.left (m.loop + 1) (by omega) (by omega) dn0 dn1 l0 l1 (by omega) (by omega) (by omega) (by omega)) [_, _] _ ?_
    rintro _ _ ⟨l, rfl, lw, li, ln, t2, z, dn2, lf, ta2, tb2, za, zb, da2, db2, la2, lb2, rfl⟩
    simp only at ta2 tb2 za zb la2 lb2 li ln
    simp (maxSteps := 9999999) (dsimp := false) (disch := omega) only [go_sem, wrap64, Tryz.a168r10, Tryz.a168r11, H8, dec_t, dec_f, lo.k0, lo.k1, Int.add_sub_cancel]
    refine ⟨_, { m with at_ := t2, site := z, done := dn2, left := lf }, ⟨.mk (m.site + 1) 12 0 0 (1 + u) E0 E0 c [] [] l [], true, rfl, fun _ =>
      ⟨⟨⟨_, rfl, rfl, rfl, ⟨by simp only [S.v]; omega, by simp only [S.v]; omega⟩, rfl, rfl, cw, ⟨rfl, rfl⟩, (fun h => by cases h), fun _ => rfl⟩, by simp only [S.site]; omega, by simp only [S.site]; omega⟩, lw, WfL.nil, ?_, by rw [nC_one]; simp only [S.op, S.body, S.els, nC_nil]; simp; omega⟩, t2, z, dn2, lf, by omega, by omega, by omega, by omega, da2, db2, la2, by omega, rfl, fun h => by cases h⟩, ?_, .refl _⟩
    · simp only [sitesL_cons, sitesL_nil, S.site, S.body, S.els, List.append_nil]
      exact (Inc.one (a := m.site) (b := m.site + 1) (by omega)).append li
    · simp only [encS_eq, cellsS, cellsE, cellsC, S.site, S.op, S.n, S.m, S.v, S.x, S.y, S.c, S.args, S.ptrs, S.body, S.els, E0, C0, E.op, E.n, E.v, E.a, C.op, C.a, C.c, List.cons_append, List.nil_append, List.map_cons, List.map_nil]
      exact SubC.sub (by repeat constructor)
  by_cases h77 : k = 7
  · simp (maxSteps := 9999999) (dsimp := false) (disch := omega) only [go_sem, wrap64, Tryz.a168r4, Tryz.a168r12, Tryz.a168r13, Tryz.a168r14, H8, dec_t, dec_f]
    refine target8 lo { m with site := m.site + 1 } hv (by simp only; omega) (by simp only; omega) (by simp only; omega) [_, _] _ ?_
    rintro _ _ ⟨v, rfl, va, vb, t, ta, tb, rfl⟩
    simp only at va vb ta tb
    simp (maxSteps := 9999999) (dsimp := false) (disch := omega) only [go_sem, wrap64, Tryz.a168r16, H8, dec_t, dec_f, cellsC]
    refine next8 lo { m with at_ := t, site := m.site + 1 } _ (by omega) (by simp only; omega) (by simp only; omega) [_, _] _ ?_
    rintro _ _ ⟨u, rfl, ua, ub, rfl⟩
    simp (maxSteps := 9999999) (dsimp := false) (disch := omega) only [go_sem, wrap64, H8, dec_t, dec_f]
    refine stm { m with at_ := t + 1, site := m.site + 1 } _ _ (by omega) (by omega) (by omega) (ok.toOk2.step d (t + 1) (m.site + 1) m.done m.left m.loop (by omega) (by omega) dn0 dn1 l0 l1 lp0 (by omega) (by omega) (by omega)) [_, _] _ ?_
    rintro _ _ ⟨l, rfl, lw, li, ln, t2, z, dn2, lf, ta2, tb2, za, zb, da2, db2, la2, lb2, rfl⟩
    simp only at ta2 tb2 za zb la2 lb2 li ln
    simp (maxSteps := 9999999) (dsimp := false) (disch := omega) only [go_sem, wrap64, Tryz.a168r17, H8, dec_t, dec_f]
    refine next8 lo { m with at_ := t2, site := z, done := dn2, left := lf } _ (by omega) (by simp only; omega) (by simp only; omega) [_, _] _ ?_
    rintro _ _ ⟨w, rfl, wa, wb, rfl⟩
    simp (maxSteps := 9999999) (dsimp := false) (disch := omega) only [go_sem, wrap64, H8, dec_t, dec_f]
    refine stm { m with at_ := t2 + 1, site := z, done := dn2, left := lf } _ _ (by omega) (by omega) (by omega) (ok.toOk2.step d (t2 + 1) z dn2 lf m.loop (by omega) (by omega) da2 db2 la2 (by omega) lp0 (by omega) (by omega) (by omega)) [_, _] _ ?_
    rintro _ _ ⟨l', rfl, lw', li', ln', t3, z3, dn3, lf3, ta3, tb3, za3, zb3, da3, db3, la3, lb3, rfl⟩
    simp only at ta3 tb3 za3 zb3 la3 lb3 li' ln'
    simp (maxSteps := 9999999) (dsimp := false) (disch := omega) only [go_sem, wrap64, Tryz.a168r18, H8, dec_t, dec_f, lo.k0, lo.k1]
    refine ⟨_, { m with at_ := t3, site := z3, done := dn3, left := lf3 }, ⟨.mk (m.site + 1) 15 v 0 0 E0 E0 C0 [] [] l l', true, rfl, fun _ =>
      ⟨⟨⟨_, rfl, ⟨by simp only [cxOf, S.n]; omega, by simp only [cxOf, S.n]; omega⟩, rfl, rfl, rfl, rfl, rfl, ⟨rfl, rfl⟩, (fun h => by cases h), (fun h => by cases h)⟩, by simp only [S.site]; omega, by simp only [S.site]; omega⟩, lw, lw', ?_, by rw [nC_one]; simp only [S.op, S.body, S.els, nC_nil]; simp; omega⟩, t3, z3, dn3, lf3, by omega, by omega, by omega, by omega, da3, db3, la3, by omega, rfl, fun h => by cases h⟩, ?_, .refl _⟩
    · simp only [sitesL_cons, sitesL_nil, S.site, S.body, S.els, List.append_nil]
      exact ((Inc.one (a := m.site) (b := m.site + 1) (by omega)).append li).append li'
    · simp only [encS_eq, cellsS, cellsE, cellsC, S.site, S.op, S.n, S.m, S.v, S.x, S.y, S.c, S.args, S.ptrs, S.body, S.els, E0, C0, E.op, E.n, E.v, E.a, C.op, C.a, C.c, List.cons_append, List.nil_append, List.map_cons, List.map_nil]
      exact SubC.sub (by repeat constructor)
  · simp (maxSteps := 9999999) (dsimp := false) (disch := omega) only [go_sem, wrap64, Tryz.a168r4, Tryz.a168r12, Tryz.a168r15, H8, dec_t, dec_f]
    refine cond8 lo 1 _ rfl { m with site := m.site + 1 } (by omega) (by simp only; omega) (by simp only [cC]; omega) (by simp only; omega) (by simp only; omega) (by simp only; omega) [_, _] _ ?_
    rintro _ _ ⟨c, rfl, cw, t, ta, tb, rfl⟩
    simp only [cC] at ta tb
    simp (maxSteps := 9999999) (dsimp := false) (disch := omega) only [go_sem, wrap64, Tryz.a168r16, H8, dec_t, dec_f, cellsC]
    refine next8 lo { m with at_ := t, site := m.site + 1 } _ (by omega) (by simp only; omega) (by simp only; omega) [_, _] _ ?_
    rintro _ _ ⟨u, rfl, ua, ub, rfl⟩
    simp (maxSteps := 9999999) (dsimp := false) (disch := omega) only [go_sem, wrap64, H8, dec_t, dec_f]
    refine stm { m with at_ := t + 1, site := m.site + 1 } _ _ (by omega) (by omega) (by omega) (ok.toOk2.step d (t + 1) (m.site + 1) m.done m.left m.loop (by omega) (by omega) dn0 dn1 l0 l1 lp0 (by omega) (by omega) (by omega)) [_, _] _ ?_
    rintro _ _ ⟨l, rfl, lw, li, ln, t2, z, dn2, lf, ta2, tb2, za, zb, da2, db2, la2, lb2, rfl⟩
    simp only at ta2 tb2 za zb la2 lb2 li ln
    simp (maxSteps := 9999999) (dsimp := false) (disch := omega) only [go_sem, wrap64, Tryz.a168r17, H8, dec_t, dec_f]
    refine next8 lo { m with at_ := t2, site := z, done := dn2, left := lf } _ (by omega) (by simp only; omega) (by simp only; omega) [_, _] _ ?_
    rintro _ _ ⟨w, rfl, wa, wb, rfl⟩
    simp (maxSteps := 9999999) (dsimp := false) (disch := omega) only [go_sem, wrap64, H8, dec_t, dec_f]
    refine stm { m with at_ := t2 + 1, site := z, done := dn2, left := lf } _ _ (by omega) (by omega) (by omega) (ok.toOk2.step d (t2 + 1) z dn2 lf m.loop (by omega) (by omega) da2 db2 la2 (by omega) lp0 (by omega) (by omega) (by omega)) [_, _] _ ?_
    rintro _ _ ⟨l', rfl, lw', li', ln', t3, z3, dn3, lf3, ta3, tb3, za3, zb3, da3, db3, la3, lb3, rfl⟩
    simp only at ta3 tb3 za3 zb3 la3 lb3 li' ln'
    simp (maxSteps := 9999999) (dsimp := false) (disch := omega) only [go_sem, wrap64, Tryz.a168r18, H8, dec_t, dec_f, lo.k0, lo.k1]
    refine ⟨_, { m with at_ := t3, site := z3, done := dn3, left := lf3 }, ⟨.mk (m.site + 1) 11 0 0 0 E0 E0 c [] [] l l', true, rfl, fun _ =>
      ⟨⟨⟨_, rfl, rfl, rfl, rfl, rfl, rfl, cw, ⟨rfl, rfl⟩, (fun h => by cases h), (fun h => by cases h)⟩, by simp only [S.site]; omega, by simp only [S.site]; omega⟩, lw, lw', ?_, by rw [nC_one]; simp only [S.op, S.body, S.els, nC_nil]; simp; omega⟩, t3, z3, dn3, lf3, by omega, by omega, by omega, by omega, da3, db3, la3, by omega, rfl, fun h => by cases h⟩, ?_, .refl _⟩
    · simp only [sitesL_cons, sitesL_nil, S.site, S.body, S.els, List.append_nil]
      exact ((Inc.one (a := m.site) (b := m.site + 1) (by omega)).append li).append li'
    · simp only [encS_eq, cellsS, cellsE, cellsC, S.site, S.op, S.n, S.m, S.v, S.x, S.y, S.c, S.args, S.ptrs, S.body, S.els, E0, C0, E.op, E.n, E.v, E.a, C.op, C.a, C.c, List.cons_append, List.nil_append, List.map_cons, List.map_nil]
      exact SubC.sub (by repeat constructor)

/-- Lists of statements, at any depth. -/
theorem stmts_nested8 {a0 a1 : AObj} (lo : Low a0 a1) : ∀ dep : Nat, dep < 100 →
    (∀ (m : M) (k kd : Int), kd = dep → Ok3 dep m → Spec 168 [I k, I kd] (H8 a0 a1) m (NestPost dep m)) ∧
    (∀ (m : M) (nn kd : Int), 0 ≤ nn → nn < 1000 → kd = dep → Ok3 dep m → Spec 129 [I nn, I kd] (H8 a0 a1) m (StmtsPost dep m)) := by
  intro dep
  have fin : ∀ dep : Nat, dep < 100 → (∀ (m : M) (k kd : Int), kd = dep → Ok3 dep m → Spec 168 [I k, I kd] (H8 a0 a1) m (NestPost dep m)) →
      (∀ (m : M) (nn kd : Int), 0 ≤ nn → nn < 1000 → kd = dep → Ok3 dep m → Spec 129 [I nn, I kd] (H8 a0 a1) m (StmtsPost dep m)) := by
    intro dep hd hn m nn kd h1 h2 hk ok
    obtain ⟨n, rfl⟩ : ∃ n : Nat, nn = n := ⟨nn.toNat, by omega⟩
    subst hk
    exact stmts_step lo dep hd (fun m1 k ok1 => hn m1 k _ rfl ok1) m n (by omega) ok
  induction dep with
  | zero =>
    intro hd
    have hn : ∀ (m : M) (k kd : Int), kd = ((0 : Nat) : Int) → Ok3 0 m → Spec 168 [I k, I kd] (H8 a0 a1) m (NestPost 0 m) := fun m k kd hk ok => nested_step lo 0 kd hk hd (fun d h => by omega) m k ok
    exact ⟨hn, fin 0 hd hn⟩
  | succ dep ih =>
    intro hd
    have hs := (ih (by omega)).2
    have hn : ∀ (m : M) (k kd : Int), kd = ((dep + 1 : Nat) : Int) → Ok3 (dep + 1) m → Spec 168 [I k, I kd] (H8 a0 a1) m (NestPost (dep + 1) m) := fun m k kd hk ok => nested_step lo (dep + 1) kd hk hd (fun d h m1 nn kd1 k0 k1 k2 ok1 => by
      obtain rfl : d = dep := by omega
      exact hs m1 nn kd1 k0 k1 k2 ok1) m k ok
    exact ⟨hn, fin (dep + 1) hd hn⟩
end Go.Par
