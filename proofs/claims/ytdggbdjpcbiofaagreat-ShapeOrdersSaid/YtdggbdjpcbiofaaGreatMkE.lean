/- The maker's calls. -/
import Derived.Test.YtdggbdjpcbiofaaGreatMkD
set_option linter.unusedSimpArgs false
set_option linter.unusedVariables false
set_option maxHeartbeats 8000000
set_option maxRecDepth 100000
namespace Go.Par
open Go.Ai Go.Proofs

structure Ok2 (m : M) : Prop extends Ok m where
  dn0 : 0 ≤ m.done
  dn1 : m.done ≤ 2
  hl : m.p.heads.length < 100
  hs : ∀ h ∈ m.p.heads, 1 ≤ h.id ∧ h.id ≤ 1073741824 ∧ h.params.length ≤ 12 ∧ h.given.length ≤ 4

/-- A statement without others was made; perhaps one more call is counted. -/
def CallPost (c : Int) (m : M) (r : AVal) (m' : M) : Prop := ∃ s, r = encS s ∧ Wf1 (cxOf m) m.p.heads s ∧ s.body = [] ∧ s.els = [] ∧ s.site = m.site + 1 ∧
  ∃ t dn, m.at_ ≤ t ∧ t ≤ m.at_ + c ∧ 0 ≤ dn ∧ dn ≤ 2 ∧ m' = { m with at_ := t, site := m.site + 1, done := dn }

def callCells (site n mid : Int) (args : List AVal) (ptrs : List AVal) : List AVal :=
  [.int .i64 site, .int .i64 13, .int .i64 n, .int .i64 mid, .int .i64 0, .int .i64 0, .int .i64 0, .int .i64 0, .nils, .int .i64 0, .int .i64 0, .int .i64 0, .nils, .int .i64 0, .nils, .nils, .fs 4 args (some 11), .fs 1 ptrs (some 12), .nils, .nils]

/-- The heap in the loops of 'call'. -/
def callHeap (a0 a1 : AObj) (m : M) (hd : Hd) (v tt : Int) (args : List E) (ptrs : List Int) : List AObj :=
  [a0, a1, .tok 5 m.p.heads.length, .tok 12 m.p.defs.length, .tok 1 m.p.threads.length, .rows 29 [encM (some 6) (some 7) { m with at_ := tt, site := m.site + 1, done := m.done + 1, calm := false }], .tok 3 m.d.params.length, .tok 2 m.d.arrays.length,
   .rows 20 [.agg [.int .i64 0, .int .i64 0, .int .i64 0, .int .i64 0, .int .i64 0, .int .i64 0, .int .i64 0, .int .i64 0, .nils, .int .i64 0, .int .i64 0, .int .i64 0, .nils, .int .i64 0, .nils, .nils, .nils, .nils, .nils, .nils]],
   .rows 20 [.agg (callCells (m.site + 1) v hd.id (args.map encE) (ptrs.map (AVal.int .i64)))], .rows 5 [encHd hd], .tok 4 args.length, .tok 1 ptrs.length]

theorem call8 {a0 a1 : AObj} (lo : Low a0 a1) (m : M) (ok : Ok2 m) : Spec 184 [] (H8 a0 a1) m (CallPost 100 m) := by
  have h0 := ok.h0; have h1 := ok.h1; have s0 := ok.s0; have s1 := ok.s1; have hv := ok.hv; have hv1 := ok.hv1; have ha0 := ok.ha0; have ha := ok.ha
  have refs := ok.refs; have dn0 := ok.dn0; have dn1 := ok.dn1; have hl := ok.hl
  refine Spec.intro 8 (H8_len a0 a1) (by omega) (H8_kill lo) rfl (fun r m' ⟨v, h, _⟩ => by rw [h]; simp (dsimp := false) only [go_sem]) ?_
  obtain ⟨N, hN⟩ : ∃ N, N = 1000 := ⟨_, rfl⟩
  refine Tryz.w184 N ?_
  simp (maxSteps := 9999999) (dsimp := false) (disch := omega) only [go_sem, wrap64, Tryz.c184, Tryz.a184r0, Tryz.a184r1]
  simp only [H8, List.cons_append, List.nil_append]
  refine site8 lo m (by omega) (by omega) _ _ ?_
  rintro _ _ ⟨rfl, rfl⟩
  simp (maxSteps := 9999999) (dsimp := false) (disch := omega) only [go_sem, H8, wrap64]
  refine target8 lo { m with site := m.site + 1 } hv (by simp only; omega) (by simp only; omega) (by simp only; omega) _ _ ?_
  rintro _ _ ⟨v, rfl, va, vb, t, ta, tb, rfl⟩
  simp only at va vb ta tb
  simp (maxSteps := 9999999) (dsimp := false) (disch := omega) only [go_sem, H8, wrap64]
  refine num _ _ _ ?_
  have calm := ok.calm
  by_cases hh : m.p.heads.length = 0
  · simp (maxSteps := 9999999) (dsimp := false) (disch := omega) only [go_sem, H8, wrap64, Tryz.a184r2, Tryz.a184r3, calm, dec_t, dec_f, cellsE, cellsC, lo.k0, lo.k1]
    refine ⟨_, { m with at_ := t, site := m.site + 1, calm := false }, ⟨.mk (m.site + 1) 1 v 0 0 (.mk 1 0 1 []) E0 C0 [] [] [] [], rfl, ⟨⟨_, rfl, ⟨by simp only [cxOf, S.n]; omega, by simp only [cxOf, S.n]; omega⟩, rfl, rfl, .inl ⟨rfl, rfl, rfl, by simp only [E.v, S.x]; omega, by simp only [E.v, S.x]; omega⟩, rfl, rfl, ⟨rfl, rfl⟩, fun _ => rfl, fun _ => rfl⟩, by simp only [S.site]; omega, by simp only [S.site]; omega⟩, rfl, rfl, rfl, t, m.done, by omega, by omega, dn0, dn1, by rw [← calm]⟩, ?_, .refl _⟩
    simp only [encS_eq, cellsS, cellsE, cellsC, S.site, S.op, S.n, S.m, S.v, S.x, S.y, S.c, S.args, S.ptrs, S.body, S.els, E0, C0, E.op, E.n, E.v, E.a, C.op, C.a, C.c, List.cons_append, List.nil_append, List.map_cons, List.map_nil]
    exact SubC.sub (by repeat constructor)
  by_cases hd : m.done ≥ 2
  · simp (maxSteps := 9999999) (dsimp := false) (disch := omega) only [go_sem, H8, wrap64, Tryz.a184r2, Tryz.a184r3, calm, dec_t, dec_f, cellsE, cellsC, lo.k0, lo.k1]
    refine ⟨_, { m with at_ := t, site := m.site + 1, calm := false }, ⟨.mk (m.site + 1) 1 v 0 0 (.mk 1 0 1 []) E0 C0 [] [] [] [], rfl, ⟨⟨_, rfl, ⟨by simp only [cxOf, S.n]; omega, by simp only [cxOf, S.n]; omega⟩, rfl, rfl, .inl ⟨rfl, rfl, rfl, by simp only [E.v, S.x]; omega, by simp only [E.v, S.x]; omega⟩, rfl, rfl, ⟨rfl, rfl⟩, fun _ => rfl, fun _ => rfl⟩, by simp only [S.site]; omega, by simp only [S.site]; omega⟩, rfl, rfl, rfl, t, m.done, by omega, by omega, dn0, dn1, by rw [← calm]⟩, ?_, .refl _⟩
    simp only [encS_eq, cellsS, cellsE, cellsC, S.site, S.op, S.n, S.m, S.v, S.x, S.y, S.c, S.args, S.ptrs, S.body, S.els, E0, C0, E.op, E.n, E.v, E.a, C.op, C.a, C.c, List.cons_append, List.nil_append, List.map_cons, List.map_nil]
    exact SubC.sub (by repeat constructor)
  simp (maxSteps := 9999999) (dsimp := false) (disch := omega) only [go_sem, H8, wrap64, Tryz.a184r2, Tryz.a184r4, calm, dec_t, dec_f, cellsE, cellsC, lo.k0, lo.k1]
  refine next8 lo { m with at_ := t, site := m.site + 1, calm := false } _ (by omega) (by simp only; omega) (by simp only; omega) _ _ ?_
  rintro _ _ ⟨u, rfl, ua, ub, rfl⟩
  have hu : u.toNat < m.p.heads.length := by omega
  have hx : m.p.heads[u.toNat]? = some m.p.heads[u.toNat] := List.getElem?_eq_getElem hu
  have hmem : m.p.heads[u.toNat] ∈ m.p.heads := List.getElem_mem hu
  generalize m.p.heads[u.toNat] = hd1 at hx hmem
  obtain ⟨hi1, hi2, hi3, hi4⟩ := ok.hs hd1 hmem
  simp (maxSteps := 9999999) (dsimp := false) (disch := omega) only [go_sem, H8, wrap64, Tryz.a184r5, Tryz.a184r7, Tryz.a184r8, Tryz.a184r9, calm, dec_t, dec_f, cellsE, cellsC, inB, hx]
  refine loop_rule (fun k st => ∃ (args : List E) (tt : Int), args.length + k = hd1.params.length ∧ (∀ e ∈ args, WfE m.d.vars m.d.arrays.length 3 e) ∧ t + 1 ≤ tt ∧ tt ≤ t + 1 + 6 * args.length ∧
    st = ⟨tm 148 [(0, .hp 5 29 0 0), (2, .hp 8 20 0 0), (3, .hp 9 20 0 0), (4, .hp 10 5 0 0), (5, I args.length)], callHeap a0 a1 m hd1 v tt args []⟩) ?_ (m := hd1.params.length) (by omega)
    ⟨[], t + 1, by simp, (fun e he => by cases he), by omega, by simp, by simp (maxSteps := 9999999) (dsimp := false) (disch := omega) only [go_sem, lo.k0, lo.k1, callHeap, callCells, Int.ofNat_zero] <;> rfl⟩
  rintro k st rec ⟨args, tt, hk, hw, ht0, ht1, he⟩ hrec
  rw [he]
  simp (maxSteps := 9999999) (dsimp := false) (disch := omega) only [go_sem, Tryz.a184l15, Tryz.a184r10, callHeap, callCells]
  by_cases hi : args.length < hd1.params.length
  · simp (maxSteps := 9999999) (dsimp := false) (disch := omega) only [go_sem, dec_t, dec_f, Tryz.a184r11, Tryz.a184r13, callHeap, callCells]
    refine expr8n lo 1 _ rfl { m with at_ := tt, site := m.site + 1, done := m.done + 1, calm := false } (by omega) (by simp only; omega) (by simp only [cE]; omega) (by simp only; omega) (by simp only; omega) (by simp only; omega) _ _ ?_
    rintro _ _ ⟨e, rfl, ew, t2, t2a, t2b, rfl⟩
    simp only [cE] at t2a t2b ew
    simp (maxSteps := 9999999) (dsimp := false) (disch := omega) only [go_sem, H8, dec_t, dec_f, Tryz.a184r14, callHeap, callCells, appLim, wrap64]
    exact hrec (k - 1) _ (by omega) ⟨args ++ [e], t2, by simp; omega, (fun x hx => by rcases List.mem_append.1 hx with h | h; exact hw x h; simp at h; subst h; exact ew.le (by omega)), by omega, by simp; omega,
      by simp (maxSteps := 9999999) (dsimp := false) (disch := omega) only [go_sem, lo.k0, lo.k1, callHeap, callCells, List.map_append, Int.natCast_add, Int.cast_ofNat_Int] <;> rfl⟩
  have hk0 : args.length = hd1.params.length := by omega
  simp (maxSteps := 9999999) (dsimp := false) (disch := omega) only [go_sem, dec_t, dec_f, Tryz.a184r16, callHeap, callCells]
  refine loop_rule (fun k st => ∃ (ptrs : List Int) (tt2 : Int), ptrs.length + k = hd1.given.length ∧ (∀ p ∈ ptrs, 0 ≤ p ∧ p < m.d.refs) ∧ tt ≤ tt2 ∧ tt2 ≤ tt + ptrs.length ∧
    st = ⟨tm 148 [(0, .hp 5 29 0 0), (2, .hp 8 20 0 0), (3, .hp 9 20 0 0), (4, .hp 10 5 0 0), (6, I ptrs.length)], callHeap a0 a1 m hd1 v tt2 args ptrs⟩) ?_ (m := hd1.given.length) (by omega)
    ⟨[], tt, by simp, (fun e he => by cases he), by omega, by simp, by simp (maxSteps := 9999999) (dsimp := false) (disch := omega) only [go_sem, lo.k0, lo.k1, callHeap, callCells, Int.ofNat_zero] <;> rfl⟩
  clear hrec he st k hk rec
  rintro k st rec ⟨ptrs, tt2, hk, hp, ht2, ht3, he⟩ hrec
  rw [he]
  simp (maxSteps := 9999999) (dsimp := false) (disch := omega) only [go_sem, Tryz.a184l20, Tryz.a184r17, callHeap, callCells]
  by_cases hj : ptrs.length < hd1.given.length
  · simp (maxSteps := 9999999) (dsimp := false) (disch := omega) only [go_sem, dec_t, dec_f, Tryz.a184r18, callHeap, callCells]
    refine next8 lo { m with at_ := tt2, site := m.site + 1, done := m.done + 1, calm := false } _ (by omega) (by simp only; omega) (by simp only; omega) _ _ ?_
    rintro _ _ ⟨q, rfl, qa, qb, rfl⟩
    simp (maxSteps := 9999999) (dsimp := false) (disch := omega) only [go_sem, H8, dec_t, dec_f, Tryz.a184r19, callHeap, callCells, appLim, wrap64]
    exact hrec (k - 1) _ (by omega) ⟨ptrs ++ [q], tt2 + 1, by simp; omega, (fun x hx => by rcases List.mem_append.1 hx with h | h; exact hp x h; simp at h; subst h; omega), by omega, by simp; omega,
      by simp (maxSteps := 9999999) (dsimp := false) (disch := omega) only [go_sem, lo.k0, lo.k1, callHeap, callCells, List.map_append, Int.natCast_add, Int.cast_ofNat_Int] <;> rfl⟩
  have hk1 : ptrs.length = hd1.given.length := by omega
  simp (maxSteps := 9999999) (dsimp := false) (disch := omega) only [go_sem, dec_t, dec_f, Tryz.a184r21, callHeap, callCells, lo.k0, lo.k1]
  refine ⟨_, { m with at_ := tt2, site := m.site + 1, done := m.done + 1, calm := false }, ⟨.mk (m.site + 1) 13 v hd1.id 0 E0 E0 C0 args ptrs [] [], rfl,
    ⟨⟨_, rfl, .inr ⟨by simp only [cxOf, S.n]; omega, by simp only [cxOf, S.n]; omega⟩, ⟨by simp only [S.m]; omega, by simp only [S.m]; omega⟩, rfl, rfl, rfl, rfl, ⟨hw, hp, by simp only [S.args]; omega, by simp only [S.ptrs]; omega, hd1, hmem, rfl, hk0.symm, hk1.symm⟩, fun _ => rfl, fun _ => rfl⟩, by simp only [S.site]; omega, by simp only [S.site]; omega⟩,
    rfl, rfl, rfl, tt2, m.done + 1, by omega, by omega, by omega, by omega, by rw [← calm]⟩, ?_, .refl _⟩
  simp only [encS_eq, cellsS, cellsE, cellsC, S.site, S.op, S.n, S.m, S.v, S.x, S.y, S.c, S.args, S.ptrs, S.body, S.els, E0, C0, E.op, E.n, E.v, E.a, C.op, C.a, C.c, List.cons_append, List.nil_append, List.map_cons, List.map_nil]
  exact SubC.sub (by repeat constructor)
end Go.Par
