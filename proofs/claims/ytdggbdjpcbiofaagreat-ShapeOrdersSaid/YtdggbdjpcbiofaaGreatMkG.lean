/- The maker's lists of statements. -/
import Derived.Test.YtdggbdjpcbiofaaGreatMkF
set_option linter.unusedSimpArgs false
set_option linter.unusedVariables false
set_option maxHeartbeats 8000000
set_option maxRecDepth 100000
namespace Go.Par
open Go.Ai Go.Proofs

structure Ok3 (dep : Nat) (m : M) : Prop extends Ok2 m where
  l0 : 0 ≤ m.left
  l1 : m.left ≤ 1000
  lp0 : 0 ≤ m.loop
  lp1 : m.loop + dep ≤ 1000
  b1 : m.at_ + 300 * m.left + 1000 * (dep + 1) < 1000000000000
  b2 : m.site + 4 * m.left + 100 * (dep + 1) < 1000000000

theorem Ok2.step {m : M} (ok : Ok2 m) (dep : Nat) (t s dn lf lp : Int) (h0 : 0 ≤ t) (s0 : 0 ≤ s) (d0 : 0 ≤ dn) (d1 : dn ≤ 2) (l0 : 0 ≤ lf) (l1 : lf ≤ 1000) (p0 : 0 ≤ lp) (p1 : lp + dep ≤ 1000) (b1 : t + 300 * lf + 1000 * (dep + 1) < 1000000000000) (b2 : s + 4 * lf + 100 * (dep + 1) < 1000000000) :
    Ok3 dep { m with at_ := t, site := s, done := dn, left := lf, loop := lp } :=
  { h0 := h0, h1 := by simp only; omega, s0 := s0, s1 := by simp only; omega, hv := ok.hv, hv1 := ok.hv1, ha0 := ok.ha0, ha := ok.ha, refs := ok.refs, glob := ok.glob, cls := ok.cls, que := ok.que, snk := ok.snk, locks := ok.locks, parts := ok.parts, calm := ok.calm,
    dn0 := d0, dn1 := d1, hl := ok.hl, hs := ok.hs, l0 := l0, l1 := l1, lp0 := p0, lp1 := p1, b1 := b1, b2 := b2 }

def StmtsPost (dep : Nat) (m : M) (r : AVal) (m' : M) : Prop := ∃ l, r = .fs 20 (l.map encS) none ∧ WfL (cxOf m) m.p.heads (dep + 1) l ∧ Inc m.site m'.site (sitesL l) ∧ (nC l : Int) ≤ m.left - m'.left ∧
  ∃ t s dn lf, m.at_ ≤ t ∧ t ≤ m.at_ + 300 * (m.left - lf) ∧ m.site ≤ s ∧ s ≤ m.site + 4 * (m.left - lf) ∧ 0 ≤ dn ∧ dn ≤ 2 ∧ 0 ≤ lf ∧ lf ≤ m.left ∧ m' = { m with at_ := t, site := s, done := dn, left := lf }

def NestPost (dep : Nat) (m : M) (r : AVal) (m' : M) : Prop := ∃ s b, r = .tuple [encS s, .bool b] ∧
  (b = true → Wf1 (cxOf m) m.p.heads s ∧ WfL (cxOf m) m.p.heads dep s.body ∧ WfL (cxOf m) m.p.heads dep s.els ∧ Inc m.site m'.site (sitesL [s]) ∧ (nC [s] : Int) ≤ m.left - m'.left) ∧
  ∃ t z dn lf, m.at_ ≤ t ∧ t ≤ m.at_ + 100 + 300 * (m.left - lf) ∧ m.site ≤ z ∧ z ≤ m.site + 1 + 4 * (m.left - lf) ∧ 0 ≤ dn ∧ dn ≤ 2 ∧ 0 ≤ lf ∧ lf ≤ m.left ∧ m' = { m with at_ := t, site := z, done := dn, left := lf } ∧ (b = false → z = m.site)

theorem sites_len : ∀ l : List S, l.length ≤ (sitesL l).length
  | [] => by simp
  | s :: l => by have := sites_len l; rw [sitesL_cons]; simp; omega

theorem WfL.up {cx : Cx} {hs : List Hd} : ∀ {d : Nat} {l : List S}, WfL cx hs d l → WfL cx hs (d + 1) l
  | 0, l, h => by rw [WfL] at h; subst h; exact WfL.nil
  | d + 1, l, h => fun s hs => ⟨(h s hs).1, (h s hs).2.1.up, (h s hs).2.2.up⟩
theorem WfL.le {cx : Cx} {hs : List Hd} {d e : Nat} {l : List S} (h : WfL cx hs d l) (hd : d ≤ e) : WfL cx hs e l := by
  induction hd with
  | refl => exact h
  | step _ ih => exact ih.up

/-- The heap in the loop of 'stmts'. -/
def stHeap (a0 a1 : AObj) (m : M) (l : List S) : List AObj :=
  [a0, a1, .tok 5 m.p.heads.length, .tok 12 m.p.defs.length, .tok 1 m.p.threads.length, .rows 29 [encM (some 6) (some 7) m], .tok 3 m.d.params.length, .tok 2 m.d.arrays.length, .tok 20 l.length]

theorem stmts_step {a0 a1 : AObj} (lo : Low a0 a1) (dep : Nat) (hdep : dep < 100) (nested8 : ∀ (m1 : M) (k : Int), Ok3 dep m1 → Spec 168 [I k, I dep] (H8 a0 a1) m1 (NestPost dep m1)) (m : M) (nn : Nat) (hnn : nn < 1000) (ok : Ok3 dep m) :
    Spec 129 [I nn, I dep] (H8 a0 a1) m (StmtsPost dep m) := by
  have h0 := ok.h0; have s0 := ok.s0; have dn0 := ok.dn0; have dn1 := ok.dn1; have l0 := ok.l0; have l1 := ok.l1; have b1 := ok.b1; have b2 := ok.b2
  refine Spec.intro 8 (H8_len a0 a1) (by omega) (H8_kill lo) rfl (fun r m' ⟨v, h, _⟩ => by rw [h]; simp (dsimp := false) only [go_sem]) ?_
  obtain ⟨N, hN⟩ : ∃ N, N = 10000 := ⟨_, rfl⟩
  refine Tryz.w129 N ?_
  simp (maxSteps := 9999999) (dsimp := false) (disch := omega) only [go_sem, wrap64, Tryz.c129, Tryz.a129r0, Tryz.a129r1, Tryz.a129r2, H8]
  refine loop_rule (fun k st => ∃ (i : Nat) (l : List S) (t s dn lf : Int), i + k = nn ∧ WfL (cxOf m) m.p.heads (dep + 1) l ∧ Inc m.site s (sitesL l) ∧ (nC l : Int) ≤ m.left - lf ∧ m.at_ ≤ t ∧ t ≤ m.at_ + 300 * (m.left - lf) ∧ m.site ≤ s ∧ s ≤ m.site + 4 * (m.left - lf) ∧ 0 ≤ dn ∧ dn ≤ 2 ∧ 0 ≤ lf ∧ lf ≤ m.left ∧
    st = ⟨tm 53 [(0, .hp 5 29 0 0), (1, I nn), (2, I dep), (7, .fs 20 (l.map encS) (some 8)), (8, I i)], stHeap a0 a1 { m with at_ := t, site := s, done := dn, left := lf } l⟩) ?_ (m := nn) (by omega)
    ⟨0, [], m.at_, m.site, m.done, m.left, by omega, WfL.nil, .nil (by omega), by rw [nC_nil]; omega, by omega, by omega, by omega, by omega, dn0, dn1, l0, by omega, by simp (maxSteps := 9999999) (dsimp := false) (disch := omega) only [go_sem, lo.k0, lo.k1, stHeap, Int.ofNat_zero] <;> rfl⟩
  rintro k st rec ⟨i, l, t, s, dn, lf, hk, hw, hi, hnc, ta, tb, sa, sb, da, db, la, lb, he⟩ hrec
  rw [he]
  have hlen := hi.length
  have hll := sites_len l
  simp (maxSteps := 9999999) (dsimp := false) (disch := omega) only [go_sem, Tryz.a129l11, Tryz.a129r3, stHeap]
  by_cases hin : i < nn
  · by_cases hlf : lf > 0
    · simp (maxSteps := 9999999) (dsimp := false) (disch := omega) only [go_sem, dec_t, dec_f, Tryz.a129r4, Tryz.a129r5, stHeap, wrap64]
      refine next8 lo { m with at_ := t, site := s, done := dn, left := lf - 1 } _ (by omega) (by simp only; omega) (by simp only; omega) [_] _ ?_
      rintro _ _ ⟨q, rfl, qa, qb, rfl⟩
      simp (maxSteps := 9999999) (dsimp := false) (disch := omega) only [go_sem, H8, dec_t, dec_f, Tryz.a129r6, stHeap, wrap64]
      refine nested8 { m with at_ := t + 1, site := s, done := dn, left := lf - 1 } q (ok.toOk2.step dep (t + 1) s dn (lf - 1) m.loop (by omega) (by omega) da db (by omega) (by omega) ok.lp0 ok.lp1 (by omega) (by omega)) [_] _ ?_
      rintro _ _ ⟨x, b, rfl, hb, t2, z, dn2, lf2, ta2, tb2, za, zb, da2, db2, la2, lb2, rfl, hbz⟩
      simp only at ta2 tb2 za zb la2 lb2 hbz hb
      cases b with
      | true =>
        obtain ⟨hb1, hb2, hb3, hb4, hb5⟩ := hb rfl
        simp (maxSteps := 9999999) (dsimp := false) (disch := omega) only [go_sem, H8, dec_t, dec_f, Tryz.a129r7, Tryz.a129r8, Tryz.a129r10, wrap64, appLim]
        exact hrec (k - 1) _ (by omega) ⟨i + 1, l ++ [x], t2, z, dn2, lf2, by omega, hw.append (fun y hy => by simp only [List.mem_singleton] at hy; subst hy; exact ⟨hb1, hb2, hb3⟩), by rw [sitesL_append]; exact hi.append hb4, by rw [nC_append]; omega, by omega, by omega, by omega, by omega, da2, db2, by omega, by omega,
          by simp (maxSteps := 9999999) (dsimp := false) (disch := omega) only [go_sem, lo.k0, lo.k1, stHeap, List.map_append, Int.natCast_add, Int.cast_ofNat_Int] <;> rfl⟩
      | false =>
        have hz := hbz rfl
        subst hz
        simp (maxSteps := 9999999) (dsimp := false) (disch := omega) only [go_sem, H8, dec_t, dec_f, Tryz.a129r7, Tryz.a129r9, wrap64]
        refine other8 lo { m with at_ := t2, site := z, done := dn2, left := lf2 } q dep (ok.toOk2.step dep t2 z dn2 lf2 m.loop (by omega) (by omega) da2 db2 (by omega) (by omega) ok.lp0 ok.lp1 (by omega) (by omega)).toOk2 [_, _] _ ?_
        rintro _ _ ⟨l2, rfl, hw2, hi2, hn2, t3, s3, dn3, ta3, tb3, sa3, sb3, da3, db3, rfl⟩
        simp only at ta3 tb3 sa3 sb3
        have hl2 := hi2.length
        have hll2 := sites_len l2
        simp only at hl2
        simp (maxSteps := 9999999) (dsimp := false) (disch := omega) only [go_sem, H8, dec_t, dec_f, Tryz.a129r10, wrap64, appLim]
        exact hrec (k - 1) _ (by omega) ⟨i + 1, l ++ l2, t3, s3, dn3, lf2, by omega, hw.append (hw2.le (by omega)), by rw [sitesL_append]; exact hi.append hi2, by rw [nC_append]; omega, by omega, by omega, by omega, by omega, da3, db3, by omega, by omega,
          by simp (maxSteps := 9999999) (dsimp := false) (disch := omega) only [go_sem, lo.k0, lo.k1, stHeap, List.map_append, Int.natCast_add, Int.cast_ofNat_Int] <;> rfl⟩
    · simp (maxSteps := 9999999) (dsimp := false) (disch := omega) only [go_sem, dec_t, dec_f, Tryz.a129r12, stHeap, lo.k0, lo.k1]
      exact ⟨_, { m with at_ := t, site := s, done := dn, left := lf }, ⟨l, rfl, hw, hi, hnc, t, s, dn, lf, ta, tb, sa, sb, da, db, la, lb, rfl⟩, .refl _, .refl _⟩
  · simp (maxSteps := 9999999) (dsimp := false) (disch := omega) only [go_sem, dec_t, dec_f, Tryz.a129r12, stHeap, lo.k0, lo.k1]
    exact ⟨_, { m with at_ := t, site := s, done := dn, left := lf }, ⟨l, rfl, hw, hi, hnc, t, s, dn, lf, ta, tb, sa, sb, da, db, la, lb, rfl⟩, .refl _, .refl _⟩
end Go.Par
