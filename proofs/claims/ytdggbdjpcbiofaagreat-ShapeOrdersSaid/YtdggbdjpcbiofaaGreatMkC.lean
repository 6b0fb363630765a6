/- The maker's conditions and plain statements. -/
import Derived.Test.YtdggbdjpcbiofaaGreatMk
set_option linter.unusedSimpArgs false
set_option linter.unusedVariables false
set_option maxHeartbeats 4000000
namespace Go.Par
open Go.Ai Go.Proofs

theorem expr8n {a0 a1 : AObj} (lo : Low a0 a1) (dep : Nat) (k : Int) (hk : k = dep) (m : M) (h : dep < 100) (h0 : 0 ≤ m.at_) (h1 : m.at_ + cE dep < 4611686018427387904) (h2 : 1 ≤ m.d.vars) (h3 : m.d.vars < 100) (h4 : m.d.arrays.length < 100) :
    Spec 185 [I k] (H8 a0 a1) m (ExprPost (dep + 1) (cE dep) m) := by subst hk; exact expr8 lo dep m h h0 h1 h2 h3 h4

def CondPost (h : Nat) (c : Int) (m : M) (r : AVal) (m' : M) : Prop := ∃ e, r = encC e ∧ WfC m.d.vars m.d.arrays.length h e ∧ Adv c m m'

theorem cond_step {a0 a1 : AObj} (lo : Low a0 a1) (dep : Nat) (c : Int) (m : M) (hc : 0 ≤ c) (h0 : 0 ≤ m.at_) (h1 : m.at_ + (15 + 2 * c) < 4611686018427387904) (hd : dep < 100) (hv : 1 ≤ m.d.vars) (hv1 : m.d.vars < 100) (ha : m.d.arrays.length < 100)
    (rec : dep ≠ 0 → ∀ m1 : M, 0 ≤ m1.at_ → m1.at_ + c < 4611686018427387904 → m1.d = m.d → Spec 182 [I ((dep : Int) - 1)] (H8 a0 a1) m1 (CondPost dep c m1)) :
    Spec 182 [I dep] (H8 a0 a1) m (CondPost (dep + 1) (15 + 2 * c) m) := by
  refine Spec.intro 8 (H8_len a0 a1) (by omega) (H8_kill lo) rfl (fun r m' ⟨v, h, _⟩ => by rw [h]; simp (dsimp := false) only [go_sem]) ?_
  refine Tryz.w182 0 ?_
  have hE : cE 1 = 6 := rfl
  simp (maxSteps := 9999999) (dsimp := false) (disch := omega) only [go_sem, wrap64, Tryz.c182, Tryz.a182r0, Tryz.a182r1]
  simp only [H8, List.cons_append, List.nil_append]
  refine next8 lo m _ (by omega) h0 (by omega) [_] _ ?_
  rintro _ _ ⟨v, rfl, hv2, hv3, rfl⟩
  have hm3 : 0 ≤ v.tmod 3 ∧ v.tmod 3 < 3 := ⟨Int.tmod_nonneg _ (by omega), Int.tmod_lt_of_pos _ (by omega)⟩
  by_cases h6 : v < 6
  · simp (maxSteps := 9999999) (dsimp := false) (disch := omega) only [go_sem, H8, wrap64, dec_t, dec_f, h6, Tryz.a182r2, Tryz.a182r3]
    refine expr8n lo 1 _ rfl { m with at_ := m.at_ + 1 } (by omega) (by simp only; omega) (by simp only; omega) hv hv1 ha [_] _ ?_
    rintro _ _ ⟨x, rfl, hx, t, ht0, ht1, rfl⟩
    simp only at ht0 ht1
    simp (maxSteps := 9999999) (dsimp := false) (disch := omega) only [go_sem, H8, wrap64, dec_t, dec_f, Tryz.a182r4]
    refine expr8n lo 1 _ rfl { m with at_ := t } (by omega) (by simp only; omega) (by simp only; omega) hv hv1 ha [_, _] _ ?_
    rintro _ _ ⟨y, rfl, hy, t1, ht2, ht3, rfl⟩
    simp only at ht2 ht3
    simp (maxSteps := 9999999) (dsimp := false) (disch := omega) only [go_sem, H8, wrap64]
    refine testC _ _ _ _ _ ?_
    simp (maxSteps := 9999999) (dsimp := false) (disch := omega) only [go_sem, wrap64, lo.k0, lo.k1]
    exact ⟨_, { m with at_ := t1 }, ⟨.mk (2 + v.tmod 3) [x, y] [], rfl, .inl ⟨by simp only [C.op]; omega, by simp only [C.op]; omega, rfl, x, y, rfl, hx, hy⟩, t1, by omega, by omega, rfl⟩, .refl _, .refl _⟩
  by_cases hz : dep = 0
  · have hz' : ((dep : Int) = 0) := by omega
    simp (maxSteps := 9999999) (dsimp := false) (disch := omega) only [go_sem, H8, wrap64, dec_t, dec_f, h6, hz', Tryz.a182r2, Tryz.a182r3]
    refine expr8n lo 1 _ rfl { m with at_ := m.at_ + 1 } (by omega) (by simp only; omega) (by simp only; omega) hv hv1 ha [_] _ ?_
    rintro _ _ ⟨x, rfl, hx, t, ht0, ht1, rfl⟩
    simp only at ht0 ht1
    simp (maxSteps := 9999999) (dsimp := false) (disch := omega) only [go_sem, H8, wrap64, dec_t, dec_f, Tryz.a182r4]
    refine expr8n lo 1 _ rfl { m with at_ := t } (by omega) (by simp only; omega) (by simp only; omega) hv hv1 ha [_, _] _ ?_
    rintro _ _ ⟨y, rfl, hy, t1, ht2, ht3, rfl⟩
    simp only at ht2 ht3
    simp (maxSteps := 9999999) (dsimp := false) (disch := omega) only [go_sem, H8, wrap64]
    refine testC _ _ _ _ _ ?_
    simp (maxSteps := 9999999) (dsimp := false) (disch := omega) only [go_sem, wrap64, lo.k0, lo.k1]
    exact ⟨_, { m with at_ := t1 }, ⟨.mk (2 + v.tmod 3) [x, y] [], rfl, .inl ⟨by simp only [C.op]; omega, by simp only [C.op]; omega, rfl, x, y, rfl, hx, hy⟩, t1, by omega, by omega, rfl⟩, .refl _, .refl _⟩
  have hz' : ¬ ((dep : Int) = 0) := by omega
  simp (maxSteps := 9999999) (dsimp := false) (disch := omega) only [go_sem, H8, wrap64, dec_t, dec_f, h6, hz', Tryz.a182r2, Tryz.a182r5]
  by_cases h7 : v = 6
  · simp (maxSteps := 9999999) (dsimp := false) (disch := omega) only [go_sem, H8, wrap64, h7, Tryz.a182r6]
    refine rec hz { m with at_ := m.at_ + 1 } (by simp only; omega) (by simp only; omega) rfl [_] _ ?_
    rintro _ _ ⟨x, rfl, hx, t, ht0, ht1, rfl⟩
    simp only at ht0 ht1
    simp (maxSteps := 9999999) (dsimp := false) (disch := omega) only [go_sem, H8, wrap64]
    refine notC _ _ _ ?_
    simp (maxSteps := 9999999) (dsimp := false) (disch := omega) only [go_sem, wrap64, lo.k0, lo.k1]
    exact ⟨_, { m with at_ := t }, ⟨.mk 5 [] [x], rfl, .inr (.inl ⟨rfl, rfl, x, rfl, hx⟩), t, by omega, by omega, rfl⟩, .refl _, .refl _⟩
  simp (maxSteps := 9999999) (dsimp := false) (disch := omega) only [go_sem, H8, wrap64, h7, Tryz.a182r7]
  refine rec hz { m with at_ := m.at_ + 1 } (by simp only; omega) (by simp only; omega) rfl [_] _ ?_
  rintro _ _ ⟨x, rfl, hx, t, ht0, ht1, rfl⟩
  simp only at ht0 ht1
  simp (maxSteps := 9999999) (dsimp := false) (disch := omega) only [go_sem, H8, wrap64, Tryz.a182r8]
  refine next8 lo { m with at_ := t } _ (by omega) (by simp only; omega) (by simp only; omega) [_, _] _ ?_
  rintro _ _ ⟨u, rfl, hu0, hu1, rfl⟩
  simp (maxSteps := 9999999) (dsimp := false) (disch := omega) only [go_sem, H8, wrap64]
  refine rec hz { m with at_ := t + 1 } (by simp only; omega) (by simp only; omega) rfl [_, _] _ ?_
  rintro _ _ ⟨y, rfl, hy, t1, ht2, ht3, rfl⟩
  simp only at ht2 ht3
  simp (maxSteps := 9999999) (dsimp := false) (disch := omega) only [go_sem, H8, wrap64, lo.k0, lo.k1]
  refine ⟨_, { m with at_ := t1 }, ⟨.mk (6 + u) [] [x, y], rfl, .inr (.inr ⟨by simp only [C.op]; omega, by simp only [C.op]; omega, rfl, x, y, rfl, hx, hy⟩), t1, by omega, by omega, rfl⟩, ?_, .refl _⟩
  rw [encC_eq (.mk (6 + u) [] [x, y])]
  exact SubC.sub (by repeat constructor)

def cC : Nat → Int
  | 0 => 15
  | d + 1 => 15 + 2 * cC d
theorem cC_pos : ∀ d, 0 ≤ cC d
  | 0 => by simp [cC]
  | d + 1 => by have := cC_pos d; simp only [cC]; omega

theorem cond8 {a0 a1 : AObj} (lo : Low a0 a1) : ∀ (dep : Nat) (k : Int) (hk : k = dep) (m : M), dep < 100 → 0 ≤ m.at_ → m.at_ + cC dep < 4611686018427387904 → 1 ≤ m.d.vars → m.d.vars < 100 → m.d.arrays.length < 100 →
    Spec 182 [I k] (H8 a0 a1) m (CondPost (dep + 1) (cC dep) m) := by
  intro dep
  induction dep with
  | zero =>
    intro k hk m hd h0 h1 hv hv1 ha
    subst hk
    exact cond_step lo 0 0 m (by omega) h0 (by simp only [cC] at h1; omega) hd hv hv1 ha fun h => absurd rfl h
  | succ dep ih =>
    intro k hk m hd h0 h1 hv hv1 ha
    subst hk
    have hc := cC_pos dep
    simp only [cC] at h1
    exact cond_step lo (dep + 1) (cC dep) m (by omega) h0 (by omega) hd hv hv1 ha fun _ m1 k0 k1 k2 =>
      ih _ (by omega) m1 (by omega) k0 k1 (by rw [k2]; exact hv) (by rw [k2]; exact hv1) (by rw [k2]; exact ha)
end Go.Par
