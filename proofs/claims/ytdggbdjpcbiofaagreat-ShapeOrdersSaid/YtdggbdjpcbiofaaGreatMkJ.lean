/- The maker's definitions, whole. -/
import Derived.Test.YtdggbdjpcbiofaaGreatMkI
set_option linter.unusedSimpArgs false
set_option linter.unusedVariables false
set_option maxHeartbeats 8000000
set_option maxRecDepth 100000
namespace Go.Par
open Go.Ai Go.Proofs

/-- The state when a definition was begun. -/
def encM0 (x : M) : AVal := .agg (AVal.fs 1 (x.l.map fun b => AVal.int .u8 (b.toNat : Int)) none :: AVal.int .i64 x.at_ :: (cellsDc x.p.d ++
  (AVal.fs 5 (x.p.heads.map encHd) (some 2) :: AVal.fs 12 (x.p.defs.map encD) (some 3) :: AVal.fs 1 (x.p.threads.map (AVal.int .i64)) (some 4) ::
  AVal.int .i64 x.d.id :: AVal.int .i64 x.d.site :: AVal.str x.d.name :: AVal.int .i64 x.d.firm :: AVal.int .i64 x.d.part :: AVal.fs 3 [] (some 6) :: .nils :: AVal.int .i64 x.d.vars :: AVal.int .i64 x.d.refs :: .nils :: AVal.int .i64 x.d.budget :: .nils ::
  AVal.int .i64 x.site :: AVal.int .i64 x.left :: AVal.int .i64 x.loop :: AVal.int .i64 x.done :: [AVal.bool x.calm])))
@[go_sem] theorem putM_d0 {fail : Prop} {x : M} {a b d e f g h : Int} {c : ByteArray} {K : AVal → Prop} : putPart fail 12 (encM none none x) 12 (.agg [.int .i64 a, .int .i64 b, .str c, .int .i64 d, .int .i64 e, .fs 3 [] (some 6), .nils, .int .i64 f, .int .i64 g, .nils, .int .i64 h, .nils]) K =
    K (encM0 { x with d := ⟨a, b, c, d, e, [], [], f, g, [], h, []⟩ }) := by rw [encM_eq, putPart_agg]; rfl
theorem sub_M0 {x : M} (h1 : x.d.params = []) (h2 : x.d.given = []) (h3 : x.d.arrays = []) (h4 : x.d.body = []) : Ai.Sub (encM0 x) (encM (some 6) none x) := by
  rw [encM_eq, encM0, cellsM, h1, h2, h3, h4]
  simp only [cellsDc, List.cons_append, List.nil_append, List.map_nil]
  exact SubC.sub (by repeat constructor)
theorem next70 {a0 a1 : AObj} (lo : Low a0 a1) (m : M) (k : Int) (hk : 1 ≤ k) (h0 : 0 ≤ m.at_) (h1 : m.at_ < 4611686018427387904) (e1 : m.d.params = []) (e2 : m.d.given = []) (e3 : m.d.arrays = []) (e4 : m.d.body = []) (K : AVal → List AObj → Prop)
    (hK : ∀ r m', NextPost m k r m' → K r (H7 a0 a1 m')) : Hs Tryz.prog Tryz.eqs (.func 85 [] []) [.hp 5 29 0 0, I k] [a0, a1, .tok 5 m.p.heads.length, .tok 12 m.p.defs.length, .tok 1 m.p.threads.length, .rows 29 [encM0 m], .tok 3 0] K := by
  refine Hs.weaken (heap' := H7 a0 a1 m) (g' := .func 85 [] []) (args' := [.hp 5 29 0 0, I k]) ((next7 lo m k hk h0 h1) [] _ hK) (.refl _) (.refl _) ?_ (fun v h' h => ⟨v, h', .refl _, .refl _, h⟩) (fun l h => h)
  rw [H7, e1]
  exact .cons (.refl _) (.cons (.refl _) (.cons (.refl _) (.cons (.refl _) (.cons (.refl _) (.cons (.rows (.cons (sub_M0 e1 e2 e3 e4) .nil)) (.cons (.refl _) .nil))))))

/-- The ranges of parameters. -/
def ranges4 : List Rg := [⟨0, 3, 0⟩, ⟨-2, 5, 1⟩, ⟨0, 9, 3⟩, ⟨2, 2, 0⟩]

/-- From the parameters on. -/
theorem def_a {N : Nat} (hN : 10 ≤ N) {a0 a1 : AObj} (lo : Low a0 a1) (i : Int) (th : Bool) (m : M) (t : Int) (dd : D) (ok : OkD m) (t0 : m.at_ ≤ t) (t1 : t ≤ m.at_ + 10)
    (hg : dd.given = []) (hp : dd.params = [])
    (hd : dd.id = i ∧ dd.name = nameOf i ∧ 0 ≤ dd.firm ∧ dd.firm ≤ 1 ∧ 0 ≤ dd.part ∧ dd.part ≤ 2 ∧ 1 ≤ dd.budget ∧ dd.budget ≤ 20000)
    {x1 x3 x4 x5 x6 x7 x8 x9 x10 x11 x12 x13 x14 x15 x16 x17 x18 x19 x20 x21 x22 x23 x24 x25 x26 x27 x28 x29 x30 x31 x32 x33 x34 x35 x36 x37 x38 x39 x40 x41 x42 x43 x44 x45 x46 x47 x48 x49 x50 x51 x52 x53 x54 x55 x56 x57 x58 x59 x60 x61 x62 x63 x64 x65 x66 x67 x68 x69 x70 x71 x72 x73 x74 x75 x76 x77 x78 x79 x80 x81 x82 x83 x84 x85 x86 x87 x88 x89 x90 x91 x92 x93 x94 x95 x96 x97 x98 x99 x100 x101 x102 x103 x104 x105 x106 x107 x108 x109 x110 x111 x112 x113 x114 x115 x116 x117 x118 x119 x120 x121 x122 x123 x124 x125 x126 x127 x128 x129 x130 x131 x132 x133 x134 x135 x136 x137 x138 x139 x140 x141 x142 x143 x144 x145 x146 x147 x148 x149 x150 x151 x152 x153 x154 x155 x156 x157 x158 x159 x160 x161 x162 x163 x164 x165 x166 x167 x168 x169 x170 x171 x172 x173 x174 x175 x176 x177 x178 x179 x180 x181 x182 x183 x184 x185 x186 x187 x188 x189 x190 x191 x192 x193 x194 x195 x196 x197 x198 x199 x200 x201 x202 x203 x204 x205 x206 x207 x208 x209 x210 x211 x212 x213 x214 x215 : AVal} :
    Ex (cfg Tryz.prog Tryz.eqs N) (.seq (.seq (Tryz.a86r3) (.cond (.t 40) (Tryz.a86r4) (.skip))) (.seq (Tryz.a86r5) (.seq (.seq (Tryz.a86r6) (.block 0 (.loop [0, 2, 6, 7] Tryz.a86l10))) (.seq (.seq (Tryz.a86r11) (.cond (.t 82) (Tryz.a86r12) (.skip))) (.seq (Tryz.a86r13) (.seq (Tryz.a86r14) (.seq (Tryz.a86r15) (.seq (.seq (Tryz.a86r16) (.cond (.t 124) (Tryz.a86r17) (.skip))) (.seq (Tryz.a86r18) (.seq (Tryz.a86r19) (.seq (Tryz.a86r20) (.seq (.seq (Tryz.a86r21) (.cond (.t 164) (Tryz.a86r22) (.skip))) (.seq (Tryz.a86r23) (.seq (Tryz.a86r24) (Tryz.a86r25)))))))))))))))
      ⟨(.hp 5 29 0 0 :: x1 :: .bool th :: x3 :: x4 :: x5 :: x6 :: x7 :: x8 :: x9 :: x10 :: x11 :: x12 :: x13 :: x14 :: x15 :: x16 :: x17 :: x18 :: x19 :: x20 :: x21 :: x22 :: x23 :: x24 :: x25 :: x26 :: x27 :: x28 :: x29 :: x30 :: x31 :: x32 :: x33 :: x34 :: x35 :: x36 :: x37 :: x38 :: x39 :: x40 :: x41 :: x42 :: x43 :: x44 :: x45 :: x46 :: x47 :: x48 :: x49 :: x50 :: x51 :: x52 :: x53 :: x54 :: x55 :: x56 :: x57 :: x58 :: x59 :: x60 :: x61 :: x62 :: x63 :: x64 :: x65 :: x66 :: x67 :: x68 :: x69 :: x70 :: x71 :: x72 :: x73 :: x74 :: x75 :: x76 :: x77 :: x78 :: x79 :: x80 :: x81 :: x82 :: x83 :: x84 :: x85 :: x86 :: x87 :: x88 :: x89 :: x90 :: x91 :: x92 :: x93 :: x94 :: x95 :: x96 :: x97 :: x98 :: x99 :: x100 :: x101 :: x102 :: x103 :: x104 :: x105 :: x106 :: x107 :: x108 :: x109 :: x110 :: x111 :: x112 :: x113 :: x114 :: x115 :: x116 :: x117 :: x118 :: x119 :: x120 :: x121 :: x122 :: x123 :: x124 :: x125 :: x126 :: x127 :: x128 :: x129 :: x130 :: x131 :: x132 :: x133 :: x134 :: x135 :: x136 :: x137 :: x138 :: x139 :: x140 :: x141 :: x142 :: x143 :: x144 :: x145 :: x146 :: x147 :: x148 :: x149 :: x150 :: x151 :: x152 :: x153 :: x154 :: x155 :: x156 :: x157 :: x158 :: x159 :: x160 :: x161 :: x162 :: x163 :: x164 :: x165 :: x166 :: x167 :: x168 :: x169 :: x170 :: x171 :: x172 :: x173 :: x174 :: x175 :: x176 :: x177 :: x178 :: x179 :: x180 :: x181 :: x182 :: x183 :: x184 :: x185 :: x186 :: x187 :: x188 :: x189 :: x190 :: x191 :: x192 :: x193 :: x194 :: x195 :: x196 :: x197 :: x198 :: x199 :: x200 :: x201 :: x202 :: x203 :: x204 :: x205 :: x206 :: x207 :: x208 :: x209 :: x210 :: x211 :: x212 :: x213 :: x214 :: x215 :: []), H7 a0 a1 { m with at_ := t, d := dd }⟩ (kfun (cfg Tryz.prog Tryz.eqs N) [] false 6 fun v h => ∃ r m', DefPost i th m r m' ∧ Ai.Sub v r ∧ SubH h (H6 a0 a1 m')) := by
  have h0 := ok.h0; have h1 := ok.h1; have s0 := ok.s0; have s1 := ok.s1; have hc := ok.calm; have hl := ok.hl; have dl := ok.dl; have hlp := ok.loop
  simp (maxSteps := 9999999) (dsimp := false) (disch := omega) only [go_sem, Tryz.a86r3, H7, wrap64, dec_t, dec_f]
  refine go_right hc ?_
  simp (maxSteps := 9999999) (dsimp := false) (disch := omega) only [go_sem, Tryz.a86r5, Tryz.a86r6, wrap64, dec_t, dec_f]
  refine next7 lo { m with at_ := t, d := dd } _ (by omega) (by simp only; omega) (by simp only; omega) [] _ ?_
  rintro _ _ ⟨n0, rfl, na, nb, rfl⟩
  simp (maxSteps := 9999999) (dsimp := false) (disch := omega) only [go_sem, H7]
  refine loop_rule (fun mm st => ∃ (n u : Int) (ps : List Rg), (mm : Int) = n + 1 ∧ 0 ≤ n ∧ (ps.length : Int) + n ≤ 2 ∧ t ≤ u ∧ u ≤ t + 1 + ps.length ∧ (∀ r ∈ ps, RgOk r) ∧ (th = true → ps = []) ∧
    st = ⟨tm 216 [(0, .hp 5 29 0 0), (2, .bool th), (6, .fs 3 (ranges4.map encRg) none), (7, I n)], H7 a0 a1 { m with at_ := u, d := { dd with params := ps } }⟩) ?_ (m := n0.toNat + 1) (by omega)
    ⟨n0, t + 1, [], by omega, by omega, by simp; omega, by omega, by simp, (fun r h => by cases h), (fun _ => rfl), by
      simp only [← hp]
      simp (maxSteps := 9999999) (dsimp := false) (disch := omega) only [go_sem, lo.k0, lo.k1, H7] <;> rfl⟩
  rintro mm st rec ⟨n, u, ps, hn, n0', hpn, u0, u1, hps, hth, he⟩ hrec
  rw [he]
  cases th with
  | true =>
    have hps0 := hth rfl
    by_cases hn0 : n > 0
    · simp (maxSteps := 9999999) (dsimp := false) (disch := omega) only [go_sem, Tryz.a86l10, Tryz.a86r7, H7, hn0, dec_t, dec_f]
      rw [← exec_seq, ← exec_seq]
      exact def_b lo i true m u { dd with params := ps } ok (by omega) (by omega) hg (fun _ => hps0) (by simp only; omega) hps hd
    · simp (maxSteps := 9999999) (dsimp := false) (disch := omega) only [go_sem, Tryz.a86l10, Tryz.a86r7, H7, hn0, dec_t, dec_f]
      rw [← exec_seq, ← exec_seq]
      exact def_b lo i true m u { dd with params := ps } ok (by omega) (by omega) hg (fun _ => hps0) (by simp only; omega) hps hd
  | false =>
    by_cases hn0 : n > 0
    · simp (maxSteps := 9999999) (dsimp := false) (disch := omega) only [go_sem, Tryz.a86l10, Tryz.a86r7, Tryz.a86r8, H7, hn0, dec_t, dec_f]
      refine next7 lo { m with at_ := u, d := { dd with params := ps } } _ (by omega) (by simp only; omega) (by simp only; omega) [] _ ?_
      rintro _ _ ⟨k, rfl, ka, kb, rfl⟩
      obtain ⟨r, hr, hr1⟩ : ∃ r, ranges4[k.toNat]? = some r ∧ RgOk r := by
        obtain rfl | rfl | rfl | rfl : k = 0 ∨ k = 1 ∨ k = 2 ∨ k = 3 := by omega
        all_goals exact ⟨_, rfl, by simp only [RgOk]; omega⟩
      have hk4 : k.toNat < ranges4.length := by show _ < 4; omega
      simp (maxSteps := 9999999) (dsimp := false) (disch := omega) only [go_sem, H7, hr, hk4, inB, dec_t, dec_f, appLim, Tryz.a86r9, wrap64]
      exact hrec (mm - 1) _ (by omega) ⟨n - 1, u + 1, ps ++ [r], by omega, by omega, by simp; omega, by omega, by simp; omega, (fun x hx => by rcases List.mem_append.1 hx with h | h; exact hps x h; simp at h; subst h; exact hr1), (fun h => by cases h), by simp (maxSteps := 9999999) (dsimp := false) (disch := omega) only [go_sem, lo.k0, lo.k1, H7] <;> rfl⟩
    · simp (maxSteps := 9999999) (dsimp := false) (disch := omega) only [go_sem, Tryz.a86l10, Tryz.a86r7, H7, hn0, dec_t, dec_f]
      rw [← exec_seq, ← exec_seq]
      exact def_b lo i false m u { dd with params := ps } ok (by omega) (by omega) hg (fun h => by cases h) (by simp only; omega) hps hd

theorem def6 {a0 a1 : AObj} (lo : Low a0 a1) (i : Int) (th : Bool) (m : M) (ok : OkD m) (hi0 : 11 ≤ i) (hi1 : i ≤ 14) : Spec 86 [I i, B th] (H6 a0 a1) m (DefPost i th m) := by
  have h0 := ok.h0; have h1 := ok.h1; have s0 := ok.s0; have s1 := ok.s1; have hc := ok.calm; have hl := ok.hl; have dl := ok.dl; have hlp := ok.loop
  refine Spec.intro 6 (H6_len a0 a1) (by omega) (H6_kill lo) rfl (fun r m' ⟨h, _⟩ => by rw [h]; rfl) ?_
  obtain ⟨N, hN⟩ : ∃ N, N = 10 := ⟨_, rfl⟩
  refine Tryz.w86 N ?_
  have ei : i.tmod 8 = i - 8 := by
    obtain rfl | rfl | rfl | rfl : i = 11 ∨ i = 12 ∨ i = 13 ∨ i = 14 := by omega
    all_goals rfl
  have e1 : (i - 8).toNat ≤ (i - 8 + 1).toNat := by omega
  have e2 : (i - 8 + 1).toNat ≤ #[(97 : UInt8), 98, 99, 100, 101, 102, 103, 104].size := by
    show _ ≤ 8
    omega
  simp (maxSteps := 9999999) (dsimp := false) (disch := omega) only [go_sem, Tryz.c86, Tryz.a86r0, H6, wrap64, dec_t, dec_f, ei, e1, e2]
  refine next6 lo m _ (by omega) h0 (by omega) [] _ ?_
  rintro _ _ ⟨f, rfl, fa, fb, rfl⟩
  simp (maxSteps := 9999999) (dsimp := false) (disch := omega) only [go_sem, H6, wrap64]
  refine next6 lo { m with at_ := m.at_ + 1 } _ (by omega) (by simp only; omega) (by simp only; omega) [] _ ?_
  rintro _ _ ⟨q, rfl, qa, qb, rfl⟩
  have q1 : q.tdiv 2 = q / 2 := Int.tdiv_eq_ediv_of_nonneg qa
  have q2 : (q / 2).tmod 3 = q / 2 := by rw [Int.tmod_eq_emod_of_nonneg (by omega)]; omega
  simp (maxSteps := 9999999) (dsimp := false) (disch := omega) only [go_sem, H6, wrap64, dec_f, q1, q2]
  refine next6 lo { m with at_ := m.at_ + 1 + 1 } _ (by omega) (by simp only; omega) (by simp only; omega) [] _ ?_
  rintro _ _ ⟨b, rfl, ba, bb, rfl⟩
  obtain ⟨bud, hb0, hb1, hb2⟩ : ∃ bud, ([AVal.int .i64 400, AVal.int .i64 60, AVal.int .i64 20, AVal.int .i64 2000] : List AVal)[b.toNat]? = some (.int .i64 bud) ∧ 1 ≤ bud ∧ bud ≤ 20000 := by
    obtain rfl | rfl | rfl | rfl : b = 0 ∨ b = 1 ∨ b = 2 ∨ b = 3 := by omega
    all_goals exact ⟨_, rfl, by omega, by omega⟩
  have hb3 : b.toNat < 4 := by omega
  simp (maxSteps := 9999999) (dsimp := false) (disch := omega) only [go_sem, H6, wrap64, dec_f, dec_t, hb0, inB, Tryz.a86r1]
  refine next70 lo { m with at_ := m.at_ + 1 + 1 + 1, d := ⟨i, 0, nameOf i, f, q / 2, [], [], 0, 0, [], bud, []⟩ } _ (by omega) (by simp only; omega) (by simp only; omega) rfl rfl rfl rfl _ ?_
  rintro _ _ ⟨k, rfl, ka, kb, rfl⟩
  by_cases hk : k = 0
  · simp (maxSteps := 9999999) (dsimp := false) (disch := omega) only [go_sem, H7, wrap64, hk, Tryz.a86r2]
    rw [← exec_seq, ← exec_seq]
    exact def_a (by omega) lo i th m (m.at_ + 1 + 1 + 1 + 1) ⟨i, 0, nameOf i, f, 0, [], [], 0, 0, [], bud, []⟩ ok (by omega) (by omega) rfl rfl ⟨rfl, rfl, by simp only; omega, by simp only; omega, by simp only; omega, by simp only; omega, hb1, hb2⟩
  · simp (maxSteps := 9999999) (dsimp := false) (disch := omega) only [go_sem, H7, wrap64, dec_f, hk]
    rw [← exec_seq, ← exec_seq]
    exact def_a (by omega) lo i th m (m.at_ + 1 + 1 + 1 + 1) ⟨i, 0, nameOf i, f, q / 2, [], [], 0, 0, [], bud, []⟩ ok (by omega) (by omega) rfl rfl ⟨rfl, rfl, by simp only; omega, by simp only; omega, by simp only; omega, by simp only; omega, hb1, hb2⟩
end Go.Par
