/- The maker's definitions: how they are stored; their heads. -/
import Derived.Test.YtdggbdjpcbiofaaGreatMkH
import Derived.Test.YtdggbdjpcbiofaaGreatAiRound
set_option linter.unusedSimpArgs false
set_option linter.unusedVariables false
set_option maxHeartbeats 8000000
set_option maxRecDepth 100000
namespace Go.Par
open Go.Ai Go.Proofs

/-- A definition in the maker's state, with the tokens of what grows. -/
def encDt (pt at_ : Option Nat) (d : D) : AVal := .agg [.int .i64 d.id, .int .i64 d.site, .str d.name, .int .i64 d.firm, .int .i64 d.part, .fs 3 (d.params.map encRg) pt, .fs 3 (d.given.map encRg) none, .int .i64 d.vars, .int .i64 d.refs, .fs 2 (d.arrays.map encAr) at_, .int .i64 d.budget, .fs 20 (d.body.map encS) none]
section
variable {fail : Prop} {pt at_ : Option Nat}
@[go_sem] theorem getD_M {x : M} {K : AVal → Prop} : partOf fail true 12 (encM pt at_ x) 12 K = K (encDt pt at_ x.d) := by rw [encM_eq]; rfl
@[go_sem] theorem stor_Dt {d : D} : storable (encDt pt at_ d) = true := rfl
@[go_sem] theorem cells_Dt {d : D} : (encDt pt at_ d).cells.length = 12 := rfl
@[go_sem] theorem kill_Dt {d : D} : killA 0 (encDt (some 6) (some 7) d) = encD d := by
  rw [encDt, encD_eq, cellsD]
  simp only [go_sem]
theorem sub_Dt {d : D} : Ai.Sub (encDt (some 6) (some 7) d) (encD d) := by
  rw [encDt, encD_eq, cellsD]
  exact SubC.sub (by repeat constructor)
@[go_sem] theorem putMd_params {x : M} {l : List Rg} {r : Rg} {K : AVal → Prop} : putPart fail 1 (encM (some 6) at_ x) 17 (.fs 3 (l.map encRg ++ [encRg r]) (some 6)) K = K (encM (some 6) at_ { x with d := { x.d with params := l ++ [r] } }) := by
  rw [encM_eq, putPart_agg]; simp only [encM_eq, cellsM, List.map_append, List.map_cons, List.map_nil]; rfl
@[go_sem] theorem putMd_given {x : M} {a b c : Int} {K : AVal → Prop} : putPart fail 1 (encM pt at_ x) 18 (.fs 3 [.agg [.int .i64 a, .int .i64 b, .int .i64 c]] none) K = K (encM pt at_ { x with d := { x.d with given := [⟨a, b, c⟩] } }) := by rw [encM_eq, putPart_agg]; rfl
@[go_sem] theorem putMd_arrays {x : M} {a b : Int} {K : AVal → Prop} : putPart fail 1 (encM pt at_ x) 21 (.fs 2 [.agg [.int .i64 a, .int .i64 b]] (some 7)) K = K (encM pt (some 7) { x with d := { x.d with arrays := [⟨a, b⟩] } }) := by rw [encM_eq, putPart_agg]; rfl
@[go_sem] theorem putMd_arrays2 {x : M} {r : Ar} {a b : Int} {K : AVal → Prop} : putPart fail 1 (encM pt at_ x) 21 (.fs 2 [encAr r, .agg [.int .i64 a, .int .i64 b]] (some 7)) K = K (encM pt (some 7) { x with d := { x.d with arrays := [r, ⟨a, b⟩] } }) := by rw [encM_eq, putPart_agg]; rfl
@[go_sem] theorem putMd_body {x : M} {l : List S} {K : AVal → Prop} : putPart fail 1 (encM pt at_ x) 23 (.fs 20 (l.map encS) none) K = K (encM pt at_ { x with d := { x.d with body := l } }) := by rw [encM_eq, putPart_agg]; rfl
@[go_sem] theorem putM_defs {x : M} {l : List D} {d : D} {K : AVal → Prop} : putPart fail 1 (encM pt at_ x) 10 (.fs 12 (l.map encD ++ [encD d]) (some 3)) K = K (encM pt at_ { x with p := { x.p with defs := l ++ [d] } }) := by
  rw [encM_eq, putPart_agg]; simp only [encM_eq, cellsM, List.map_append, List.map_cons, List.map_nil]; rfl
@[go_sem] theorem putM_heads {x : M} {l : List Hd} {d : Hd} {K : AVal → Prop} : putPart fail 1 (encM pt at_ x) 9 (.fs 5 (l.map encHd ++ [encHd d]) (some 2)) K = K (encM pt at_ { x with p := { x.p with heads := l ++ [d] } }) := by
  rw [encM_eq, putPart_agg]; simp only [encM_eq, cellsM, List.map_append, List.map_cons, List.map_nil]; rfl
@[go_sem] theorem killM68 (m : M) : killA 6 (encM (some 6) (some 7) m) = encM none none m := rfl
end

def headOf (d : D) : Hd := ⟨d.id, d.firm, d.part, d.params, d.given⟩

theorem head_walk (d : D) : F 42 [encD d] (encHd (headOf d)) := by
  refine Fun.of_empty rfl (by simp (maxSteps := 9999999) (dsimp := false) (disch := omega) only [go_sem]) (Tryz.w42 0 ?_)
  simp (maxSteps := 9999999) (dsimp := false) (disch := omega) only [go_sem, Tryz.c42, Tryz.a42r0, Tryz.a42r1]
  rw [encHd_eq, cellsHd]
  exact SubC.sub (by repeat constructor)
theorem head_walk' (d : D) : F 42 [encDt (some 6) (some 7) d] (encHd (headOf d)) :=
  (head_walk d).sub (.cons sub_Dt .nil) (.refl _) (fun l h => by cases h)

/-- A range that is right. -/
def RgOk (r : Rg) : Prop := -2147483648 ≤ r.lo ∧ r.lo ≤ r.hi ∧ r.hi ≤ 2147483647 ∧ 0 ≤ r.mask ∧ r.mask ≤ 255

def cxD (dc : Dc) (d : D) : Cx := ⟨d.params.length, d.vars, d.refs, d.arrays.length, dc.globals.length, dc.classes.length, dc.queues.length, dc.sinks.length, dc.locks, dc.parts⟩

def nameOf (id : Int) : ByteArray := (ByteArray.mk #[97, 98, 99, 100, 101, 102, 103, 104]).extract (id - 8).toNat (id - 8 + 1).toNat

/-- What a definition is like that was made; 's' is the last site ahead of it. -/
structure DefOk (hs : List Hd) (dc : Dc) (i : Int) (th : Bool) (s : Int) (d : D) : Prop where
  id : d.id = i
  name : d.name = nameOf i
  firm0 : 0 ≤ d.firm
  firm1 : d.firm ≤ 1
  part0 : 0 ≤ d.part
  part1 : d.part ≤ 2
  pl : d.params.length ≤ 2
  params : ∀ r ∈ d.params, RgOk r
  gl : d.given.length ≤ 1
  given : ∀ r ∈ d.given, RgOk r
  thread : th = true → d.params = [] ∧ d.given = []
  vars0 : (d.params.length : Int) + 2 ≤ d.vars
  vars1 : d.vars ≤ d.params.length + 3
  refs : d.refs = 2
  al0 : 1 ≤ d.arrays.length
  al1 : d.arrays.length ≤ 2
  arrays : ∀ a ∈ d.arrays, 1 ≤ a.len ∧ a.len ≤ 64 ∧ 0 ≤ a.of ∧ a.of ≤ d.params.length
  budget0 : 1 ≤ d.budget
  budget1 : d.budget ≤ 20000
  body : WfL (cxD dc d) hs 3 d.body
  sites : Inc s d.site (sitesL d.body ++ [d.site])
  len : d.site ≤ s + 40
  calls : nC d.body ≤ 9

structure OkD (m : M) : Prop where
  h0 : 0 ≤ m.at_
  h1 : m.at_ < 1000000000
  s0 : 0 ≤ m.site
  s1 : m.site < 1000000
  glob : m.p.d.globals.length = 2
  cls : m.p.d.classes.length = 2
  que : m.p.d.queues.length = 1
  snk : m.p.d.sinks.length = 3
  locks : m.p.d.locks = 3
  parts : m.p.d.parts = 3
  calm : m.calm = false
  hl : m.p.heads.length < 90
  dl : m.p.defs.length < 90
  hs : ∀ h ∈ m.p.heads, 1 ≤ h.id ∧ h.id ≤ 1073741824 ∧ h.params.length ≤ 12 ∧ h.given.length ≤ 4
  loop : m.loop = 0

def DefPost (id : Int) (th : Bool) (m : M) (r : AVal) (m' : M) : Prop := r = .tuple [] ∧ ∃ d t dn lf, DefOk m.p.heads m.p.d id th m.site d ∧ m.at_ ≤ t ∧ t ≤ m.at_ + 100000 ∧
  m' = { m with at_ := t, d := d, site := d.site, done := dn, left := lf, p := { m.p with heads := m.p.heads ++ [headOf d], defs := m.p.defs ++ [d] } }

/-- From the statements on. -/
theorem def_c {N : Nat} {a0 a1 : AObj} (lo : Low a0 a1) (i : Int) (th : Bool) (m : M) (t : Int) (dd : D) (ok : OkD m) (t0 : m.at_ ≤ t) (t1 : t ≤ m.at_ + 100)
    (hp : (dd.params.length : Int) < dd.vars) (hv : dd.vars ≤ 12) (ha0 : 1 ≤ dd.arrays.length) (ha1 : dd.arrays.length ≤ 4) (hr : dd.refs = 2)
    (hd : ∀ b s, WfL (cxD m.p.d dd) m.p.heads 3 b → Inc m.site s (sitesL b ++ [s]) → s ≤ m.site + 40 → nC b ≤ 9 → DefOk m.p.heads m.p.d i th m.site { dd with body := b, site := s })
    {x1 x2 x3 x4 x5 x6 x7 x8 x9 x10 x11 x12 x13 x14 x15 x16 x17 x18 x19 x20 x21 x22 x23 x24 x25 x26 x27 x28 x29 x30 x31 x32 x33 x34 x35 x36 x37 x38 x39 x40 x41 x42 x43 x44 x45 x46 x47 x48 x49 x50 x51 x52 x53 x54 x55 x56 x57 x58 x59 x60 x61 x62 x63 x64 x65 x66 x67 x68 x69 x70 x71 x72 x73 x74 x75 x76 x77 x78 x79 x80 x81 x82 x83 x84 x85 x86 x87 x88 x89 x90 x91 x92 x93 x94 x95 x96 x97 x98 x99 x100 x101 x102 x103 x104 x105 x106 x107 x108 x109 x110 x111 x112 x113 x114 x115 x116 x117 x118 x119 x120 x121 x122 x123 x124 x125 x126 x127 x128 x129 x130 x131 x132 x133 x134 x135 x136 x137 x138 x139 x140 x141 x142 x143 x144 x145 x146 x147 x148 x149 x150 x151 x152 x153 x154 x155 x156 x157 x158 x159 x160 x161 x162 x163 x164 x165 x166 x167 x168 x169 x170 x171 x172 x173 x174 x175 x176 x177 x178 x179 x180 x181 x182 x183 x184 x185 x186 x187 x188 x189 x190 x191 x192 x193 x194 x195 x196 x197 x198 x199 x200 x201 x202 x203 x204 x205 x206 x207 x208 x209 x210 x211 x212 x213 x214 x215 : AVal} :
    Ex (cfg Tryz.prog Tryz.eqs N) (.seq (Tryz.a86r18) (.seq (Tryz.a86r19) (.seq (Tryz.a86r20) (.seq (.seq (Tryz.a86r21) (.cond (.t 164) (Tryz.a86r22) (.skip))) (.seq (Tryz.a86r23) (.seq (Tryz.a86r24) (Tryz.a86r25)))))))
      ⟨(.hp 5 29 0 0 :: x1 :: x2 :: x3 :: x4 :: x5 :: x6 :: x7 :: x8 :: x9 :: x10 :: x11 :: x12 :: x13 :: x14 :: x15 :: x16 :: x17 :: x18 :: x19 :: x20 :: x21 :: x22 :: x23 :: x24 :: x25 :: x26 :: x27 :: x28 :: x29 :: x30 :: x31 :: x32 :: x33 :: x34 :: x35 :: x36 :: x37 :: x38 :: x39 :: x40 :: x41 :: x42 :: x43 :: x44 :: x45 :: x46 :: x47 :: x48 :: x49 :: x50 :: x51 :: x52 :: x53 :: x54 :: x55 :: x56 :: x57 :: x58 :: x59 :: x60 :: x61 :: x62 :: x63 :: x64 :: x65 :: x66 :: x67 :: x68 :: x69 :: x70 :: x71 :: x72 :: x73 :: x74 :: x75 :: x76 :: x77 :: x78 :: x79 :: x80 :: x81 :: x82 :: x83 :: x84 :: x85 :: x86 :: x87 :: x88 :: x89 :: x90 :: x91 :: x92 :: x93 :: x94 :: x95 :: x96 :: x97 :: x98 :: x99 :: x100 :: x101 :: x102 :: x103 :: x104 :: x105 :: x106 :: x107 :: x108 :: x109 :: x110 :: x111 :: x112 :: x113 :: x114 :: x115 :: x116 :: x117 :: x118 :: x119 :: x120 :: x121 :: x122 :: x123 :: x124 :: x125 :: x126 :: x127 :: x128 :: x129 :: x130 :: x131 :: x132 :: x133 :: x134 :: x135 :: x136 :: x137 :: x138 :: x139 :: x140 :: x141 :: x142 :: x143 :: x144 :: x145 :: x146 :: x147 :: x148 :: x149 :: x150 :: x151 :: x152 :: x153 :: x154 :: x155 :: x156 :: x157 :: x158 :: x159 :: x160 :: x161 :: x162 :: x163 :: x164 :: x165 :: x166 :: x167 :: x168 :: x169 :: x170 :: x171 :: x172 :: x173 :: x174 :: x175 :: x176 :: x177 :: x178 :: x179 :: x180 :: x181 :: x182 :: x183 :: x184 :: x185 :: x186 :: x187 :: x188 :: x189 :: x190 :: x191 :: x192 :: x193 :: x194 :: x195 :: x196 :: x197 :: x198 :: x199 :: x200 :: x201 :: x202 :: x203 :: x204 :: x205 :: x206 :: x207 :: x208 :: x209 :: x210 :: x211 :: x212 :: x213 :: x214 :: x215 :: []), H8 a0 a1 { m with at_ := t, d := dd }⟩ (kfun (cfg Tryz.prog Tryz.eqs N) [] false 6 fun v h => ∃ r m', DefPost i th m r m' ∧ Ai.Sub v r ∧ SubH h (H6 a0 a1 m')) := by
  have h0 := ok.h0; have h1 := ok.h1; have s0 := ok.s0; have s1 := ok.s1; have hc := ok.calm; have hl := ok.hl; have dl := ok.dl; have hlp := ok.loop
  simp (maxSteps := 9999999) (dsimp := false) (disch := omega) only [go_sem, Tryz.a86r18, Tryz.a86r19, Tryz.a86r20, H8, wrap64]
  refine next8 lo { m with at_ := t, d := dd, left := 9, done := 0 } _ (by omega) (by simp only; omega) (by simp only; omega) [] _ ?_
  rintro _ _ ⟨k, rfl, ka, kb, rfl⟩
  simp (maxSteps := 9999999) (dsimp := false) (disch := omega) only [go_sem, H8, wrap64]
  have ok3 : Ok3 2 { m with at_ := t + 1, d := dd, left := 9, done := 0 } :=
    { h0 := by simp only; omega, h1 := by simp only; omega, s0 := s0, s1 := by simp only; omega, hv := hp, hv1 := hv, ha0 := ha0, ha := ha1, refs := hr, glob := ok.glob, cls := ok.cls, que := ok.que, snk := ok.snk, locks := ok.locks, parts := ok.parts, calm := hc,
      dn0 := by simp only; omega, dn1 := by simp only; omega, hl := by simp only; omega, hs := ok.hs, l0 := by simp only; omega, l1 := by simp only; omega, lp0 := by simp only; omega, lp1 := by simp only; omega, b1 := by simp only; omega, b2 := by simp only; omega }
  refine (stmts_nested8 lo 2 (by omega)).2 { m with at_ := t + 1, d := dd, left := 9, done := 0 } _ _ (by omega) (by omega) (by rfl) ok3 [] _ ?_
  rintro _ _ ⟨l, rfl, lw, li, ln, t2, z, dn2, lf, ta, tb, za, zb, da, db, la, lb, rfl⟩
  simp only at ta tb za zb la lb li ln
  simp (maxSteps := 9999999) (dsimp := false) (disch := omega) only [go_sem, H8, wrap64, Tryz.a86r21, Tryz.a86r23, hc]
  refine site8 lo { m with at_ := t2, d := { dd with body := l }, site := z, done := dn2, left := lf, calm := false } (by simp only; omega) (by simp only; omega) [] _ ?_
  rintro _ _ ⟨rfl, rfl⟩
  simp (maxSteps := 9999999) (dsimp := false) (disch := omega) only [go_sem, H8, wrap64, Tryz.a86r24, dec_t, appLim]
  simp (maxSteps := 9999999) (dsimp := false) (disch := omega) only [go_sem, Tryz.a86r25]
  refine head_walk' _ _ _ ?_
  simp (maxSteps := 9999999) (dsimp := false) (disch := omega) only [go_sem, dec_t, appLim, lo.k0, lo.k1]
  have hll := li.length
  have hsl := sites_len l
  refine ⟨_, { m with at_ := t2, d := { dd with body := l, site := z + 1 }, site := z + 1, left := lf, done := dn2, p := { m.p with heads := m.p.heads ++ [headOf { dd with body := l, site := z + 1 }], defs := m.p.defs ++ [{ dd with body := l, site := z + 1 }] } },
    ⟨rfl, { dd with body := l, site := z + 1 }, t2, dn2, lf, hd l (z + 1) lw (li.append (Inc.one (by omega))) (by omega) (by omega), by omega, by omega, rfl⟩, .refl _, ?_⟩
  simp only [H6, hc, List.length_append, List.length_cons, List.length_nil, Nat.zero_add]
  exact .refl _

/-- From the choice of the given ranges on. -/
theorem def_b {N : Nat} {a0 a1 : AObj} (lo : Low a0 a1) (i : Int) (th : Bool) (m : M) (t : Int) (dd : D) (ok : OkD m) (t0 : m.at_ ≤ t) (t1 : t ≤ m.at_ + 20)
    (hg : dd.given = []) (ht : th = true → dd.params = []) (hpl : dd.params.length ≤ 2) (hpr : ∀ r ∈ dd.params, RgOk r)
    (hd : dd.id = i ∧ dd.name = nameOf i ∧ 0 ≤ dd.firm ∧ dd.firm ≤ 1 ∧ 0 ≤ dd.part ∧ dd.part ≤ 2 ∧ 1 ≤ dd.budget ∧ dd.budget ≤ 20000)
    {x1 x3 x4 x5 x6 x7 x8 x9 x10 x11 x12 x13 x14 x15 x16 x17 x18 x19 x20 x21 x22 x23 x24 x25 x26 x27 x28 x29 x30 x31 x32 x33 x34 x35 x36 x37 x38 x39 x40 x41 x42 x43 x44 x45 x46 x47 x48 x49 x50 x51 x52 x53 x54 x55 x56 x57 x58 x59 x60 x61 x62 x63 x64 x65 x66 x67 x68 x69 x70 x71 x72 x73 x74 x75 x76 x77 x78 x79 x80 x81 x82 x83 x84 x85 x86 x87 x88 x89 x90 x91 x92 x93 x94 x95 x96 x97 x98 x99 x100 x101 x102 x103 x104 x105 x106 x107 x108 x109 x110 x111 x112 x113 x114 x115 x116 x117 x118 x119 x120 x121 x122 x123 x124 x125 x126 x127 x128 x129 x130 x131 x132 x133 x134 x135 x136 x137 x138 x139 x140 x141 x142 x143 x144 x145 x146 x147 x148 x149 x150 x151 x152 x153 x154 x155 x156 x157 x158 x159 x160 x161 x162 x163 x164 x165 x166 x167 x168 x169 x170 x171 x172 x173 x174 x175 x176 x177 x178 x179 x180 x181 x182 x183 x184 x185 x186 x187 x188 x189 x190 x191 x192 x193 x194 x195 x196 x197 x198 x199 x200 x201 x202 x203 x204 x205 x206 x207 x208 x209 x210 x211 x212 x213 x214 x215 : AVal} :
    Ex (cfg Tryz.prog Tryz.eqs N) (.seq (.seq (Tryz.a86r11) (.cond (.t 82) (Tryz.a86r12) (.skip))) (.seq (Tryz.a86r13) (.seq (Tryz.a86r14) (.seq (Tryz.a86r15) (.seq (.seq (Tryz.a86r16) (.cond (.t 124) (Tryz.a86r17) (.skip))) (.seq (Tryz.a86r18) (.seq (Tryz.a86r19) (.seq (Tryz.a86r20) (.seq (.seq (Tryz.a86r21) (.cond (.t 164) (Tryz.a86r22) (.skip))) (.seq (Tryz.a86r23) (.seq (Tryz.a86r24) (Tryz.a86r25))))))))))))
      ⟨(.hp 5 29 0 0 :: x1 :: .bool th :: x3 :: x4 :: x5 :: x6 :: x7 :: x8 :: x9 :: x10 :: x11 :: x12 :: x13 :: x14 :: x15 :: x16 :: x17 :: x18 :: x19 :: x20 :: x21 :: x22 :: x23 :: x24 :: x25 :: x26 :: x27 :: x28 :: x29 :: x30 :: x31 :: x32 :: x33 :: x34 :: x35 :: x36 :: x37 :: x38 :: x39 :: x40 :: x41 :: x42 :: x43 :: x44 :: x45 :: x46 :: x47 :: x48 :: x49 :: x50 :: x51 :: x52 :: x53 :: x54 :: x55 :: x56 :: x57 :: x58 :: x59 :: x60 :: x61 :: x62 :: x63 :: x64 :: x65 :: x66 :: x67 :: x68 :: x69 :: x70 :: x71 :: x72 :: x73 :: x74 :: x75 :: x76 :: x77 :: x78 :: x79 :: x80 :: x81 :: x82 :: x83 :: x84 :: x85 :: x86 :: x87 :: x88 :: x89 :: x90 :: x91 :: x92 :: x93 :: x94 :: x95 :: x96 :: x97 :: x98 :: x99 :: x100 :: x101 :: x102 :: x103 :: x104 :: x105 :: x106 :: x107 :: x108 :: x109 :: x110 :: x111 :: x112 :: x113 :: x114 :: x115 :: x116 :: x117 :: x118 :: x119 :: x120 :: x121 :: x122 :: x123 :: x124 :: x125 :: x126 :: x127 :: x128 :: x129 :: x130 :: x131 :: x132 :: x133 :: x134 :: x135 :: x136 :: x137 :: x138 :: x139 :: x140 :: x141 :: x142 :: x143 :: x144 :: x145 :: x146 :: x147 :: x148 :: x149 :: x150 :: x151 :: x152 :: x153 :: x154 :: x155 :: x156 :: x157 :: x158 :: x159 :: x160 :: x161 :: x162 :: x163 :: x164 :: x165 :: x166 :: x167 :: x168 :: x169 :: x170 :: x171 :: x172 :: x173 :: x174 :: x175 :: x176 :: x177 :: x178 :: x179 :: x180 :: x181 :: x182 :: x183 :: x184 :: x185 :: x186 :: x187 :: x188 :: x189 :: x190 :: x191 :: x192 :: x193 :: x194 :: x195 :: x196 :: x197 :: x198 :: x199 :: x200 :: x201 :: x202 :: x203 :: x204 :: x205 :: x206 :: x207 :: x208 :: x209 :: x210 :: x211 :: x212 :: x213 :: x214 :: x215 :: []), H7 a0 a1 { m with at_ := t, d := dd }⟩ (kfun (cfg Tryz.prog Tryz.eqs N) [] false 6 fun v h => ∃ r m', DefPost i th m r m' ∧ Ai.Sub v r ∧ SubH h (H6 a0 a1 m')) := by
  have h0 := ok.h0; have h1 := ok.h1; have s0 := ok.s0; have s1 := ok.s1; have hc := ok.calm; have hl := ok.hl; have dl := ok.dl; have hlp := ok.loop
  have tail : ∀ (u : Int) (dg : D) {x1 x3 x4 x5 x6 x7 x8 x9 x10 x11 x12 x13 x14 x15 x16 x17 x18 x19 x20 x21 x22 x23 x24 x25 x26 x27 x28 x29 x30 x31 x32 x33 x34 x35 x36 x37 x38 x39 x40 x41 x42 x43 x44 x45 x46 x47 x48 x49 x50 x51 x52 x53 x54 x55 x56 x57 x58 x59 x60 x61 x62 x63 x64 x65 x66 x67 x68 x69 x70 x71 x72 x73 x74 x75 x76 x77 x78 x79 x80 x81 x82 x83 x84 x85 x86 x87 x88 x89 x90 x91 x92 x93 x94 x95 x96 x97 x98 x99 x100 x101 x102 x103 x104 x105 x106 x107 x108 x109 x110 x111 x112 x113 x114 x115 x116 x117 x118 x119 x120 x121 x122 x123 x124 x125 x126 x127 x128 x129 x130 x131 x132 x133 x134 x135 x136 x137 x138 x139 x140 x141 x142 x143 x144 x145 x146 x147 x148 x149 x150 x151 x152 x153 x154 x155 x156 x157 x158 x159 x160 x161 x162 x163 x164 x165 x166 x167 x168 x169 x170 x171 x172 x173 x174 x175 x176 x177 x178 x179 x180 x181 x182 x183 x184 x185 x186 x187 x188 x189 x190 x191 x192 x193 x194 x195 x196 x197 x198 x199 x200 x201 x202 x203 x204 x205 x206 x207 x208 x209 x210 x211 x212 x213 x214 x215 : AVal}, t ≤ u → u ≤ t + 5 → dg.given.length ≤ 1 → (∀ r ∈ dg.given, RgOk r) → (th = true → dg.given = []) → dg = { dd with given := dg.given } → 
      Ex (cfg Tryz.prog Tryz.eqs N) (.seq (Tryz.a86r13) (.seq (Tryz.a86r14) (.seq (Tryz.a86r15) (.seq (.seq (Tryz.a86r16) (.cond (.t 124) (Tryz.a86r17) (.skip))) (.seq (Tryz.a86r18) (.seq (Tryz.a86r19) (.seq (Tryz.a86r20) (.seq (.seq (Tryz.a86r21) (.cond (.t 164) (Tryz.a86r22) (.skip))) (.seq (Tryz.a86r23) (.seq (Tryz.a86r24) (Tryz.a86r25)))))))))))
      ⟨(.hp 5 29 0 0 :: x1 :: .bool th :: x3 :: x4 :: x5 :: x6 :: x7 :: x8 :: x9 :: x10 :: x11 :: x12 :: x13 :: x14 :: x15 :: x16 :: x17 :: x18 :: x19 :: x20 :: x21 :: x22 :: x23 :: x24 :: x25 :: x26 :: x27 :: x28 :: x29 :: x30 :: x31 :: x32 :: x33 :: x34 :: x35 :: x36 :: x37 :: x38 :: x39 :: x40 :: x41 :: x42 :: x43 :: x44 :: x45 :: x46 :: x47 :: x48 :: x49 :: x50 :: x51 :: x52 :: x53 :: x54 :: x55 :: x56 :: x57 :: x58 :: x59 :: x60 :: x61 :: x62 :: x63 :: x64 :: x65 :: x66 :: x67 :: x68 :: x69 :: x70 :: x71 :: x72 :: x73 :: x74 :: x75 :: x76 :: x77 :: x78 :: x79 :: x80 :: x81 :: x82 :: x83 :: x84 :: x85 :: x86 :: x87 :: x88 :: x89 :: x90 :: x91 :: x92 :: x93 :: x94 :: x95 :: x96 :: x97 :: x98 :: x99 :: x100 :: x101 :: x102 :: x103 :: x104 :: x105 :: x106 :: x107 :: x108 :: x109 :: x110 :: x111 :: x112 :: x113 :: x114 :: x115 :: x116 :: x117 :: x118 :: x119 :: x120 :: x121 :: x122 :: x123 :: x124 :: x125 :: x126 :: x127 :: x128 :: x129 :: x130 :: x131 :: x132 :: x133 :: x134 :: x135 :: x136 :: x137 :: x138 :: x139 :: x140 :: x141 :: x142 :: x143 :: x144 :: x145 :: x146 :: x147 :: x148 :: x149 :: x150 :: x151 :: x152 :: x153 :: x154 :: x155 :: x156 :: x157 :: x158 :: x159 :: x160 :: x161 :: x162 :: x163 :: x164 :: x165 :: x166 :: x167 :: x168 :: x169 :: x170 :: x171 :: x172 :: x173 :: x174 :: x175 :: x176 :: x177 :: x178 :: x179 :: x180 :: x181 :: x182 :: x183 :: x184 :: x185 :: x186 :: x187 :: x188 :: x189 :: x190 :: x191 :: x192 :: x193 :: x194 :: x195 :: x196 :: x197 :: x198 :: x199 :: x200 :: x201 :: x202 :: x203 :: x204 :: x205 :: x206 :: x207 :: x208 :: x209 :: x210 :: x211 :: x212 :: x213 :: x214 :: x215 :: []), H7 a0 a1 { m with at_ := u, d := dg }⟩ (kfun (cfg Tryz.prog Tryz.eqs N) [] false 6 fun v h => ∃ r m', DefPost i th m r m' ∧ Ai.Sub v r ∧ SubH h (H6 a0 a1 m')) := by
    intro u dg
    intros
    rename_i u0 u1 g0 g1 g2 he
    have hpe : dg.params = dd.params := by rw [he]
    have hpl' : dg.params.length ≤ 2 := by rw [hpe]; exact hpl
    obtain ⟨d1, d2, d3, d4, d5, d6, d7, d8⟩ := hd
    have fin : ∀ (v : Int) (ar : List Ar), (dg.params.length : Int) + 2 ≤ v → v ≤ dg.params.length + 3 → 1 ≤ ar.length → ar.length ≤ 2 → (∀ a ∈ ar, 1 ≤ a.len ∧ a.len ≤ 64 ∧ 0 ≤ a.of ∧ a.of ≤ dg.params.length) →
        ∀ (b : List S) (s : Int), WfL (cxD m.p.d { dg with vars := v, refs := 2, arrays := ar }) m.p.heads 3 b → Inc m.site s (sitesL b ++ [s]) → s ≤ m.site + 40 → nC b ≤ 9 → DefOk m.p.heads m.p.d i th m.site { dg with vars := v, refs := 2, arrays := ar, body := b, site := s } :=
      fun v ar v0 v1 a0 a1 a2 b s w1 w2 w3 w4 =>
        { id := by rw [he]; exact d1, name := by rw [he]; exact d2, firm0 := by rw [he]; exact d3, firm1 := by rw [he]; exact d4, part0 := by rw [he]; exact d5, part1 := by rw [he]; exact d6, pl := hpl', params := by rw [hpe]; exact hpr, gl := g0, given := g1,
          thread := fun h => ⟨by rw [hpe]; exact ht h, g2 h⟩, vars0 := v0, vars1 := v1, refs := rfl, al0 := a0, al1 := a1, arrays := a2, budget0 := by rw [he]; exact d7, budget1 := by rw [he]; exact d8, body := w1, sites := w2, len := w3, calls := w4 }
    simp (maxSteps := 9999999) (dsimp := false) (disch := omega) only [go_sem, Tryz.a86r13,H7,wrap64]
    refine next7 lo { m with at_ := u, d := dg } _ (by omega) (by simp only; omega) (by simp only; omega) [] _ ?_
    rintro _ _ ⟨k, rfl, ka, kb, rfl⟩
    by_cases hq : (dg.params.length : Int) > 0
    · simp (maxSteps := 9999999) (dsimp := false) (disch := omega) only [go_sem, Tryz.a86r14, Tryz.a86r15, Tryz.a86r16,H7,wrap64,hq]
      refine next8 lo { m with at_ := u + 1, d := { dg with vars := dg.params.length + 2 + k, refs := 2, arrays := [⟨4, 0⟩] } } _ (by omega) (by simp only; omega) (by simp only; omega) [] _ ?_
      rintro _ _ ⟨k2, rfl, ka2, kb2, rfl⟩
      by_cases hk2 : k2 = 0
      · simp (maxSteps := 9999999) (dsimp := false) (disch := omega) only [go_sem, H8,wrap64,hk2,Tryz.a86r17,appLim]
        rw [← exec_seq]
        refine def_c lo i th m (u + 1 + 1) { dg with vars := dg.params.length + 2 + k, refs := 2, arrays := [⟨4, 0⟩, ⟨8, 1⟩] } ok (by omega) (by omega) (by simp only; omega) (by simp only; omega) (by simp) (by simp) rfl (fin _ _ (by omega) (by omega) (by simp) (by simp) ?_)
        intro a ha
        simp only [List.mem_cons, List.mem_nil_iff, or_false] at ha
        rcases ha with rfl | rfl
        · exact ⟨by decide, by decide, by decide, by simp only; omega⟩
        · exact ⟨by decide, by decide, by decide, by simp only; omega⟩
      · simp (maxSteps := 9999999) (dsimp := false) (disch := omega) only [go_sem, H8,wrap64,hk2,dec_f]
        rw [← exec_seq]
        refine def_c lo i th m (u + 1 + 1) { dg with vars := dg.params.length + 2 + k, refs := 2, arrays := [⟨4, 0⟩] } ok (by omega) (by omega) (by simp only; omega) (by simp only; omega) (by simp) (by simp) rfl (fin _ _ (by omega) (by omega) (by simp) (by simp) ?_)
        intro a ha
        simp only [List.mem_cons, List.mem_nil_iff, or_false] at ha
        subst ha
        exact ⟨by decide, by decide, by decide, by simp only; omega⟩
    · simp (maxSteps := 9999999) (dsimp := false) (disch := omega) only [go_sem, Tryz.a86r14, Tryz.a86r15, Tryz.a86r16,H7,wrap64,dec_f]
      rw [← exec_seq]
      refine def_c lo i th m (u + 1) { dg with vars := dg.params.length + 2 + k, refs := 2, arrays := [⟨4, 0⟩] } ok (by omega) (by omega) (by simp only; omega) (by simp only; omega) (by simp) (by simp) rfl (fin _ _ (by omega) (by omega) (by simp) (by simp) ?_)
      intro a ha
      simp only [List.mem_cons, List.mem_nil_iff, or_false] at ha
      subst ha
      exact ⟨by decide, by decide, by decide, by simp only; omega⟩
  simp (maxSteps := 9999999) (dsimp := false) (disch := omega) only [go_sem, Tryz.a86r11, H7, wrap64]
  refine next7 lo { m with at_ := t, d := dd } _ (by omega) (by simp only; omega) (by simp only; omega) [] _ ?_
  rintro _ _ ⟨k, rfl, ka, kb, rfl⟩
  by_cases hk : k = 0
  · cases th with
    | true =>
      simp (maxSteps := 9999999) (dsimp := false) (disch := omega) only [go_sem, H7, hk]
      rw [← exec_seq]
      exact tail (t + 1) dd (by omega) (by omega) (by simp [hg]) (by simp [hg]) (fun _ => hg) rfl
    | false =>
      simp (maxSteps := 9999999) (dsimp := false) (disch := omega) only [go_sem, H7, hk, Tryz.a86r12]
      rw [← exec_seq]
      exact tail (t + 1) { dd with given := [⟨-10, 10, 1⟩] } (by omega) (by omega) (by simp) (by simp [RgOk]) (fun h => by cases h) rfl
  · simp (maxSteps := 9999999) (dsimp := false) (disch := omega) only [go_sem, H7, hk, dec_t, dec_f]
    rw [← exec_seq]
    exact tail (t + 1) dd (by omega) (by omega) (by simp [hg]) (by simp [hg]) (fun _ => hg) rfl
end Go.Par
