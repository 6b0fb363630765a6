/- The maker, whole: programs that are right. -/
import Derived.Test.YtdggbdjpcbiofaaGreatMkJ
set_option linter.unusedSimpArgs false
set_option linter.unusedVariables false
set_option maxHeartbeats 8000000
set_option maxRecDepth 100000
namespace Go.Par
open Go.Ai Go.Proofs

/-- A function whose answer is one of those that are right. -/
def Make (f : Nat) (args : List AVal) (Post : AVal → Prop) : Prop :=
  ∀ (heap : List AObj) (K : AVal → List AObj → Prop), (∀ r, Post r → K r heap) → Hs Tryz.prog Tryz.eqs (.func f [] []) args heap K

theorem Make.of_empty {f : Nat} {args : List AVal} {Post : AVal → Prop} (ha : killL 0 args = args) (h : Hs Tryz.prog Tryz.eqs (.func f [] []) args [] fun v _ => ∃ r, Post r ∧ Ai.Sub (killA 0 v) r) : Make f args Post := by
  intro heap K hk
  have h' : Hs Tryz.prog Tryz.eqs (.func f [] []) args ([] ++ heap) fun v h => ∃ r, Post r ∧ Ai.Sub v r ∧ h = heap :=
    h.frame (h1 := []) rfl ha rfl fun z h' ⟨r, hz, hs⟩ => ⟨Nat.zero_le _, r, hz, hs, by simp⟩
  exact h'.res fun v h' ⟨r, hv, hs, he⟩ => ⟨r, hs, he ▸ hk r hv⟩

def declared : Dc := ⟨[⟨0, 20, 1⟩, ⟨-5, 5, 0⟩], [⟨0, 9, 1⟩, ⟨0, 100, 2⟩], [⟨2, ⟨0, 15, 1⟩⟩], [0, 1, 3], 3, 3, 2⟩

theorem declared_walk : F 40 [] (encDc declared) := by
  refine Fun.of_empty rfl rfl (Tryz.w40 0 ?_)
  simp (maxSteps := 9999999) (dsimp := false) (disch := omega) only [go_sem, Tryz.c40, Tryz.a40r0, Tryz.a40r1]
  exact .refl _

/-- Definitions that were made one behind the other; the last site. -/
inductive DefsOk : Int → List D → Prop
  | nil : DefsOk 100 []
  | snoc {s : Int} {l : List D} {d : D} {th : Bool} : DefsOk s l → DefOk (l.map headOf) declared (11 + l.length) th s d → DefsOk d.site (l ++ [d])

/-- A program that was made. -/
structure PgOk (p : Pg) : Prop where
  d : p.d = declared
  heads : p.heads = p.defs.map headOf
  defs : ∃ s, DefsOk s p.defs
  n0 : 1 ≤ p.defs.length
  n1 : p.defs.length ≤ 4
  t0 : 1 ≤ p.threads.length
  t1 : p.threads.length ≤ 2
  th : ∀ i ∈ p.threads, ∃ d ∈ p.defs, d.id = i ∧ d.params = [] ∧ d.given = []
  last : (10 + p.defs.length : Int) ∈ p.threads

def encRaw (l : List UInt8) : AVal := .agg [.fs 1 (l.map fun b => .int .u8 (b.toNat : Int)) none]

def D0 : D := ⟨0, 0, ⟨#[]⟩, 0, 0, [], [], 0, 0, [], 0, []⟩
def M0 (l : List UInt8) : M := ⟨l, 0, ⟨declared, [], [], []⟩, D0, 100, 0, 0, 0, false⟩

def loA0 (l : List UInt8) : AObj := .rows 1 [.agg [.fs 1 (l.map fun b => .int .u8 (b.toNat : Int)) none]]
def loA1 : AObj := .rows 10 [.agg [.nils, .nils, .nils, .nils, .int .i64 0, .int .i64 0, .int .i64 0, .nils, .nils, .nils]]
theorem low_A (l : List UInt8) : Low (loA0 l) loA1 := ⟨fun _ _ => rfl, fun _ _ => rfl⟩
def encMi (l : List UInt8) : AVal := .agg ([.fs 1 (l.map fun b => .int .u8 (b.toNat : Int)) none, .int .i64 0] ++ cellsDc declared ++ [.fs 5 [] (some 2), .fs 12 [] (some 3), .fs 1 [] (some 4),
  .int .i64 0, .int .i64 0, .str ⟨#[]⟩, .int .i64 0, .int .i64 0, .nils, .nils, .int .i64 0, .int .i64 0, .nils, .int .i64 0, .nils, .int .i64 100, .int .i64 0, .int .i64 0, .int .i64 0, .bool false])
theorem sub_Mi (l : List UInt8) : Ai.Sub (encMi l) (encM none none (M0 l)) := by
  rw [encM_eq, encMi, cellsM]
  simp only [cellsDc, List.cons_append, List.nil_append, M0, D0, List.map_nil]
  exact SubC.sub (by repeat constructor)
theorem next60 (l : List UInt8) (k : Int) (hk : 1 ≤ k) (K : AVal → List AObj → Prop)
    (hK : ∀ r m', NextPost (M0 l) k r m' → K r (H6 (loA0 l) loA1 m')) : Hs Tryz.prog Tryz.eqs (.func 85 [] []) [.hp 5 29 0 0, I k] [loA0 l, loA1, .tok 5 0, .tok 12 0, .tok 1 0, .rows 29 [encMi l]] K := by
  refine Hs.weaken (heap' := H6 (loA0 l) loA1 (M0 l)) (g' := .func 85 [] []) (args' := [.hp 5 29 0 0, I k]) ((next6 (low_A l) (M0 l) k hk (by simp [M0]) (by simp [M0])) [] _ hK) (.refl _) (.refl _) ?_ (fun v h' h => ⟨v, h', .refl _, .refl _, h⟩) (fun l h => h)
  rw [H6]
  exact .cons (.refl _) (.cons (.refl _) (.cons (.refl _) (.cons (.refl _) (.cons (.refl _) (.cons (.rows (.cons (sub_Mi l) .nil)) .nil)))))

/-- The maker behind some definitions. -/
structure MkOk (tot n : Nat) (m : M) : Prop where
  ok : OkD m
  d : m.p.d = declared
  heads : m.p.heads = m.p.defs.map headOf
  defs : DefsOk m.site m.p.defs
  len : m.p.defs.length = n
  th : m.p.threads = []
  a : m.at_ ≤ 10 + 100010 * n
  s : m.site ≤ 100 + 40 * n
  last : n = tot → ∃ l d, m.p.defs = l ++ [d] ∧ d.params = [] ∧ d.given = []

theorem MkOk.step {tot n : Nat} {m : M} (k : MkOk tot n m) (hn : n < 10) (th : Bool) (d : D) (t u dn lf : Int) (t0 : m.at_ ≤ t) (t1 : t ≤ m.at_ + 5) (u0 : t ≤ u) (u1 : u ≤ t + 100000) (h : DefOk m.p.heads m.p.d (11 + n) th m.site d) (ht : n + 1 = tot → th = true) :
    MkOk tot (n + 1) { m with at_ := u, d := d, site := d.site, done := dn, left := lf, p := { m.p with heads := m.p.heads ++ [headOf d], defs := m.p.defs ++ [d] } } := by
  have ok := k.ok; have a := k.a; have ks := k.s; have l := k.len; have kh := k.heads; have kd := k.d
  have h1 := h.len; have h2 := h.sites.le
  have hl : m.p.heads.length = n := by rw [kh]; simp [l]
  have hhs : ∀ x ∈ m.p.heads ++ [headOf d], 1 ≤ x.id ∧ x.id ≤ 1073741824 ∧ x.params.length ≤ 12 ∧ x.given.length ≤ 4 := fun x hx => by
    rcases List.mem_append.1 hx with hx | hx
    · exact ok.hs x hx
    · simp only [List.mem_singleton] at hx
      subst hx
      have e1 := h.id; have e2 := h.pl; have e3 := h.gl
      simp only [headOf]; omega
  exact {
    ok := { h0 := by have := ok.h0; simp only; omega, h1 := by simp only; omega, s0 := by have := ok.s0; simp only; omega, s1 := by simp only; omega, glob := ok.glob, cls := ok.cls, que := ok.que, snk := ok.snk, locks := ok.locks, parts := ok.parts, calm := ok.calm, loop := ok.loop, hl := by simp only [List.length_append, List.length_cons, List.length_nil]; omega, dl := by simp only [List.length_append, List.length_cons, List.length_nil]; omega, hs := hhs }
    d := kd
    heads := by simp only [List.map_append, kh, List.map_cons, List.map_nil]
    defs := k.defs.snoc (th := th) (by have h := h; rw [kd, kh] at h; rw [l]; exact h)
    len := by simp only [List.length_append, List.length_cons, List.length_nil, l]
    th := k.th
    a := by simp only; omega
    s := by simp only; omega
    last := fun e => ⟨_, _, rfl, h.thread (ht e)⟩ }

theorem MkOk.init (l : List UInt8) (tot : Nat) : MkOk (tot + 1) 0 { M0 l with at_ := 0 + 1 } where
  ok := { h0 := by simp only [M0]; omega, h1 := by simp only [M0]; omega, s0 := by simp only [M0]; omega, s1 := by simp only [M0]; omega, glob := rfl, cls := rfl, que := rfl, snk := rfl, locks := rfl, parts := rfl, calm := rfl, loop := rfl, hl := by simp [M0], dl := by simp [M0], hs := fun x hx => by simp [M0] at hx }
  d := rfl
  heads := rfl
  defs := .nil
  len := rfl
  th := rfl
  a := by simp [M0]
  s := by simp [M0]
  last := fun h => by omega

theorem MkOk.at1 {tot n : Nat} {m : M} (k : MkOk tot n m) (t : Int) : OkD m → 0 ≤ t → t < 1000000000 → OkD { m with at_ := t } := fun ok t0 t1 =>
  { h0 := t0, h1 := t1, s0 := ok.s0, s1 := ok.s1, glob := ok.glob, cls := ok.cls, que := ok.que, snk := ok.snk, locks := ok.locks, parts := ok.parts, calm := ok.calm, hl := ok.hl, dl := ok.dl, hs := ok.hs, loop := ok.loop }

theorem DefsOk.get {s : Int} {l : List D} (h : DefsOk s l) : ∀ (k : Nat) (hk : k < l.length), ∃ s' th, DefOk ((l.take k).map headOf) declared (11 + k) th s' l[k] := by
  induction h with
  | nil => intro k hk; simp at hk
  | @snoc s l d th h hd ih =>
    intro k hk
    by_cases hkl : k < l.length
    · rw [List.getElem_append_left hkl, List.take_append_of_le_length (by omega)]
      exact ih k hkl
    · have : k = l.length := by simp at hk; omega
      subst this
      rw [List.getElem_append_right (Nat.le_refl _), List.take_left' rfl]
      simp only [Nat.sub_self, List.getElem_cons_zero]
      exact ⟨_, _, hd⟩

section
variable {fail : Prop}
def encMt (x : M) (vs : List AVal) : AVal := .agg (AVal.fs 1 (x.l.map fun b => AVal.int .u8 (b.toNat : Int)) none :: AVal.int .i64 x.at_ :: (cellsDc x.p.d ++
  (AVal.fs 5 (x.p.heads.map encHd) (some 2) :: AVal.fs 12 (x.p.defs.map encD) (some 3) :: AVal.fs 1 vs none ::
  AVal.int .i64 x.d.id :: AVal.int .i64 x.d.site :: AVal.str x.d.name :: AVal.int .i64 x.d.firm :: AVal.int .i64 x.d.part :: AVal.fs 3 (x.d.params.map encRg) none :: AVal.fs 3 (x.d.given.map encRg) none :: AVal.int .i64 x.d.vars :: AVal.int .i64 x.d.refs :: AVal.fs 2 (x.d.arrays.map encAr) none :: AVal.int .i64 x.d.budget :: AVal.fs 20 (x.d.body.map encS) none ::
  AVal.int .i64 x.site :: AVal.int .i64 x.left :: AVal.int .i64 x.loop :: AVal.int .i64 x.done :: [AVal.bool x.calm])))
@[go_sem] theorem putM_thr {x : M} {vs : List AVal} {K : AVal → Prop} : putPart fail 1 (encM none none x) 11 (.fs 1 vs none) K = K (encMt x vs) := by rw [encM_eq, putPart_agg]; rfl
@[go_sem] theorem putM_thr4 {x : M} {l : List Int} {a : Int} {K : AVal → Prop} : putPart fail 1 (encM none none x) 11 (.fs 1 (l.map (AVal.int .i64) ++ [.int .i64 a]) (some 4)) K = K (encM none none { x with p := { x.p with threads := l ++ [a] } }) := by
  rw [encM_eq, putPart_agg]; simp only [encM_eq, cellsM, List.map_append, List.map_cons, List.map_nil]; rfl
@[go_sem] theorem getP_M {x : M} {K : AVal → Prop} : partOf fail true 10 (encM none none x) 2 K = K (.agg [.fs 3 (x.p.d.globals.map encRg) none, .fs 3 (x.p.d.classes.map encRg) none, .fs 4 (x.p.d.queues.map encQu) none, .fs 1 (x.p.d.sinks.map (AVal.int .i64)) none, .int .i64 x.p.d.locks, .int .i64 x.p.d.parts, .int .i64 x.p.d.firms,
  AVal.fs 5 (x.p.heads.map encHd) (some 2), AVal.fs 12 (x.p.defs.map encD) (some 3), AVal.fs 1 (x.p.threads.map (AVal.int .i64)) (some 4)]) := by rw [encM_eq]; rfl
@[go_sem] theorem getP_Mt {x : M} {vs : List AVal} {K : AVal → Prop} : partOf fail true 10 (encMt x vs) 2 K = K (.agg [.fs 3 (x.p.d.globals.map encRg) none, .fs 3 (x.p.d.classes.map encRg) none, .fs 4 (x.p.d.queues.map encQu) none, .fs 1 (x.p.d.sinks.map (AVal.int .i64)) none, .int .i64 x.p.d.locks, .int .i64 x.p.d.parts, .int .i64 x.p.d.firms,
  AVal.fs 5 (x.p.heads.map encHd) (some 2), AVal.fs 12 (x.p.defs.map encD) (some 3), AVal.fs 1 vs none]) := by rw [encMt]; rfl
end

theorem made_tail {N n : Nat} (l : List UInt8) (m : M) (ok : MkOk (n + 1) (n + 1) m) (hn : n < 4) (ts : List Int) (h1 : ts.length ≤ 2) (h2 : ∀ x ∈ ts, ∃ d ∈ m.p.defs, d.id = x ∧ d.params = [] ∧ d.given = []) (h3 : (11 + n : Int) ∈ ts.take 1) {x0 x1 x2 x3 x6 x7 x8 x9 x10 x11 x12 x13 x14 x15 x16 x17 x18 x19 x20 x21 x22 x23 x24 x25 x26 x27 x28 x29 x30 x31 x32 x33 x34 x35 x36 x37 x38 x39 x40 x41 x42 x43 x44 x45 x46 x47 x48 x49 x50 x51 x52 x53 x54 x55 x56 x57 x58 x59 x60 x61 x62 x63 x64 x65 x66 x67 x68 x69 x70 x71 x72 x73 x74 x75 x76 x77 x78 x79 x80 x81 x82 x83 x84 x85 x86 x87 x88 x89 x90 x91 x92 x93 x94 x95 x96 x97 x98 x99 x100 x101 x102 x103 x104 x105 x106 x107 x108 x109 x110 : AVal} :
    Ex (cfg Tryz.prog Tryz.eqs N) (.seq (.seq (Tryz.a45r14) (.cond (.t 96) (Tryz.a45r15) (.skip))) (.seq (Tryz.a45r16) (.ret)))
      ⟨(x0 :: x1 :: x2 :: x3 :: .hp 1 10 0 0 :: .hp 5 29 0 0 :: x6 :: x7 :: x8 :: x9 :: x10 :: x11 :: x12 :: x13 :: x14 :: x15 :: x16 :: x17 :: x18 :: x19 :: x20 :: x21 :: x22 :: x23 :: x24 :: x25 :: x26 :: x27 :: x28 :: x29 :: x30 :: x31 :: x32 :: x33 :: x34 :: x35 :: x36 :: x37 :: x38 :: x39 :: x40 :: x41 :: x42 :: x43 :: x44 :: x45 :: x46 :: x47 :: x48 :: x49 :: x50 :: x51 :: x52 :: x53 :: x54 :: x55 :: x56 :: x57 :: x58 :: x59 :: x60 :: x61 :: x62 :: x63 :: x64 :: x65 :: x66 :: x67 :: x68 :: x69 :: x70 :: x71 :: x72 :: x73 :: x74 :: x75 :: x76 :: x77 :: x78 :: x79 :: x80 :: x81 :: x82 :: x83 :: x84 :: x85 :: x86 :: x87 :: x88 :: x89 :: x90 :: x91 :: x92 :: x93 :: x94 :: x95 :: x96 :: x97 :: x98 :: x99 :: x100 :: x101 :: x102 :: x103 :: x104 :: x105 :: x106 :: x107 :: x108 :: x109 :: x110 :: []), H6 (loA0 l) loA1 { m with p := { m.p with threads := ts } }⟩
      (kfun (cfg Tryz.prog Tryz.eqs N) [(4, some (true, 10))] false 0 fun v x => ∃ r, (∃ p, r = encPg p ∧ PgOk p) ∧ Ai.Sub (killA 0 v) r) := by
  have a0 := ok.a; have h0 := ok.ok.h0; have s0 := ok.s
  have hl := ok.len
  have t1 : 1 ≤ ts.length := by cases ts with | nil => simp at h3 | cons => simp
  have fin : ∀ ts' : List Int, ts'.length ≤ 2 → (∀ x ∈ ts', ∃ d ∈ m.p.defs, d.id = x ∧ d.params = [] ∧ d.given = []) → (11 + n : Int) ∈ ts' → PgOk ⟨m.p.d, m.p.heads, m.p.defs, ts'⟩ := fun ts' k1 k2 k3 =>
    { d := ok.d, heads := ok.heads, defs := ⟨_, ok.defs⟩, n0 := by simp only; omega, n1 := by simp only; omega, t0 := by cases ts' with | nil => simp at k3 | cons => simp, t1 := k1, th := k2, last := by simp only [hl]; rwa [show ((10 : Int) + ((n + 1 : Nat) : Int)) = 11 + n by omega] }
  simp (maxSteps := 9999999) (dsimp := false) (disch := omega) only [go_sem, Tryz.a45r14, H6]
  refine next6 (low_A l) { m with p := { m.p with threads := ts } } _ (by omega) (by simp only; omega) (by simp only; omega) [] _ ?_
  rintro _ _ ⟨v, rfl, va, vb, rfl⟩
  by_cases hv : v = 0
  · simp (maxSteps := 9999999) (dsimp := false) (disch := omega) only [go_sem, H6, hv, Tryz.a45r15, Tryz.a45r16, dec_t, loA1]
    refine ⟨_, ⟨⟨m.p.d, m.p.heads, m.p.defs, ts.take 1⟩, rfl, fin _ (by simp; omega) (fun x hx => h2 x (List.mem_of_mem_take hx)) h3⟩, ?_⟩
    rw [encPg_eq, cellsPg, cellsDc]
    simp only [List.map_take, List.cons_append, List.nil_append]
    exact SubC.sub (by repeat constructor)
  · simp (maxSteps := 9999999) (dsimp := false) (disch := omega) only [go_sem, H6, hv, Tryz.a45r16, dec_f, loA1]
    refine ⟨_, ⟨⟨m.p.d, m.p.heads, m.p.defs, ts⟩, rfl, fin _ h1 h2 (List.mem_of_mem_take h3)⟩, ?_⟩
    rw [encPg_eq, cellsPg, cellsDc]
    exact SubC.sub (by repeat constructor)

theorem made_walk (l : List UInt8) : Make 45 [encRaw l, .bool false] fun r => ∃ p, r = encPg p ∧ PgOk p := by
  refine Make.of_empty rfl ?_
  obtain ⟨N, hN⟩ : ∃ N, N = 10 := ⟨_, rfl⟩
  have lo := low_A l
  refine Tryz.w45 N ?_
  simp (maxSteps := 9999999) (dsimp := false) (disch := omega) only [go_sem, Tryz.c45, Tryz.a45r0, Tryz.a45r1, encRaw]
  refine declared_walk _ _ ?_
  simp (maxSteps := 9999999) (dsimp := false) (disch := omega) only [go_sem, Tryz.a45r2, cellsDc]
  refine next60 l _ (by omega) _ ?_
  rintro _ _ ⟨n1, rfl, na, nb, rfl⟩
  obtain ⟨n, rfl⟩ : ∃ n : Nat, n1 = n := ⟨n1.toNat, by omega⟩
  simp (maxSteps := 9999999) (dsimp := false) (disch := omega) only [go_sem, Tryz.a45r3, H6, wrap64]
  refine loop_rule (fun mm st => ∃ (i : Nat) (m : M), i + mm = 1 + n ∧ MkOk (n + 1) i m ∧ st = ⟨tm 111 [(4, .hp 1 10 0 0), (5, .hp 5 29 0 0), (6, I (1 + n)), (7, I i)], H6 (loA0 l) loA1 m⟩) ?_ (m := 1 + n) (by omega)
    ⟨0, { M0 l with at_ := 0 + 1 }, by omega, MkOk.init l n, by
      simp (maxSteps := 9999999) (dsimp := false) (disch := omega) only [go_sem, lo.k0, lo.k1, H6, M0] <;> rfl⟩
  rintro mm st rec ⟨i, m, hi, ok, he⟩ hrec
  have a0 := ok.a; have h0 := ok.ok.h0; have s0 := ok.s
  rw [he]
  simp (maxSteps := 9999999) (dsimp := false) (disch := omega) only [go_sem, Tryz.a45l7, Tryz.a45r4, H6]
  by_cases hlt : (i : Int) < 1 + n
  · by_cases hla : (i : Int) = n
    · simp (maxSteps := 9999999) (dsimp := false) (disch := omega) only [go_sem, hlt, hla, wrap64, Tryz.a45r5, dec_t, dec_f]
      refine def6 lo (11 + n) true m ok.ok (by omega) (by omega) [] _ ?_
      rintro _ _ ⟨rfl, d, t, dn, lf, hd, ta, tb, rfl⟩
      simp (maxSteps := 9999999) (dsimp := false) (disch := omega) only [go_sem, H6, wrap64, Tryz.a45r6]
      exact hrec (mm - 1) _ (by omega) ⟨i + 1, _, by omega, ok.step (by omega) true d m.at_ t dn lf (by omega) (by omega) ta tb (by rw [hla]; exact hd) (fun _ => rfl), by
        simp (maxSteps := 9999999) (dsimp := false) (disch := omega) only [go_sem, lo.k0, lo.k1, H6, Int.natCast_add, Int.cast_ofNat_Int, List.length_append, hla] <;> rfl⟩
    · simp (maxSteps := 9999999) (dsimp := false) (disch := omega) only [go_sem, hlt, hla, wrap64, Tryz.a45r5, dec_t, dec_f]
      refine next6 lo m _ (by omega) (by omega) (by omega) [] _ ?_
      rintro _ _ ⟨v, rfl, va, vb, rfl⟩
      simp (maxSteps := 9999999) (dsimp := false) (disch := omega) only [go_sem, H6]
      refine def6 lo (11 + i) (decide (v = 0)) { m with at_ := m.at_ + 1 } (ok.at1 _ ok.ok (by omega) (by omega)) (by omega) (by omega) [] _ ?_
      rintro _ _ ⟨rfl, d, t, dn, lf, hd, ta, tb, rfl⟩
      simp only at ta tb hd
      simp (maxSteps := 9999999) (dsimp := false) (disch := omega) only [go_sem, H6, wrap64, Tryz.a45r6]
      exact hrec (mm - 1) _ (by omega) ⟨i + 1, _, by omega, ok.step (by omega) _ d (m.at_ + 1) t dn lf (by omega) (by omega) ta tb hd (fun e => by omega), by
        simp (maxSteps := 9999999) (dsimp := false) (disch := omega) only [go_sem, lo.k0, lo.k1, H6, Int.natCast_add, Int.cast_ofNat_Int, List.length_append] <;> rfl⟩
  · have hin : i = 1 + n := by omega
    have hl := ok.len
    simp (maxSteps := 9999999) (dsimp := false) (disch := omega) only [go_sem, hlt, dec_f, Tryz.a45r8, wrap64]
    refine loop_rule (fun mm st => ∃ (j : Int) (ts : List Int), (mm : Int) = j + 1 ∧ -1 ≤ j ∧ j ≤ n ∧ ts.length ≤ 2 ∧ (∀ x ∈ ts, ∃ d ∈ m.p.defs, d.id = x ∧ d.params = [] ∧ d.given = []) ∧ (j < n → (11 + n : Int) ∈ ts.take 1) ∧ (j = n → ts = []) ∧
      st = ⟨tm 111 [(4, .hp 1 10 0 0), (5, .hp 5 29 0 0), (8, I j)], H6 (loA0 l) loA1 { m with p := { m.p with threads := ts } }⟩) ?_ (m := n + 1) (by omega)
      ⟨1 + n - 1, m.p.threads, by omega, by omega, by omega, by rw [ok.th]; simp, (fun x h => by rw [ok.th] at h; cases h), (fun h => by omega), (fun _ => ok.th), by
        simp (maxSteps := 9999999) (dsimp := false) (disch := omega) only [go_sem, lo.k0, lo.k1, H6] <;> rfl⟩
    rintro mm2 st2 rec2 ⟨j, ts, hj, hj0, hj1, htl, hts, htn, htz, he2⟩ hrec2
    rw [he2]
    subst hin
    have ok' : MkOk (n + 1) (n + 1) m := by rw [Nat.add_comm 1 n] at ok; exact ok
    by_cases hjn : j ≥ 0
    · have hjl : j.toNat < m.p.defs.length := by omega
      obtain ⟨s', th, hd⟩ := ok.defs.get j.toNat hjl
      have hx : m.p.defs[j.toNat]? = some m.p.defs[j.toNat] := List.getElem?_eq_getElem hjl
      have hmem : m.p.defs[j.toNat] ∈ m.p.defs := List.getElem_mem hjl
      have hlast : j = n → m.p.defs[j.toNat].params = [] ∧ m.p.defs[j.toNat].given = [] := by
        intro e
        obtain ⟨l', d', e1, e2⟩ := ok.last (by omega)
        have e3 : m.p.defs[j.toNat]? = some d' := by
          rw [e1]
          have : l'.length = j.toNat := by have := congrArg List.length e1; simp at this; omega
          rw [← this, List.getElem?_append_right (Nat.le_refl _)]; simp
        rw [hx] at e3
        injection e3 with e3
        rw [e3]; exact e2
      generalize m.p.defs[j.toNat] = dj at hd hx hmem hlast
      have hp := hd.pl; have hg := hd.gl; have hid := hd.id
      by_cases htl2 : (ts.length : Int) < 2
      · by_cases hz : ((dj.params.length : Int) + dj.given.length) = 0
        · simp (maxSteps := 9999999) (dsimp := false) (disch := omega) only [go_sem, Tryz.a45l13, Tryz.a45r9, Tryz.a45r10, Tryz.a45r11, H6, dec_t, hx, inB, wrap64, hz, appLim, Tryz.a45r12]
          refine hrec2 (mm2 - 1) _ (by omega) ⟨j - 1, ts ++ [dj.id], by omega, by omega, by omega, by simp; omega, ?_, ?_, (fun h => by omega), by simp (maxSteps := 9999999) (dsimp := false) (disch := omega) only [go_sem, lo.k0, lo.k1, H6, List.length_append] <;> rfl⟩
          · intro x hx
            rcases List.mem_append.1 hx with h | h
            · exact hts x h
            · simp only [List.mem_singleton] at h
              subst h
              exact ⟨dj, hmem, rfl, List.eq_nil_of_length_eq_zero (by omega), List.eq_nil_of_length_eq_zero (by omega)⟩
          · intro _
            by_cases e : j = n
            · rw [htz e, hid]
              simp; omega
            · have := htn (by omega)
              rw [List.take_append_of_le_length (by cases ts with | nil => simp at this | cons => simp)]
              exact this
        · have : j ≠ n := fun e => hz (by rw [(hlast e).1, (hlast e).2]; rfl)
          simp (maxSteps := 9999999) (dsimp := false) (disch := omega) only [go_sem, Tryz.a45l13, Tryz.a45r9, Tryz.a45r10, H6, dec_t, hx, inB, wrap64, hz, dec_f, Tryz.a45r12]
          exact hrec2 (mm2 - 1) _ (by omega) ⟨j - 1, ts, by omega, by omega, by omega, htl, hts, (fun _ => htn (by omega)), (fun h => by omega), by simp (maxSteps := 9999999) (dsimp := false) (disch := omega) only [go_sem, lo.k0, lo.k1, H6, List.length_append] <;> rfl⟩
      · have : j ≠ n := fun e => by rw [htz e] at htl2; simp at htl2
        simp (maxSteps := 9999999) (dsimp := false) (disch := omega) only [go_sem, Tryz.a45l13, Tryz.a45r9, H6, dec_t, dec_f, hjn]
        rw [← exec_seq, ← exec_seq]
        exact made_tail l m ok' (by omega) ts htl hts (htn (by omega))
    · simp (maxSteps := 9999999) (dsimp := false) (disch := omega) only [go_sem, Tryz.a45l13, Tryz.a45r9, H6, dec_t, dec_f, hjn]
      rw [← exec_seq, ← exec_seq]
      exact made_tail l m ok' (by omega) ts htl hts (htn (by omega))
end Go.Par
