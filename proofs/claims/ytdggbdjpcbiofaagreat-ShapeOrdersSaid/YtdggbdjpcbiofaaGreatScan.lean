/- slices.IndexFunc and slices.ContainsFunc, at the kinds of elements that occur. Printed by mkscan.py. -/
import Derived.Test.YtdggbdjpcbiofaaGreatSrt
import Derived.Test.YtdggbdjpcbiofaaGreatAiRound
set_option linter.unusedSimpArgs false
set_option linter.unusedVariables false
set_option maxHeartbeats 4000000
set_option maxRecDepth 100000
namespace Go.Par
open Go.Ai Go.Proofs

/-- What a function says of values, one by one, until it says true. -/
def scan (g : AVal) : Nat → List AVal → List AObj → (Option Nat → List AObj → Prop) → Prop
  | _, [], h, K => K none h
  | i, x :: xs, h, K => Hs Tryz.prog Tryz.eqs g [x] h fun v h' => h'.length = h.length ∧ Clean h' ∧ (v = .bool false ∧ scan g (i + 1) xs h' K ∨ v = .bool true ∧ K (some i) h')

def idx : Option Nat → Int
  | none => -1
  | some i => i

/-- A function that does not change what lies there. -/
theorem scan_pure {α : Type} (g : AVal) (enc : α → AVal) (f : α → Bool) (h : List AObj) (hc : Clean h) (K : Option Nat → List AObj → Prop) : ∀ (xs : List α) (i : Nat),
    (∀ x ∈ xs, ∀ K', K' (.bool (f x)) h → Hs Tryz.prog Tryz.eqs g [enc x] h K') → K ((xs.findIdx? f).map (· + i)) h → scan g i (xs.map enc) h K
  | [], i, hg, hk => hk
  | x :: xs, i, hg, hk => by
    rw [List.map_cons, scan]
    refine hg x (by simp) _ ⟨rfl, hc, ?_⟩
    rw [List.findIdx?_cons] at hk
    cases hf : f x with
    | true => rw [hf] at hk; exact .inr ⟨rfl, by simpa using hk⟩
    | false =>
      rw [hf] at hk
      refine .inl ⟨rfl, scan_pure g enc f h hc K xs (i + 1) (fun y hy => hg y (by simp [hy])) ?_⟩
      have e : (Option.map (fun i => i + 1) (xs.findIdx? f)).map (· + i) = (xs.findIdx? f).map (· + (i + 1)) := by
        cases xs.findIdx? f with
        | none => rfl
        | some k => simp; omega
      rw [← e]; exact hk

theorem index50 (l : List D) (hl : l.length < 1000000) (g : AVal) (h : List AObj) (K : Option Nat → List AObj → Prop) (K' : AVal → List AObj → Prop) (hg : killA h.length g = g) (hc : Clean h)
    (hv : scan g 0 (l.map encD) h K) (hK : ∀ k h', h'.length = h.length → Clean h' → (k = none ∨ ∃ i, k = some i ∧ i < l.length) → K k h' → K' (I (idx k)) h') : Hs Tryz.prog Tryz.eqs (.func 50 [] []) [.fs 12 (l.map encD) none, g] h K' := by
  obtain ⟨N, hN⟩ : ∃ N, N = l.length + 1 := ⟨_, rfl⟩
  have hck : h.map (killO h.length) = h := hc
  refine Tryz.w50 N ?_
  simp (maxSteps := 9999999) (dsimp := false) (disch := omega) only [go_sem, Tryz.c50, Tryz.a50r0, Tryz.a50r1]
  refine loop_rule (fun m st => ∃ (i : Nat) (h1 : List AObj), i + m = l.length ∧ h1.length = h.length ∧ Clean h1 ∧ scan g i ((l.drop i).map encD) h1 K ∧
    st = ⟨tm 19 [(0, .fs 12 (l.map encD) none), (1, g), (7, I l.length), (8, I i)], h1⟩) ?_ (m := l.length) (by omega) ⟨0, h, by omega, rfl, hc, by simpa using hv, by simp (maxSteps := 9999999) (dsimp := false) (disch := omega) only [go_sem, List.take_length, hg, hck, Int.ofNat_zero] <;> rfl⟩
  rintro m st rec ⟨i, h1, hi, hlen, hc1, hv1, he⟩ hrec
  rw [he]
  simp (maxSteps := 9999999) (dsimp := false) (disch := omega) only [go_sem, Tryz.a50l7, Tryz.a50r2]
  by_cases hlt : i < l.length
  · have hx : l[i]? = some l[i] := List.getElem?_eq_getElem hlt
    have hdrop : l.drop i = l[i] :: l.drop (i + 1) := List.drop_eq_getElem_cons hlt
    rw [hdrop, List.map_cons, scan] at hv1
    generalize l[i] = x at hx hv1
    simp (maxSteps := 9999999) (dsimp := false) (disch := omega) only [go_sem, dec_t', dec_f', Tryz.a50r3, Tryz.a50r4, hlt, hx, inB]
    refine Hs.mono hv1 fun v h2 ⟨e1, e2, e3⟩ => ?_
    rcases e3 with ⟨rfl, e4⟩ | ⟨rfl, e4⟩
    · simp (maxSteps := 9999999) (dsimp := false) (disch := omega) only [go_sem, dec_t', dec_f', Tryz.a50r6, wrap64]
      have hck2 : h2.map (killO h.length) = h2 := by have := e2; rwa [Clean, show h2.length = h.length by omega] at this
      have htk : h2.take h.length = h2 := List.take_of_length_le (by omega)
      exact hrec (m - 1) _ (by omega) ⟨i + 1, h2, by omega, by omega, e2, e4, by simp (maxSteps := 9999999) (dsimp := false) (disch := omega) only [go_sem, htk, hg, hck2, Int.natCast_add, Int.cast_ofNat_Int] <;> rfl⟩
    · simp (maxSteps := 9999999) (dsimp := false) (disch := omega) only [go_sem, dec_t', dec_f', Tryz.a50r5, wrap64]
      rw [List.take_of_length_le (by omega), show h.length = h2.length by omega, e2]
      exact hK (some i) h2 (by omega) e2 (.inr ⟨i, rfl, hlt⟩) e4
  · have e : i = l.length := by omega
    subst e
    simp (maxSteps := 9999999) (dsimp := false) (disch := omega) only [go_sem, dec_f', Tryz.a50r8]
    rw [List.drop_length, List.map_nil] at hv1
    rw [List.take_of_length_le (by omega), ← hlen, hc1]
    exact hK none h1 hlen hc1 (.inl rfl) hv1

theorem index89 (l : List Int) (hl : l.length < 1000000) (g : AVal) (h : List AObj) (K : Option Nat → List AObj → Prop) (K' : AVal → List AObj → Prop) (hg : killA h.length g = g) (hc : Clean h)
    (hv : scan g 0 (l.map I) h K) (hK : ∀ k h', h'.length = h.length → Clean h' → (k = none ∨ ∃ i, k = some i ∧ i < l.length) → K k h' → K' (I (idx k)) h') : Hs Tryz.prog Tryz.eqs (.func 89 [] []) [.fs 1 (l.map I) none, g] h K' := by
  obtain ⟨N, hN⟩ : ∃ N, N = l.length + 1 := ⟨_, rfl⟩
  have hck : h.map (killO h.length) = h := hc
  refine Tryz.w89 N ?_
  simp (maxSteps := 9999999) (dsimp := false) (disch := omega) only [go_sem, Tryz.c89, Tryz.a89r0, Tryz.a89r1]
  refine loop_rule (fun m st => ∃ (i : Nat) (h1 : List AObj), i + m = l.length ∧ h1.length = h.length ∧ Clean h1 ∧ scan g i ((l.drop i).map I) h1 K ∧
    st = ⟨tm 19 [(0, .fs 1 (l.map I) none), (1, g), (7, I l.length), (8, I i)], h1⟩) ?_ (m := l.length) (by omega) ⟨0, h, by omega, rfl, hc, by simpa using hv, by simp (maxSteps := 9999999) (dsimp := false) (disch := omega) only [go_sem, List.take_length, hg, hck, Int.ofNat_zero, killL_I] <;> rfl⟩
  rintro m st rec ⟨i, h1, hi, hlen, hc1, hv1, he⟩ hrec
  rw [he]
  simp (maxSteps := 9999999) (dsimp := false) (disch := omega) only [go_sem, Tryz.a89l7, Tryz.a89r2]
  by_cases hlt : i < l.length
  · have hx : l[i]? = some l[i] := List.getElem?_eq_getElem hlt
    have hdrop : l.drop i = l[i] :: l.drop (i + 1) := List.drop_eq_getElem_cons hlt
    rw [hdrop, List.map_cons, scan] at hv1
    generalize l[i] = x at hx hv1
    simp (maxSteps := 9999999) (dsimp := false) (disch := omega) only [go_sem, dec_t', dec_f', Tryz.a89r3, Tryz.a89r4, hlt, hx, inB]
    refine Hs.mono hv1 fun v h2 ⟨e1, e2, e3⟩ => ?_
    rcases e3 with ⟨rfl, e4⟩ | ⟨rfl, e4⟩
    · simp (maxSteps := 9999999) (dsimp := false) (disch := omega) only [go_sem, dec_t', dec_f', Tryz.a89r6, wrap64]
      have hck2 : h2.map (killO h.length) = h2 := by have := e2; rwa [Clean, show h2.length = h.length by omega] at this
      have htk : h2.take h.length = h2 := List.take_of_length_le (by omega)
      exact hrec (m - 1) _ (by omega) ⟨i + 1, h2, by omega, by omega, e2, e4, by simp (maxSteps := 9999999) (dsimp := false) (disch := omega) only [go_sem, htk, hg, hck2, Int.natCast_add, Int.cast_ofNat_Int, killL_I] <;> rfl⟩
    · simp (maxSteps := 9999999) (dsimp := false) (disch := omega) only [go_sem, dec_t', dec_f', Tryz.a89r5, wrap64]
      rw [List.take_of_length_le (by omega), show h.length = h2.length by omega, e2]
      exact hK (some i) h2 (by omega) e2 (.inr ⟨i, rfl, hlt⟩) e4
  · have e : i = l.length := by omega
    subst e
    simp (maxSteps := 9999999) (dsimp := false) (disch := omega) only [go_sem, dec_f', Tryz.a89r8]
    rw [List.drop_length, List.map_nil] at hv1
    rw [List.take_of_length_le (by omega), ← hlen, hc1]
    exact hK none h1 hlen hc1 (.inl rfl) hv1

theorem contains48 (l : List Int) (hl : l.length < 1000000) (g : AVal) (h : List AObj) (K : Option Nat → List AObj → Prop) (K' : AVal → List AObj → Prop) (hg : killA h.length g = g) (hc : Clean h)
    (hv : scan g 0 (l.map I) h K) (hK : ∀ k h', h'.length = h.length → Clean h' → K k h' → K' (B k.isSome) h') : Hs Tryz.prog Tryz.eqs (.func 48 [] []) [.fs 1 (l.map I) none, g] h K' := by
  refine Tryz.w48 0 ?_
  simp (maxSteps := 9999999) (dsimp := false) (disch := omega) only [go_sem, Tryz.c48, Tryz.a48r0, Tryz.a48r1]
  refine index89 l hl g h K _ hg hc hv fun k h1 e1 c1 hk hk2 => ?_
  have c1' := c1
  rw [Clean, e1] at c1'
  rcases hk with rfl | ⟨i, rfl, hi⟩
  · simp (maxSteps := 9999999) (dsimp := false) (disch := omega) only [go_sem, idx, dec_t', dec_f']
    rw [List.take_of_length_le (by omega), c1']
    exact hK none h1 e1 c1 hk2
  · simp (maxSteps := 9999999) (dsimp := false) (disch := omega) only [go_sem, idx, dec_t', dec_f']
    rw [List.take_of_length_le (by omega), c1']
    exact hK (some i) h1 e1 c1 hk2

theorem index160 (l : List Rg) (hl : l.length < 1000000) (g : AVal) (h : List AObj) (K : Option Nat → List AObj → Prop) (K' : AVal → List AObj → Prop) (hg : killA h.length g = g) (hc : Clean h)
    (hv : scan g 0 (l.map encRg) h K) (hK : ∀ k h', h'.length = h.length → Clean h' → (k = none ∨ ∃ i, k = some i ∧ i < l.length) → K k h' → K' (I (idx k)) h') : Hs Tryz.prog Tryz.eqs (.func 160 [] []) [.fs 3 (l.map encRg) none, g] h K' := by
  obtain ⟨N, hN⟩ : ∃ N, N = l.length + 1 := ⟨_, rfl⟩
  have hck : h.map (killO h.length) = h := hc
  refine Tryz.w160 N ?_
  simp (maxSteps := 9999999) (dsimp := false) (disch := omega) only [go_sem, Tryz.c160, Tryz.a160r0, Tryz.a160r1]
  refine loop_rule (fun m st => ∃ (i : Nat) (h1 : List AObj), i + m = l.length ∧ h1.length = h.length ∧ Clean h1 ∧ scan g i ((l.drop i).map encRg) h1 K ∧
    st = ⟨tm 19 [(0, .fs 3 (l.map encRg) none), (1, g), (7, I l.length), (8, I i)], h1⟩) ?_ (m := l.length) (by omega) ⟨0, h, by omega, rfl, hc, by simpa using hv, by simp (maxSteps := 9999999) (dsimp := false) (disch := omega) only [go_sem, List.take_length, hg, hck, Int.ofNat_zero] <;> rfl⟩
  rintro m st rec ⟨i, h1, hi, hlen, hc1, hv1, he⟩ hrec
  rw [he]
  simp (maxSteps := 9999999) (dsimp := false) (disch := omega) only [go_sem, Tryz.a160l7, Tryz.a160r2]
  by_cases hlt : i < l.length
  · have hx : l[i]? = some l[i] := List.getElem?_eq_getElem hlt
    have hdrop : l.drop i = l[i] :: l.drop (i + 1) := List.drop_eq_getElem_cons hlt
    rw [hdrop, List.map_cons, scan] at hv1
    generalize l[i] = x at hx hv1
    simp (maxSteps := 9999999) (dsimp := false) (disch := omega) only [go_sem, dec_t', dec_f', Tryz.a160r3, Tryz.a160r4, hlt, hx, inB]
    refine Hs.mono hv1 fun v h2 ⟨e1, e2, e3⟩ => ?_
    rcases e3 with ⟨rfl, e4⟩ | ⟨rfl, e4⟩
    · simp (maxSteps := 9999999) (dsimp := false) (disch := omega) only [go_sem, dec_t', dec_f', Tryz.a160r6, wrap64]
      have hck2 : h2.map (killO h.length) = h2 := by have := e2; rwa [Clean, show h2.length = h.length by omega] at this
      have htk : h2.take h.length = h2 := List.take_of_length_le (by omega)
      exact hrec (m - 1) _ (by omega) ⟨i + 1, h2, by omega, by omega, e2, e4, by simp (maxSteps := 9999999) (dsimp := false) (disch := omega) only [go_sem, htk, hg, hck2, Int.natCast_add, Int.cast_ofNat_Int] <;> rfl⟩
    · simp (maxSteps := 9999999) (dsimp := false) (disch := omega) only [go_sem, dec_t', dec_f', Tryz.a160r5, wrap64]
      rw [List.take_of_length_le (by omega), show h.length = h2.length by omega, e2]
      exact hK (some i) h2 (by omega) e2 (.inr ⟨i, rfl, hlt⟩) e4
  · have e : i = l.length := by omega
    subst e
    simp (maxSteps := 9999999) (dsimp := false) (disch := omega) only [go_sem, dec_f', Tryz.a160r8]
    rw [List.drop_length, List.map_nil] at hv1
    rw [List.take_of_length_le (by omega), ← hlen, hc1]
    exact hK none h1 hlen hc1 (.inl rfl) hv1

theorem contains115 (l : List Rg) (hl : l.length < 1000000) (g : AVal) (h : List AObj) (K : Option Nat → List AObj → Prop) (K' : AVal → List AObj → Prop) (hg : killA h.length g = g) (hc : Clean h)
    (hv : scan g 0 (l.map encRg) h K) (hK : ∀ k h', h'.length = h.length → Clean h' → K k h' → K' (B k.isSome) h') : Hs Tryz.prog Tryz.eqs (.func 115 [] []) [.fs 3 (l.map encRg) none, g] h K' := by
  refine Tryz.w115 0 ?_
  simp (maxSteps := 9999999) (dsimp := false) (disch := omega) only [go_sem, Tryz.c115, Tryz.a115r0, Tryz.a115r1]
  refine index160 l hl g h K _ hg hc hv fun k h1 e1 c1 hk hk2 => ?_
  have c1' := c1
  rw [Clean, e1] at c1'
  rcases hk with rfl | ⟨i, rfl, hi⟩
  · simp (maxSteps := 9999999) (dsimp := false) (disch := omega) only [go_sem, idx, dec_t', dec_f']
    rw [List.take_of_length_le (by omega), c1']
    exact hK none h1 e1 c1 hk2
  · simp (maxSteps := 9999999) (dsimp := false) (disch := omega) only [go_sem, idx, dec_t', dec_f']
    rw [List.take_of_length_le (by omega), c1']
    exact hK (some i) h1 e1 c1 hk2

theorem index161 (l : List Qu) (hl : l.length < 1000000) (g : AVal) (h : List AObj) (K : Option Nat → List AObj → Prop) (K' : AVal → List AObj → Prop) (hg : killA h.length g = g) (hc : Clean h)
    (hv : scan g 0 (l.map encQu) h K) (hK : ∀ k h', h'.length = h.length → Clean h' → (k = none ∨ ∃ i, k = some i ∧ i < l.length) → K k h' → K' (I (idx k)) h') : Hs Tryz.prog Tryz.eqs (.func 161 [] []) [.fs 4 (l.map encQu) none, g] h K' := by
  obtain ⟨N, hN⟩ : ∃ N, N = l.length + 1 := ⟨_, rfl⟩
  have hck : h.map (killO h.length) = h := hc
  refine Tryz.w161 N ?_
  simp (maxSteps := 9999999) (dsimp := false) (disch := omega) only [go_sem, Tryz.c161, Tryz.a161r0, Tryz.a161r1]
  refine loop_rule (fun m st => ∃ (i : Nat) (h1 : List AObj), i + m = l.length ∧ h1.length = h.length ∧ Clean h1 ∧ scan g i ((l.drop i).map encQu) h1 K ∧
    st = ⟨tm 19 [(0, .fs 4 (l.map encQu) none), (1, g), (7, I l.length), (8, I i)], h1⟩) ?_ (m := l.length) (by omega) ⟨0, h, by omega, rfl, hc, by simpa using hv, by simp (maxSteps := 9999999) (dsimp := false) (disch := omega) only [go_sem, List.take_length, hg, hck, Int.ofNat_zero] <;> rfl⟩
  rintro m st rec ⟨i, h1, hi, hlen, hc1, hv1, he⟩ hrec
  rw [he]
  simp (maxSteps := 9999999) (dsimp := false) (disch := omega) only [go_sem, Tryz.a161l7, Tryz.a161r2]
  by_cases hlt : i < l.length
  · have hx : l[i]? = some l[i] := List.getElem?_eq_getElem hlt
    have hdrop : l.drop i = l[i] :: l.drop (i + 1) := List.drop_eq_getElem_cons hlt
    rw [hdrop, List.map_cons, scan] at hv1
    generalize l[i] = x at hx hv1
    simp (maxSteps := 9999999) (dsimp := false) (disch := omega) only [go_sem, dec_t', dec_f', Tryz.a161r3, Tryz.a161r4, hlt, hx, inB]
    refine Hs.mono hv1 fun v h2 ⟨e1, e2, e3⟩ => ?_
    rcases e3 with ⟨rfl, e4⟩ | ⟨rfl, e4⟩
    · simp (maxSteps := 9999999) (dsimp := false) (disch := omega) only [go_sem, dec_t', dec_f', Tryz.a161r6, wrap64]
      have hck2 : h2.map (killO h.length) = h2 := by have := e2; rwa [Clean, show h2.length = h.length by omega] at this
      have htk : h2.take h.length = h2 := List.take_of_length_le (by omega)
      exact hrec (m - 1) _ (by omega) ⟨i + 1, h2, by omega, by omega, e2, e4, by simp (maxSteps := 9999999) (dsimp := false) (disch := omega) only [go_sem, htk, hg, hck2, Int.natCast_add, Int.cast_ofNat_Int] <;> rfl⟩
    · simp (maxSteps := 9999999) (dsimp := false) (disch := omega) only [go_sem, dec_t', dec_f', Tryz.a161r5, wrap64]
      rw [List.take_of_length_le (by omega), show h.length = h2.length by omega, e2]
      exact hK (some i) h2 (by omega) e2 (.inr ⟨i, rfl, hlt⟩) e4
  · have e : i = l.length := by omega
    subst e
    simp (maxSteps := 9999999) (dsimp := false) (disch := omega) only [go_sem, dec_f', Tryz.a161r8]
    rw [List.drop_length, List.map_nil] at hv1
    rw [List.take_of_length_le (by omega), ← hlen, hc1]
    exact hK none h1 hlen hc1 (.inl rfl) hv1

theorem contains117 (l : List Qu) (hl : l.length < 1000000) (g : AVal) (h : List AObj) (K : Option Nat → List AObj → Prop) (K' : AVal → List AObj → Prop) (hg : killA h.length g = g) (hc : Clean h)
    (hv : scan g 0 (l.map encQu) h K) (hK : ∀ k h', h'.length = h.length → Clean h' → K k h' → K' (B k.isSome) h') : Hs Tryz.prog Tryz.eqs (.func 117 [] []) [.fs 4 (l.map encQu) none, g] h K' := by
  refine Tryz.w117 0 ?_
  simp (maxSteps := 9999999) (dsimp := false) (disch := omega) only [go_sem, Tryz.c117, Tryz.a117r0, Tryz.a117r1]
  refine index161 l hl g h K _ hg hc hv fun k h1 e1 c1 hk hk2 => ?_
  have c1' := c1
  rw [Clean, e1] at c1'
  rcases hk with rfl | ⟨i, rfl, hi⟩
  · simp (maxSteps := 9999999) (dsimp := false) (disch := omega) only [go_sem, idx, dec_t', dec_f']
    rw [List.take_of_length_le (by omega), c1']
    exact hK none h1 e1 c1 hk2
  · simp (maxSteps := 9999999) (dsimp := false) (disch := omega) only [go_sem, idx, dec_t', dec_f']
    rw [List.take_of_length_le (by omega), c1']
    exact hK (some i) h1 e1 c1 hk2

theorem index162 (l : List Ar) (hl : l.length < 1000000) (g : AVal) (h : List AObj) (K : Option Nat → List AObj → Prop) (K' : AVal → List AObj → Prop) (hg : killA h.length g = g) (hc : Clean h)
    (hv : scan g 0 (l.map encAr) h K) (hK : ∀ k h', h'.length = h.length → Clean h' → (k = none ∨ ∃ i, k = some i ∧ i < l.length) → K k h' → K' (I (idx k)) h') : Hs Tryz.prog Tryz.eqs (.func 162 [] []) [.fs 2 (l.map encAr) none, g] h K' := by
  obtain ⟨N, hN⟩ : ∃ N, N = l.length + 1 := ⟨_, rfl⟩
  have hck : h.map (killO h.length) = h := hc
  refine Tryz.w162 N ?_
  simp (maxSteps := 9999999) (dsimp := false) (disch := omega) only [go_sem, Tryz.c162, Tryz.a162r0, Tryz.a162r1]
  refine loop_rule (fun m st => ∃ (i : Nat) (h1 : List AObj), i + m = l.length ∧ h1.length = h.length ∧ Clean h1 ∧ scan g i ((l.drop i).map encAr) h1 K ∧
    st = ⟨tm 19 [(0, .fs 2 (l.map encAr) none), (1, g), (7, I l.length), (8, I i)], h1⟩) ?_ (m := l.length) (by omega) ⟨0, h, by omega, rfl, hc, by simpa using hv, by simp (maxSteps := 9999999) (dsimp := false) (disch := omega) only [go_sem, List.take_length, hg, hck, Int.ofNat_zero] <;> rfl⟩
  rintro m st rec ⟨i, h1, hi, hlen, hc1, hv1, he⟩ hrec
  rw [he]
  simp (maxSteps := 9999999) (dsimp := false) (disch := omega) only [go_sem, Tryz.a162l7, Tryz.a162r2]
  by_cases hlt : i < l.length
  · have hx : l[i]? = some l[i] := List.getElem?_eq_getElem hlt
    have hdrop : l.drop i = l[i] :: l.drop (i + 1) := List.drop_eq_getElem_cons hlt
    rw [hdrop, List.map_cons, scan] at hv1
    generalize l[i] = x at hx hv1
    simp (maxSteps := 9999999) (dsimp := false) (disch := omega) only [go_sem, dec_t', dec_f', Tryz.a162r3, Tryz.a162r4, hlt, hx, inB]
    refine Hs.mono hv1 fun v h2 ⟨e1, e2, e3⟩ => ?_
    rcases e3 with ⟨rfl, e4⟩ | ⟨rfl, e4⟩
    · simp (maxSteps := 9999999) (dsimp := false) (disch := omega) only [go_sem, dec_t', dec_f', Tryz.a162r6, wrap64]
      have hck2 : h2.map (killO h.length) = h2 := by have := e2; rwa [Clean, show h2.length = h.length by omega] at this
      have htk : h2.take h.length = h2 := List.take_of_length_le (by omega)
      exact hrec (m - 1) _ (by omega) ⟨i + 1, h2, by omega, by omega, e2, e4, by simp (maxSteps := 9999999) (dsimp := false) (disch := omega) only [go_sem, htk, hg, hck2, Int.natCast_add, Int.cast_ofNat_Int] <;> rfl⟩
    · simp (maxSteps := 9999999) (dsimp := false) (disch := omega) only [go_sem, dec_t', dec_f', Tryz.a162r5, wrap64]
      rw [List.take_of_length_le (by omega), show h.length = h2.length by omega, e2]
      exact hK (some i) h2 (by omega) e2 (.inr ⟨i, rfl, hlt⟩) e4
  · have e : i = l.length := by omega
    subst e
    simp (maxSteps := 9999999) (dsimp := false) (disch := omega) only [go_sem, dec_f', Tryz.a162r8]
    rw [List.drop_length, List.map_nil] at hv1
    rw [List.take_of_length_le (by omega), ← hlen, hc1]
    exact hK none h1 hlen hc1 (.inl rfl) hv1

theorem contains120 (l : List Ar) (hl : l.length < 1000000) (g : AVal) (h : List AObj) (K : Option Nat → List AObj → Prop) (K' : AVal → List AObj → Prop) (hg : killA h.length g = g) (hc : Clean h)
    (hv : scan g 0 (l.map encAr) h K) (hK : ∀ k h', h'.length = h.length → Clean h' → K k h' → K' (B k.isSome) h') : Hs Tryz.prog Tryz.eqs (.func 120 [] []) [.fs 2 (l.map encAr) none, g] h K' := by
  refine Tryz.w120 0 ?_
  simp (maxSteps := 9999999) (dsimp := false) (disch := omega) only [go_sem, Tryz.c120, Tryz.a120r0, Tryz.a120r1]
  refine index162 l hl g h K _ hg hc hv fun k h1 e1 c1 hk hk2 => ?_
  have c1' := c1
  rw [Clean, e1] at c1'
  rcases hk with rfl | ⟨i, rfl, hi⟩
  · simp (maxSteps := 9999999) (dsimp := false) (disch := omega) only [go_sem, idx, dec_t', dec_f']
    rw [List.take_of_length_le (by omega), c1']
    exact hK none h1 e1 c1 hk2
  · simp (maxSteps := 9999999) (dsimp := false) (disch := omega) only [go_sem, idx, dec_t', dec_f']
    rw [List.take_of_length_le (by omega), c1']
    exact hK (some i) h1 e1 c1 hk2

theorem index176 (l : List Hd) (hl : l.length < 1000000) (g : AVal) (h : List AObj) (K : Option Nat → List AObj → Prop) (K' : AVal → List AObj → Prop) (hg : killA h.length g = g) (hc : Clean h)
    (hv : scan g 0 (l.map encHd) h K) (hK : ∀ k h', h'.length = h.length → Clean h' → (k = none ∨ ∃ i, k = some i ∧ i < l.length) → K k h' → K' (I (idx k)) h') : Hs Tryz.prog Tryz.eqs (.func 176 [] []) [.fs 5 (l.map encHd) none, g] h K' := by
  obtain ⟨N, hN⟩ : ∃ N, N = l.length + 1 := ⟨_, rfl⟩
  have hck : h.map (killO h.length) = h := hc
  refine Tryz.w176 N ?_
  simp (maxSteps := 9999999) (dsimp := false) (disch := omega) only [go_sem, Tryz.c176, Tryz.a176r0, Tryz.a176r1]
  refine loop_rule (fun m st => ∃ (i : Nat) (h1 : List AObj), i + m = l.length ∧ h1.length = h.length ∧ Clean h1 ∧ scan g i ((l.drop i).map encHd) h1 K ∧
    st = ⟨tm 19 [(0, .fs 5 (l.map encHd) none), (1, g), (7, I l.length), (8, I i)], h1⟩) ?_ (m := l.length) (by omega) ⟨0, h, by omega, rfl, hc, by simpa using hv, by simp (maxSteps := 9999999) (dsimp := false) (disch := omega) only [go_sem, List.take_length, hg, hck, Int.ofNat_zero] <;> rfl⟩
  rintro m st rec ⟨i, h1, hi, hlen, hc1, hv1, he⟩ hrec
  rw [he]
  simp (maxSteps := 9999999) (dsimp := false) (disch := omega) only [go_sem, Tryz.a176l7, Tryz.a176r2]
  by_cases hlt : i < l.length
  · have hx : l[i]? = some l[i] := List.getElem?_eq_getElem hlt
    have hdrop : l.drop i = l[i] :: l.drop (i + 1) := List.drop_eq_getElem_cons hlt
    rw [hdrop, List.map_cons, scan] at hv1
    generalize l[i] = x at hx hv1
    simp (maxSteps := 9999999) (dsimp := false) (disch := omega) only [go_sem, dec_t', dec_f', Tryz.a176r3, Tryz.a176r4, hlt, hx, inB]
    refine Hs.mono hv1 fun v h2 ⟨e1, e2, e3⟩ => ?_
    rcases e3 with ⟨rfl, e4⟩ | ⟨rfl, e4⟩
    · simp (maxSteps := 9999999) (dsimp := false) (disch := omega) only [go_sem, dec_t', dec_f', Tryz.a176r6, wrap64]
      have hck2 : h2.map (killO h.length) = h2 := by have := e2; rwa [Clean, show h2.length = h.length by omega] at this
      have htk : h2.take h.length = h2 := List.take_of_length_le (by omega)
      exact hrec (m - 1) _ (by omega) ⟨i + 1, h2, by omega, by omega, e2, e4, by simp (maxSteps := 9999999) (dsimp := false) (disch := omega) only [go_sem, htk, hg, hck2, Int.natCast_add, Int.cast_ofNat_Int] <;> rfl⟩
    · simp (maxSteps := 9999999) (dsimp := false) (disch := omega) only [go_sem, dec_t', dec_f', Tryz.a176r5, wrap64]
      rw [List.take_of_length_le (by omega), show h.length = h2.length by omega, e2]
      exact hK (some i) h2 (by omega) e2 (.inr ⟨i, rfl, hlt⟩) e4
  · have e : i = l.length := by omega
    subst e
    simp (maxSteps := 9999999) (dsimp := false) (disch := omega) only [go_sem, dec_f', Tryz.a176r8]
    rw [List.drop_length, List.map_nil] at hv1
    rw [List.take_of_length_le (by omega), ← hlen, hc1]
    exact hK none h1 hlen hc1 (.inl rfl) hv1

theorem contains142 (l : List Hd) (hl : l.length < 1000000) (g : AVal) (h : List AObj) (K : Option Nat → List AObj → Prop) (K' : AVal → List AObj → Prop) (hg : killA h.length g = g) (hc : Clean h)
    (hv : scan g 0 (l.map encHd) h K) (hK : ∀ k h', h'.length = h.length → Clean h' → K k h' → K' (B k.isSome) h') : Hs Tryz.prog Tryz.eqs (.func 142 [] []) [.fs 5 (l.map encHd) none, g] h K' := by
  refine Tryz.w142 0 ?_
  simp (maxSteps := 9999999) (dsimp := false) (disch := omega) only [go_sem, Tryz.c142, Tryz.a142r0, Tryz.a142r1]
  refine index176 l hl g h K _ hg hc hv fun k h1 e1 c1 hk hk2 => ?_
  have c1' := c1
  rw [Clean, e1] at c1'
  rcases hk with rfl | ⟨i, rfl, hi⟩
  · simp (maxSteps := 9999999) (dsimp := false) (disch := omega) only [go_sem, idx, dec_t', dec_f']
    rw [List.take_of_length_le (by omega), c1']
    exact hK none h1 e1 c1 hk2
  · simp (maxSteps := 9999999) (dsimp := false) (disch := omega) only [go_sem, idx, dec_t', dec_f']
    rw [List.take_of_length_le (by omega), c1']
    exact hK (some i) h1 e1 c1 hk2

theorem index181 (l : List E) (hl : l.length < 1000000) (g : AVal) (h : List AObj) (K : Option Nat → List AObj → Prop) (K' : AVal → List AObj → Prop) (hg : killA h.length g = g) (hc : Clean h)
    (hv : scan g 0 (l.map encE) h K) (hK : ∀ k h', h'.length = h.length → Clean h' → (k = none ∨ ∃ i, k = some i ∧ i < l.length) → K k h' → K' (I (idx k)) h') : Hs Tryz.prog Tryz.eqs (.func 181 [] []) [.fs 4 (l.map encE) none, g] h K' := by
  obtain ⟨N, hN⟩ : ∃ N, N = l.length + 1 := ⟨_, rfl⟩
  have hck : h.map (killO h.length) = h := hc
  refine Tryz.w181 N ?_
  simp (maxSteps := 9999999) (dsimp := false) (disch := omega) only [go_sem, Tryz.c181, Tryz.a181r0, Tryz.a181r1]
  refine loop_rule (fun m st => ∃ (i : Nat) (h1 : List AObj), i + m = l.length ∧ h1.length = h.length ∧ Clean h1 ∧ scan g i ((l.drop i).map encE) h1 K ∧
    st = ⟨tm 19 [(0, .fs 4 (l.map encE) none), (1, g), (7, I l.length), (8, I i)], h1⟩) ?_ (m := l.length) (by omega) ⟨0, h, by omega, rfl, hc, by simpa using hv, by simp (maxSteps := 9999999) (dsimp := false) (disch := omega) only [go_sem, List.take_length, hg, hck, Int.ofNat_zero] <;> rfl⟩
  rintro m st rec ⟨i, h1, hi, hlen, hc1, hv1, he⟩ hrec
  rw [he]
  simp (maxSteps := 9999999) (dsimp := false) (disch := omega) only [go_sem, Tryz.a181l7, Tryz.a181r2]
  by_cases hlt : i < l.length
  · have hx : l[i]? = some l[i] := List.getElem?_eq_getElem hlt
    have hdrop : l.drop i = l[i] :: l.drop (i + 1) := List.drop_eq_getElem_cons hlt
    rw [hdrop, List.map_cons, scan] at hv1
    generalize l[i] = x at hx hv1
    simp (maxSteps := 9999999) (dsimp := false) (disch := omega) only [go_sem, dec_t', dec_f', Tryz.a181r3, Tryz.a181r4, hlt, hx, inB]
    refine Hs.mono hv1 fun v h2 ⟨e1, e2, e3⟩ => ?_
    rcases e3 with ⟨rfl, e4⟩ | ⟨rfl, e4⟩
    · simp (maxSteps := 9999999) (dsimp := false) (disch := omega) only [go_sem, dec_t', dec_f', Tryz.a181r6, wrap64]
      have hck2 : h2.map (killO h.length) = h2 := by have := e2; rwa [Clean, show h2.length = h.length by omega] at this
      have htk : h2.take h.length = h2 := List.take_of_length_le (by omega)
      exact hrec (m - 1) _ (by omega) ⟨i + 1, h2, by omega, by omega, e2, e4, by simp (maxSteps := 9999999) (dsimp := false) (disch := omega) only [go_sem, htk, hg, hck2, Int.natCast_add, Int.cast_ofNat_Int] <;> rfl⟩
    · simp (maxSteps := 9999999) (dsimp := false) (disch := omega) only [go_sem, dec_t', dec_f', Tryz.a181r5, wrap64]
      rw [List.take_of_length_le (by omega), show h.length = h2.length by omega, e2]
      exact hK (some i) h2 (by omega) e2 (.inr ⟨i, rfl, hlt⟩) e4
  · have e : i = l.length := by omega
    subst e
    simp (maxSteps := 9999999) (dsimp := false) (disch := omega) only [go_sem, dec_f', Tryz.a181r8]
    rw [List.drop_length, List.map_nil] at hv1
    rw [List.take_of_length_le (by omega), ← hlen, hc1]
    exact hK none h1 hlen hc1 (.inl rfl) hv1

theorem contains166 (l : List E) (hl : l.length < 1000000) (g : AVal) (h : List AObj) (K : Option Nat → List AObj → Prop) (K' : AVal → List AObj → Prop) (hg : killA h.length g = g) (hc : Clean h)
    (hv : scan g 0 (l.map encE) h K) (hK : ∀ k h', h'.length = h.length → Clean h' → K k h' → K' (B k.isSome) h') : Hs Tryz.prog Tryz.eqs (.func 166 [] []) [.fs 4 (l.map encE) none, g] h K' := by
  refine Tryz.w166 0 ?_
  simp (maxSteps := 9999999) (dsimp := false) (disch := omega) only [go_sem, Tryz.c166, Tryz.a166r0, Tryz.a166r1]
  refine index181 l hl g h K _ hg hc hv fun k h1 e1 c1 hk hk2 => ?_
  have c1' := c1
  rw [Clean, e1] at c1'
  rcases hk with rfl | ⟨i, rfl, hi⟩
  · simp (maxSteps := 9999999) (dsimp := false) (disch := omega) only [go_sem, idx, dec_t', dec_f']
    rw [List.take_of_length_le (by omega), c1']
    exact hK none h1 e1 c1 hk2
  · simp (maxSteps := 9999999) (dsimp := false) (disch := omega) only [go_sem, idx, dec_t', dec_f']
    rw [List.take_of_length_le (by omega), c1']
    exact hK (some i) h1 e1 c1 hk2

end Go.Par
