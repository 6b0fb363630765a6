/- Ranges over functions: the rounds, one by one. -/
import Derived.Test.YtdggbdjpcbiofaaGreatLs
set_option linter.unusedSimpArgs false
set_option linter.unusedVariables false
set_option maxHeartbeats 4000000
set_option maxRecDepth 100000
namespace Go.Par
open Go.Ai Go.Proofs

/-- What lies in the heap refers to the heap alone. -/
def Clean (h : List AObj) : Prop := h.map (killO h.length) = h

/-- The rounds over values, until one of them ends the range. -/
def visit (g : AVal) : List AVal → List AObj → (Bool → List AObj → Prop) → Prop
  | [], h, K => K true h
  | x :: xs, h, K => Hs Tryz.prog Tryz.eqs g [x] h fun v h' => h'.length = h.length ∧ Clean h' ∧ (v = .bool true ∧ visit g xs h' K ∨ v = .bool false ∧ K false h')

theorem visit_append {g : AVal} : ∀ {xs ys : List AVal} {h : List AObj} {K : Bool → List AObj → Prop}, visit g (xs ++ ys) h K →
    Clean h → visit g xs h fun b h' => h'.length = h.length ∧ Clean h' ∧ (b = true ∧ visit g ys h' K ∨ b = false ∧ K false h')
  | [], ys, h, K, hv, hc => ⟨rfl, hc, .inl ⟨rfl, hv⟩⟩
  | x :: xs, ys, h, K, hv, hc => by
    have hv : Hs Tryz.prog Tryz.eqs g [x] h fun v h' => h'.length = h.length ∧ Clean h' ∧ (v = .bool true ∧ visit g (xs ++ ys) h' K ∨ v = .bool false ∧ K false h') := hv
    refine Hs.mono hv fun v h' ⟨h1, h2, h3⟩ => ⟨h1, h2, ?_⟩
    rcases h3 with ⟨h3, h4⟩ | ⟨h3, h4⟩
    · refine .inl ⟨h3, ?_⟩
      have := visit_append h4 h2
      simp only [h1] at this
      exact this
    · exact .inr ⟨h3, h1, h2, .inr ⟨rfl, h4⟩⟩

/-- A call beside objects that it does not see. -/
theorem Hs.beside {g : AVal} {args : List AVal} {h more : List AObj} {K : AVal → List AObj → Prop} (hg : killA h.length g = g) (ha : killL h.length args = args) (hc : Clean h)
    (hh : Hs Tryz.prog Tryz.eqs g args h fun v h' => ∃ b, v = .bool b ∧ h'.length = h.length ∧ Clean h' ∧ K (.bool b) (h' ++ more)) : Hs Tryz.prog Tryz.eqs g args (h ++ more) K := by
  refine hh.frame hg ha hc fun z h' ⟨b, e, h1, h2, h3⟩ => ⟨by omega, ?_⟩
  subst e
  rw [List.take_of_length_le (by omega), ← h1, h2, kill_bool]
  exact h3

/-- Statements, each ahead of those in it, with their depths. -/
def flatD (d : Int) : List S → List (S × Int)
  | [] => []
  | .mk site op n m v x y c args ptrs body els :: l => (.mk site op n m v x y c args ptrs body els, d) :: (flatD (d + 1) body ++ flatD (d + 1) els ++ flatD d l)

def encPl (p : S × Int) : AVal := .agg (cellsS p.1 ++ [.int .i64 p.2])

theorem flatD_cons (d : Int) (s : S) (l : List S) : flatD d (s :: l) = (s, d) :: (flatD (d + 1) s.body ++ flatD (d + 1) s.els ++ flatD d l) := by
  cases s; rw [flatD]; rfl

theorem flatD_nil (d : Int) : flatD d [] = [] := by rw [flatD]

theorem get_here (h t : List AObj) : (h ++ t)[h.length]? = t[0]? := by rw [List.getElem?_append_right (Nat.le_refl _), Nat.sub_self]
theorem set_here (h t : List AObj) (x : AObj) : (h ++ t).set h.length x = h ++ t.set 0 x := by rw [List.set_append_right _ _ (Nat.le_refl _), Nat.sub_self]

theorem walk_spec : ∀ (n : Nat) (l : List S) (d : Int) (g : AVal) (h : List AObj) (K : Bool → List AObj → Prop), (flatL l).length ≤ n → 0 ≤ d → d + n < 1000000000000 → killA h.length g = g → storable g = true → g.cells = [g] → Clean h →
    visit g ((flatD d l).map encPl) h K → ∀ K' : AVal → List AObj → Prop, (∀ b h', h'.length = h.length → Clean h' → K b h' → K' (.bool b) h') → Hs Tryz.prog Tryz.eqs (.func 88 [] []) [.fs 20 (l.map encS) none, I d, g] h K' := by
  intro n
  induction n with
  | zero =>
    intro l d g h K hl hd hdn hg hg1 hg2 hc hv K' hK
    have hll := flatL_len l
    have h0 : l = [] := List.eq_nil_of_length_eq_zero (by omega)
    subst h0
    have hck : h.map (killO h.length) = h := hc
    obtain ⟨N, hN⟩ : ∃ N, N = 1 := ⟨_, rfl⟩
    refine Tryz.w88 N ?_
    simp (maxSteps := 9999999) (dsimp := false) (disch := omega) only [go_sem, Tryz.c88, Tryz.a88r0, Tryz.a88r1]
    refine loop_rule (fun m st => m = 0 ∧ st = ⟨tm 40 [(1, I d), (2, g), (9, .fs 20 [] none), (10, I 0), (11, I 0)], h⟩) ?_ (m := 0) (by omega) ⟨rfl, by simp (maxSteps := 9999999) (dsimp := false) (disch := omega) only [go_sem, List.take_length, hg, hck, Int.ofNat_zero] <;> rfl⟩
    rintro m st rec ⟨_, he⟩ hrec
    rw [he]
    simp (maxSteps := 9999999) (dsimp := false) (disch := omega) only [go_sem, Tryz.a88l7, Tryz.a88r2, Tryz.a88r8, dec_f']
    rw [List.take_of_length_le (by omega), hck]
    simp only [flatD_nil, List.map_nil, visit] at hv
    exact hK true h rfl hc hv
  | succ n ih =>
    intro l d g h K hl hd hdn hg hg1 hg2 hc hv K' hK
    have hll := flatL_len l
    have hck : h.map (killO h.length) = h := hc
    obtain ⟨N, hN⟩ : ∃ N, N = l.length + 1 := ⟨_, rfl⟩
    refine Tryz.w88 N ?_
    simp (maxSteps := 9999999) (dsimp := false) (disch := omega) only [go_sem, Tryz.c88, Tryz.a88r0, Tryz.a88r1]
    refine loop_rule (fun m st => ∃ (i : Nat) (h1 : List AObj), i + m = l.length ∧ h1.length = h.length ∧ Clean h1 ∧ visit g ((flatD d (l.drop i)).map encPl) h1 K ∧
      st = ⟨tm 40 [(1, I d), (2, g), (9, .fs 20 (l.map encS) none), (10, I l.length), (11, I i)], h1⟩) ?_ (m := l.length) (by omega) ⟨0, h, by omega, rfl, hc, by simpa using hv, by simp (maxSteps := 9999999) (dsimp := false) (disch := omega) only [go_sem, List.take_length, hg, hck, Int.ofNat_zero] <;> rfl⟩
    rintro m st rec ⟨i, h1, hi, hlen, hc1, hv1, he⟩ hrec
    rw [he]
    simp (maxSteps := 9999999) (dsimp := false) (disch := omega) only [go_sem, Tryz.a88l7, Tryz.a88r2]
    by_cases hlt : i < l.length
    · have hx : l[i]? = some l[i] := List.getElem?_eq_getElem hlt
      simp (maxSteps := 9999999) (dsimp := false) (disch := omega) only [go_sem, dec_t', dec_f', Tryz.a88r3, Tryz.a88r4, hlt, hx, get_here, set_here, cellsS, cellsE, cellsC]
      have hdrop : l.drop i = l[i] :: l.drop (i + 1) := List.drop_eq_getElem_cons hlt
      rw [hdrop, flatD_cons, List.map_cons, List.map_append, List.map_append] at hv1
      have hv2 : Hs Tryz.prog Tryz.eqs g [encPl (l[i], d)] h1 fun v h' => h'.length = h1.length ∧ Clean h' ∧ (v = .bool true ∧ visit g ((flatD (d + 1) l[i].body).map encPl ++ (flatD (d + 1) l[i].els).map encPl ++ (flatD d (l.drop (i + 1))).map encPl) h' K ∨ v = .bool false ∧ K false h') := hv1
      refine Hs.beside (h := h1) (by rw [hlen]; exact hg) (by simp (maxSteps := 9999999) (dsimp := false) (disch := omega) only [go_sem]) hc1 (Hs.mono hv2 fun v h2 ⟨e1, e2, e3⟩ => ?_)
      rcases e3 with ⟨rfl, e4⟩ | ⟨rfl, e4⟩
      · refine ⟨true, rfl, e1, e2, ?_⟩
        rw [← e1]
        have hsz : (flatL l[i].body).length + (flatL l[i].els).length + 1 ≤ (flatL l).length := by
          have := flatL_take hlt; have := flatL_take_le l (i + 1); omega
        have e4' : visit g ((flatD (d + 1) l[i].body).map encPl ++ ((flatD (d + 1) l[i].els).map encPl ++ (flatD d (l.drop (i + 1))).map encPl)) h2 K := by rw [← List.append_assoc]; exact e4
        have v1 := visit_append e4' e2
        have hg2' : killA h2.length g = g := by rw [show h2.length = h.length by omega]; exact hg
        simp (maxSteps := 9999999) (dsimp := false) (disch := omega) only [go_sem, dec_t', dec_f', get_here, set_here, wrap64]
        refine Hs.beside (h := h2) rfl (by simp (dsimp := false) only [go_sem, hg2']) e2 (ih l[i].body (d + 1) g h2 _ (by omega) (by omega) (by omega) hg2' hg1 hg2 e2 v1 _ fun b h3 l3 c3 hb => ⟨b, rfl, l3, c3, ?_⟩)
        obtain ⟨_, _, hb⟩ := hb
        rcases hb with ⟨rfl, e5⟩ | ⟨rfl, e5⟩
        · have v2 := visit_append e5 c3
          have hg3' : killA h3.length g = g := by rw [show h3.length = h.length by omega]; exact hg
          rw [← l3]
          simp (maxSteps := 9999999) (dsimp := false) (disch := omega) only [go_sem, dec_t', dec_f', get_here, set_here, wrap64]
          refine Hs.beside (h := h3) rfl (by simp (dsimp := false) only [go_sem, hg3']) c3 (ih l[i].els (d + 1) g h3 _ (by omega) (by omega) (by omega) hg3' hg1 hg2 c3 v2 _ fun b h4 l4 c4 hb => ⟨b, rfl, l4, c4, ?_⟩)
          obtain ⟨_, _, hb⟩ := hb
          rcases hb with ⟨rfl, e6⟩ | ⟨rfl, e6⟩
          · simp (maxSteps := 9999999) (dsimp := false) (disch := omega) only [go_sem, dec_t', dec_f', Tryz.a88r6, wrap64]
            have hck4 : h4.map (killO h.length) = h4 := by have := c4; rwa [Clean, show h4.length = h.length by omega] at this
            have htk : ∀ t, (h4 ++ t).take h.length = h4 := fun t => List.take_left' (by omega)
            exact hrec (m - 1) _ (by omega) ⟨i + 1, h4, by omega, by omega, c4, e6, by simp (maxSteps := 9999999) (dsimp := false) (disch := omega) only [go_sem, htk, hg, hck4, Int.natCast_add, Int.cast_ofNat_Int] <;> rfl⟩
          · simp (maxSteps := 9999999) (dsimp := false) (disch := omega) only [go_sem, dec_t', dec_f', Tryz.a88r5]
            rw [List.take_left' (by omega), show h.length = h4.length by omega, c4]
            exact hK false h4 (by omega) c4 e6
        · simp (maxSteps := 9999999) (dsimp := false) (disch := omega) only [go_sem, dec_t', dec_f', Tryz.a88r5]
          rw [List.take_left' (by omega), show h.length = h3.length by omega, c3]
          exact hK false h3 (by omega) c3 e5
      · refine ⟨false, rfl, e1, e2, ?_⟩
        simp (maxSteps := 9999999) (dsimp := false) (disch := omega) only [go_sem, dec_t', dec_f', Tryz.a88r5]
        rw [List.take_left' (by omega), show h.length = h2.length by omega, e2]
        exact hK false h2 (by omega) e2 e4
    · have e : i = l.length := by omega
      subst e
      simp (maxSteps := 9999999) (dsimp := false) (disch := omega) only [go_sem, dec_f', Tryz.a88r8]
      rw [List.drop_length, flatD_nil, List.map_nil] at hv1
      rw [List.take_of_length_le (by omega), ← hlen, hc1]
      exact hK true h1 hlen hc1 hv1
end Go.Par
