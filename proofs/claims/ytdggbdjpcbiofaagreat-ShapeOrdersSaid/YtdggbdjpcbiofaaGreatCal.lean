/- Calls: what a definition calls, sorted. -/
import Derived.Test.YtdggbdjpcbiofaaGreatSrt
import Derived.Test.YtdggbdjpcbiofaaGreatRnd
import Derived.Test.YtdggbdjpcbiofaaGreatTabC
set_option linter.unusedSimpArgs false
set_option linter.unusedVariables false
set_option maxHeartbeats 4000000
set_option maxRecDepth 100000
namespace Go.Par
open Go.Ai Go.Proofs

def sortI (l : List Int) : List Int := l.mergeSort fun a b => decide (a ≤ b)
def callsD (d : D) : List Int := cmpct (sortI (callsT (flatL d.body)))

theorem sortI_perm (l : List Int) : (sortI l).Perm l := List.mergeSort_perm _ _
theorem sortI_is {l s : List Int} (h1 : s.Perm l) (h2 : SortedI s) : s = sortI l := by
  refine List.Perm.eq_of_pairwise (le := (· ≤ ·)) (fun a b _ _ h3 h4 => Int.le_antisymm h3 h4) h2 ?_ (h1.trans (sortI_perm l).symm)
  have := List.pairwise_mergeSort (le := fun a b : Int => decide (a ≤ b)) (fun a b c h1 h2 => by simp at h1 h2 ⊢; omega) (fun a b => by simp; omega) l
  simpa [sortI] using this
theorem killL_I1 (n : Nat) (l : List Int) (x : Int) : killL n (l.map I ++ [I x]) = l.map I ++ [I x] := by
  rw [show l.map I ++ [I x] = (l ++ [x]).map I by simp, killL_I]
theorem mem_cmpct {x : Int} : ∀ {l : List Int}, x ∈ cmpct l ↔ x ∈ l
  | [] => by simp [cmpct]
  | [a] => by simp [cmpct]
  | a :: b :: l => by
    have ih := mem_cmpct (x := x) (l := b :: l)
    rw [cmpct]
    split
    · rename_i h; subst h; rw [ih]; simp
    · rw [List.mem_cons, ih, List.mem_cons (a := x) (b := a)]
theorem mem_callsD {d : D} {x : Int} : x ∈ callsD d ↔ x ∈ callsT (flatL d.body) := by
  rw [callsD, mem_cmpct, (sortI_perm _).mem_iff]

def cHeap (d : D) (l : List Int) (s : AVal) : List AObj := [.rows 12 [encD d], .grow 1 (l.map I), .rows 1 [.gs 1 1 l.length], .rows 1 [.fs 20 (d.body.map encS) none], .rows 1 [I 1],
  .loop true none (tm 23 [(0, encD d), (1, .hp 0 12 0 0), (2, .nils), (3, .hp 2 1 0 0), (5, .hp 0 12 0 11), (6, .fs 20 (d.body.map encS) none), (7, .func 87 [] [.hp 3 1 0 0, .hp 4 1 0 0])]) [8] Tryz.a23r3 Tryz.a23y6]

theorem calls_visit (d : D) : ∀ (xs : List (S × Int)) (l : List Int), l.length + xs.length < 1000000 → visit (.yield 5) (xs.map encPl) (cHeap d l .nils) fun b h => b = true ∧ h = cHeap d (l ++ callsT (xs.map (·.1))) .nils
  | [], l, hl => ⟨rfl, by simp [callsT]⟩
  | x :: xs, l, hl => by
    simp only [List.length_cons] at hl
    rw [List.map_cons, visit]
    by_cases hx : x.1.op = 13
    · refine Hs.mono (K := fun v h => v = .bool true ∧ h = cHeap d (l ++ [x.1.m]) .nils) ?_ fun v h' ⟨e1, e2⟩ => ?_
      · refine round_rule Tryz.eqs_plain 0 (l := 5) (by simp [encPl]) rfl rfl ?_
        simp (maxSteps := 9999999) (dsimp := false) (disch := omega) only [go_sem, cHeap, Tryz.a23y6, Tryz.a23r3, Tryz.a23r4, Tryz.a23r5, dec_t', appLim, hx, killL_I1]
        simp only [List.map_append, List.length_append, List.map_cons, List.map_nil, List.length_cons, List.length_nil]
      · subst e2
        refine ⟨rfl, by rw [Clean]; simp (maxSteps := 9999999) (dsimp := false) (disch := omega) only [go_sem, cHeap, dec_t', killL_I], .inl ⟨e1, ?_⟩⟩
        have := calls_visit d xs (l ++ [x.1.m]) (by simp; omega)
        simpa [callsT, hx] using this
    · refine Hs.mono (K := fun v h => v = .bool true ∧ h = cHeap d l .nils) ?_ fun v h' ⟨e1, e2⟩ => ?_
      · refine round_rule Tryz.eqs_plain 0 (l := 5) (by simp [encPl]) rfl rfl ?_
        simp (maxSteps := 9999999) (dsimp := false) (disch := omega) only [go_sem, cHeap, Tryz.a23y6, Tryz.a23r3, Tryz.a23r4, Tryz.a23r5, dec_f', appLim, hx, killL_I]
      · subst e2
        refine ⟨rfl, by rw [Clean]; simp (maxSteps := 9999999) (dsimp := false) (disch := omega) only [go_sem, cHeap, dec_t', killL_I], .inl ⟨e1, ?_⟩⟩
        have := calls_visit d xs l (by omega)
        simpa [callsT, hx] using this

theorem calls_walk (d : D) (hl : (flatL d.body).length < 100000) (h12 : (callsT (flatL d.body)).length ≤ 12) : F 23 [encD d] (Ints (callsD d)) := by
  refine Fun.of_empty rfl (by simp (maxSteps := 9999999) (dsimp := false) (disch := omega) only [go_sem]) ?_
  refine Tryz.w23 0 ?_
  simp (maxSteps := 9999999) (dsimp := false) (disch := omega) only [go_sem, Tryz.c23, Tryz.a23r0, Tryz.a23r1, Tryz.a23r2]
  refine all_walk _ _ _ _ ?_
  simp (maxSteps := 9999999) (dsimp := false) (disch := omega) only [go_sem, dec_t']
  have hfl : (flatD 1 d.body).length = (flatL d.body).length := by rw [← flatD_fst d.body 1]; simp
  have hv := calls_visit d (flatD 1 d.body) [] (by simp; omega)
  rw [flatD_fst, List.nil_append] at hv
  refine all1_walk d.body 1 3 4 5 (cHeap d [] .nils) _ _ rfl rfl (by simp [cHeap]) ⟨by omega, by omega⟩ (by rw [Clean]; simp (maxSteps := 9999999) (dsimp := false) (disch := omega) only [go_sem, cHeap, dec_t', killL_I]) hv ?_
  rintro v b h' e1 e2 ⟨rfl, rfl⟩
  rw [callsD]
  generalize callsT (flatL d.body) = l at h12
  have hsr : ∀ s, s.Perm l → SortedI s → s = sortI l := fun s h1 h2 => sortI_is h1 h2
  have hsl := (sortI_perm l).length_eq
  generalize sortI l = sl at hsr hsl
  cases l with
  | nil =>
    simp (maxSteps := 9999999) (dsimp := false) (disch := omega) only [go_sem, cHeap, Tryz.a23r7, Tryz.a23r8, dec_t']
    refine sort0_walk _ _ ?_
    simp (maxSteps := 9999999) (dsimp := false) (disch := omega) only [go_sem, dec_t']
    refine cmpct0_walk _ _ ?_
    simp (maxSteps := 9999999) (dsimp := false) (disch := omega) only [go_sem]
    have : sl = [] := (hsr [] (.refl _) .nil).symm
    rw [this]
    exact .refl _
  | cons x l =>
    simp (maxSteps := 9999999) (dsimp := false) (disch := omega) only [go_sem, cHeap, Tryz.a23r7, killL_I, List.length_map, beq_self_eq_true, dec_t']
    refine Hs.frame (h1 := [.rows 12 [encD d], .rows 1 ((x :: l).map I)]) rfl rfl (by simp (maxSteps := 9999999) (dsimp := false) (disch := omega) only [go_sem, killL_I, dec_t']) (K1 := fun v h => v = .tuple [] ∧ h = [.rows 12 [encD d], .rows 1 (sl.map I)])
      (sort_walk [.rows 12 [encD d]] ⟨fun n _ => by simp (maxSteps := 9999999) (dsimp := false) (disch := omega) only [go_sem]⟩ (x :: l) h12 _ fun s h1 h2 => by rw [hsr s h1 h2]; exact ⟨rfl, rfl⟩) ?_
    rintro _ _ ⟨rfl, rfl⟩
    refine ⟨Nat.le_refl _, ?_⟩
    simp only [List.length_cons] at hsl
    simp (maxSteps := 9999999) (dsimp := false) (disch := omega) only [go_sem, Tryz.a23r8, List.take_succ_cons, List.take_zero, killL_I, List.length_map, beq_self_eq_true, dec_t', hsl]
    refine Hs.frame (h1 := [.rows 12 [encD d], .rows 1 (sl.map I)]) rfl rfl (by simp (maxSteps := 9999999) (dsimp := false) (disch := omega) only [go_sem, killL_I, dec_t']) (K1 := fun v h => ∃ s : List Int, v = .hs 1 1 0 (cmpct sl).length ∧ h = [.rows 12 [encD d], .rows 1 (s.map I)] ∧ s.take (cmpct sl).length = cmpct sl ∧ s.length = sl.length)
      (by
        have := cmpct_walk [.rows 12 [encD d]] ⟨fun n _ => by simp (maxSteps := 9999999) (dsimp := false) (disch := omega) only [go_sem]⟩ sl (by simp only [List.length_cons] at h12; omega) (fun v h => ∃ s : List Int, v = .hs 1 1 0 (cmpct sl).length ∧ h = [.rows 12 [encD d], .rows 1 (s.map I)] ∧ s.take (cmpct sl).length = cmpct sl ∧ s.length = sl.length) fun s h1 h2 => ⟨s, rfl, rfl, h1, h2⟩
        have e : (l.length + 1) = sl.length := hsl.symm
        rw [e]
        exact this) ?_
    rintro _ _ ⟨s, rfl, rfl, h1, h2⟩
    refine ⟨Nat.le_refl _, ?_⟩
    simp (maxSteps := 9999999) (dsimp := false) (disch := omega) only [go_sem, List.take_succ_cons, List.take_zero, killL_I, List.length_map, beq_self_eq_true, dec_t', hsl]
    have hle : (cmpct sl).length ≤ s.length := by rw [← h1]; simp; omega
    simp (maxSteps := 9999999) (dsimp := false) (disch := omega) only [go_sem, List.take_succ_cons, List.take_zero, killL_I, List.length_map, beq_self_eq_true, dec_t', hle]
    rw [← List.map_take, h1, killL_I]
    exact .refl _
end Go.Par
