/- Sorting a short list in place; striking what stands twice. -/
import Derived.Test.YtdggbdjpcbiofaaGreatVis
import Derived.Test.YtdggbdjpcbiofaaGreatTabB
import Derived.Test.YtdggbdjpcbiofaaGreatAiRound
set_option linter.unusedSimpArgs false
set_option linter.unusedVariables false
set_option maxHeartbeats 4000000
set_option maxRecDepth 100000
namespace Go.Par
open Go.Ai Go.Proofs

theorem isNaN_walk (a : Int) : F 175 [I a] (B false) := by
  refine Fun.of_empty rfl rfl (Tryz.w175 0 ?_)
  simp (maxSteps := 9999999) (dsimp := false) (disch := omega) only [go_sem, Tryz.c175, Tryz.a175r0, Tryz.a175r1]
  exact .refl _
theorem less_walk (a b : Int) : F 137 [I a, I b] (B (decide (a < b))) := by
  refine Fun.of_empty rfl rfl (Tryz.w137 0 ?_)
  simp (maxSteps := 9999999) (dsimp := false) (disch := omega) only [go_sem, Tryz.c137, Tryz.a137r0, Tryz.a137r1]
  refine isNaN_walk a _ _ ?_
  simp (maxSteps := 9999999) (dsimp := false) (disch := omega) only [go_sem]
  exact .refl _

/-- Objects ahead of the one that is worked at: they refer to themselves alone. -/
structure Ahead (p : List AObj) : Prop where
  k : ∀ n, p.length ≤ n → p.map (killO n) = p

theorem Ahead.nil : Ahead [] := ⟨fun _ _ => rfl⟩

theorem take_here (p : List AObj) (x : AObj) : (p ++ [x]).take (p.length + 1) = p ++ [x] := List.take_of_length_le (by simp)

def SortedI (l : List Int) : Prop := l.Pairwise (· ≤ ·)

theorem killL_I (n : Nat) : ∀ l : List Int, killL n (l.map I) = l.map I
  | [] => rfl
  | x :: l => by rw [List.map_cons, kill_cons, killL_I n l]; rfl

theorem sort_take {A B C : List Int} {x : Int} {i : Nat} (h : (A ++ B).length = i) : (A ++ x :: (B ++ C)).take (i + 1) = A ++ x :: B := by
  rw [show A ++ x :: (B ++ C) = (A ++ x :: B) ++ C by simp]
  exact List.take_left' (by simp at h ⊢; omega)
theorem sort_in {A B : List Int} {x : Int} (h : SortedI (A ++ B)) (hB : ∀ b ∈ B, x ≤ b) (hA : ∀ a ∈ A, a ≤ x) : SortedI (A ++ x :: B) := by
  obtain ⟨h1, h2, h3⟩ := List.pairwise_append.1 h
  refine List.pairwise_append.2 ⟨h1, List.pairwise_cons.2 ⟨hB, h2⟩, fun a ha b hb => ?_⟩
  rcases List.mem_cons.1 hb with rfl | hb
  · exact hA a ha
  · exact h3 a ha b hb
theorem sort_swap {A B : List Int} {x y : Int} : ((A ++ [y] ++ x :: B).set (A.length + 1) y).set A.length x = A ++ x :: y :: B := by
  rw [List.set_append_right _ _ (by simp)]
  simp only [List.length_append, List.length_cons, List.length_nil, Nat.zero_add, Nat.sub_self, List.set_cons_zero]
  rw [List.append_assoc, List.set_append_right _ _ (Nat.le_refl _)]
  simp

theorem isort_walk (p : List AObj) (hp : Ahead p) (l : List Int) (hl : l.length ≤ 12) (K : AVal → List AObj → Prop) (hK : ∀ s, s.Perm l → SortedI s → K (.tuple []) (p ++ [.rows 1 (s.map I)])) :
    Hs Tryz.prog Tryz.eqs (.func 131 [] []) [.hs p.length 1 0 l.length, I 0, I l.length] (p ++ [.rows 1 (l.map I)]) K := by
  obtain ⟨N, hN⟩ : ∃ N, N = 100 := ⟨_, rfl⟩
  have hk := hp.k (p.length + 1) (by omega)
  refine Tryz.w131 N ?_
  simp (maxSteps := 9999999) (dsimp := false) (disch := omega) only [go_sem, Tryz.c131, Tryz.a131r0, wrap64]
  refine loop_rule (fun mm st => ∃ (i : Nat) (s : List Int), i + mm = 13 ∧ 1 ≤ i ∧ s.Perm l ∧ SortedI (s.take i) ∧ st = ⟨tm 49 [(0, .hs p.length 1 0 l.length), (1, I 0), (2, I l.length), (6, I i)], p ++ [.rows 1 (s.map I)]⟩) ?_ (m := 12) (by omega)
    ⟨1, l, by omega, by omega, .refl _, by cases l <;> simp [SortedI], by simp (maxSteps := 9999999) (dsimp := false) (disch := omega) only [go_sem, take_here, hk, dec_t', List.map_append, killL_I] <;> rfl⟩
  rintro mm st rec ⟨i, s, hi, hi1, hs, hso, he⟩ hrec
  rw [he]
  have hsl := hs.length_eq
  simp (maxSteps := 9999999) (dsimp := false) (disch := omega) only [go_sem, Tryz.a131l8, Tryz.a131r1]
  by_cases hlt : i < l.length
  · simp (maxSteps := 9999999) (dsimp := false) (disch := omega) only [go_sem, dec_t', hlt, Tryz.a131r2]
    have hil : i < s.length := by omega
    refine loop_rule (fun mm st => ∃ (A B C : List Int) (x : Int) (j : Nat), j = A.length ∧ j = mm ∧ (A ++ B).length = i ∧ SortedI (A ++ B) ∧ (∀ b ∈ B, x ≤ b) ∧ (A ++ x :: (B ++ C)).Perm l ∧
      st = ⟨tm 49 [(0, .hs p.length 1 0 l.length), (1, I 0), (2, I l.length), (6, I i), (7, I j)], p ++ [.rows 1 ((A ++ x :: (B ++ C)).map I)]⟩) ?_ (m := i) (by omega)
      ⟨s.take i, [], s.drop (i + 1), s[i], i, by simp; omega, rfl, by simp; omega, by simpa using hso, (fun b hb => by cases hb), by
        rw [List.nil_append, ← List.drop_eq_getElem_cons hil, List.take_append_drop]; exact hs, by
        have e : s = s.take i ++ s[i] :: ([] ++ s.drop (i + 1)) := by rw [List.nil_append, ← List.drop_eq_getElem_cons hil, List.take_append_drop]
        rw [← e]
        simp (maxSteps := 9999999) (dsimp := false) (disch := omega) only [go_sem, take_here, hk, dec_t', List.map_append, killL_I] <;> rfl⟩
    rintro mm2 st2 rec2 ⟨A, B, C, x, j, hj, hjm, hABl, hAB, hB, hperm, he2⟩ hrec2
    rw [he2]
    have hlen := hperm.length_eq
    rcases List.eq_nil_or_concat A with hA | ⟨A', y, hA⟩
    · have hj0 : j = 0 := by rw [hj, hA]; rfl
      subst hj0
      have hso2 : SortedI ((A ++ x :: (B ++ C)).take (i + 1)) := by rw [sort_take hABl]; exact sort_in hAB hB (by rw [hA]; simp)
      generalize A ++ x :: (B ++ C) = s2 at hperm hso2
      simp (maxSteps := 9999999) (dsimp := false) (disch := omega) only [go_sem, Tryz.a131l6, Tryz.a131r3, Tryz.a131r7, wrap64, dec_f']
      exact hrec (mm - 1) _ (by omega) ⟨i + 1, s2, by omega, by omega, hperm, hso2, by simp (maxSteps := 9999999) (dsimp := false) (disch := omega) only [go_sem, take_here, hk, dec_t', List.map_append, killL_I, Int.natCast_add, Int.cast_ofNat_Int] <;> rfl⟩
    · rw [List.concat_eq_append] at hA
      subst hA
      have hjl : j = A'.length + 1 := by rw [hj]; simp
      have hx : (A' ++ [y] ++ x :: (B ++ C))[j]? = some x := by rw [hj, List.getElem?_append_right (Nat.le_refl _)]; simp
      have hy : (A' ++ [y] ++ x :: (B ++ C))[((j : Int) - 1).toNat]? = some y := by rw [List.append_assoc, show ((j : Int) - 1).toNat = A'.length by omega, List.getElem?_append_right (Nat.le_refl _)]; simp
      have hjn : j < l.length := by rw [← hlen]; simp; omega
      generalize hs2 : A' ++ [y] ++ x :: (B ++ C) = s2 at hx hy hperm hlen
      have hjn1 : ((j : Int) - 1).toNat < l.length := by omega
      simp (maxSteps := 9999999) (dsimp := false) (disch := omega) only [go_sem, Tryz.a131l6, Tryz.a131r3, wrap64, get_here, dec_t', hx, hy, inB]
      refine less_walk x y _ _ ?_
      simp (maxSteps := 9999999) (dsimp := false) (disch := omega) only [go_sem]
      by_cases hlt2 : x < y
      · have hsw : (s2.set j y).set ((j : Int) - 1).toNat x = A' ++ x :: ((y :: B) ++ C) := by
          rw [← hs2, hjl, show (((A'.length + 1 : Nat) : Int) - 1).toNat = A'.length by omega]
          exact sort_swap
        have hx1 : (s2.set j y)[((j : Int) - 1).toNat]? = some y := by
          rw [List.getElem?_set_ne (by omega)]; exact hy
        simp (maxSteps := 9999999) (dsimp := false) (disch := omega) only [go_sem, dec_t', hlt2, Tryz.a131r4, Tryz.a131r5, wrap64, get_here, set_here, hx, hy, inB, ← List.map_set, hx1, hsw]
        have e1 : ((j - 1 : Nat) : Int) = (j : Int) - 1 := by omega
        refine hrec2 (mm2 - 1) _ (by omega) ⟨A', y :: B, C, x, j - 1, by omega, by omega, by simp at hABl ⊢; omega, by simpa [SortedI] using hAB, ?_, ?_, by
          have e2 : A' ++ x :: y :: (B ++ C) = A' ++ x :: (y :: B ++ C) := rfl
          rw [e1, e2]
          generalize A' ++ x :: (y :: B ++ C) = s3
          simp (maxSteps := 9999999) (dsimp := false) (disch := omega) only [go_sem, take_here, hk, dec_t', List.map_append, killL_I] <;> rfl⟩
        · intro b hb
          rcases List.mem_cons.1 hb with rfl | hb
          · omega
          · exact hB b hb
        · refine List.Perm.trans ?_ hperm
          rw [← hs2, List.append_assoc]
          exact List.Perm.append_left _ (by simpa using List.Perm.swap y x (B ++ C))
      · have hso2 : SortedI (s2.take (i + 1)) := by
          rw [← hs2, sort_take hABl]
          refine sort_in hAB hB fun a ha => ?_
          rcases List.mem_append.1 ha with ha | ha
          · have := (List.pairwise_append.1 ((List.pairwise_append.1 hAB).1)).2.2 a ha y (by simp)
            omega
          · simp at ha; omega
        simp (maxSteps := 9999999) (dsimp := false) (disch := omega) only [go_sem, dec_f', hlt2, Tryz.a131r7, wrap64]
        exact hrec (mm - 1) _ (by omega) ⟨i + 1, s2, by omega, by omega, hperm, hso2, by simp (maxSteps := 9999999) (dsimp := false) (disch := omega) only [go_sem, take_here, hk, dec_t', List.map_append, killL_I, Int.natCast_add, Int.cast_ofNat_Int] <;> rfl⟩
  · simp (maxSteps := 9999999) (dsimp := false) (disch := omega) only [go_sem, dec_f', hlt]
    rw [take_here, List.map_append, hk]
    rw [List.take_of_length_le (by omega)] at hso
    simp (maxSteps := 9999999) (dsimp := false) (disch := omega) only [go_sem, killL_I]
    exact hK s hs hso

/-- Some number. -/
def SomeI (f : Nat) (args : List AVal) : Prop := ∀ (heap : List AObj) (K : AVal → List AObj → Prop), (∀ k, K (I k) heap) → Hs Tryz.prog Tryz.eqs (.func f [] []) args heap K

theorem SomeI.of_empty {f : Nat} {args : List AVal} (ha : killL 0 args = args) (h : Hs Tryz.prog Tryz.eqs (.func f [] []) args [] fun v _ => ∃ k, v = I k) : SomeI f args := by
  intro heap K hk
  have h' : Hs Tryz.prog Tryz.eqs (.func f [] []) args ([] ++ heap) fun v h => ∃ k, v = I k ∧ h = heap :=
    h.frame (h1 := []) rfl ha rfl fun z h' ⟨k, hz⟩ => ⟨Nat.zero_le _, k, by rw [hz]; rfl, by simp⟩
  exact h'.mono fun v h' ⟨k, e1, e2⟩ => by subst e1; subst e2; exact hk k

theorem len64_walk (n : Int) (h0 : 0 ≤ n) (h1 : n < 256) : SomeI 141 [.int .u64 n] := by
  refine SomeI.of_empty rfl (Tryz.w141 0 ?_)
  simp (maxSteps := 9999999) (dsimp := false) (disch := omega) only [go_sem, Tryz.c141, Tryz.a141r0, Tryz.a141r1, Tryz.a141r4, Tryz.a141r7, Tryz.a141r10, dec_f', wrapU8]
  refine go_left ?_ ?_
  · simp only [inB, Bool.and_eq_true, decide_eq_true_eq]
    exact ⟨h0, h1⟩
  · simp (maxSteps := 9999999) (dsimp := false) (disch := omega) only [go_sem]
    exact ⟨_, rfl⟩
theorem len_walk (n : Int) (h0 : 0 ≤ n) (h1 : n < 256) : SomeI 91 [.int .u64 n] := by
  refine SomeI.of_empty rfl (Tryz.w91 0 ?_)
  simp (maxSteps := 9999999) (dsimp := false) (disch := omega) only [go_sem, Tryz.c91, Tryz.a91r0, Tryz.a91r2]
  refine len64_walk n h0 h1 _ _ fun k => ?_
  simp (maxSteps := 9999999) (dsimp := false) (disch := omega) only [go_sem]
  exact ⟨_, rfl⟩

theorem pdq_walk (p : List AObj) (hp : Ahead p) (l : List Int) (hl : l.length ≤ 12) (k : Int) (K : AVal → List AObj → Prop) (hK : ∀ s, s.Perm l → SortedI s → K (.tuple []) (p ++ [.rows 1 (s.map I)])) :
    Hs Tryz.prog Tryz.eqs (.func 90 [] []) [.hs p.length 1 0 l.length, I 0, I l.length, I k] (p ++ [.rows 1 (l.map I)]) K := by
  obtain ⟨N, hN⟩ : ∃ N, N = 1 := ⟨_, rfl⟩
  have hk := hp.k (p.length + 1) (by omega)
  refine Tryz.w90 N ?_
  simp (maxSteps := 9999999) (dsimp := false) (disch := omega) only [go_sem, Tryz.c90, Tryz.a90r0, Tryz.a90r1]
  refine loop_rule (fun mm st => st = ⟨tm 134 [(0, .hs p.length 1 0 l.length), (1, I 0), (2, I l.length), (3, I k), (8, .bool true), (9, .bool true)], p ++ [.rows 1 (l.map I)]⟩) ?_ (m := 0) (by omega)
    (by simp (maxSteps := 9999999) (dsimp := false) (disch := omega) only [go_sem, take_here, hk, dec_t', List.map_append, killL_I] <;> rfl)
  rintro mm st rec he hrec
  rw [he]
  simp (maxSteps := 9999999) (dsimp := false) (disch := omega) only [go_sem, Tryz.a90l31, Tryz.a90r2, Tryz.a90r3, Tryz.a90r4, wrap64, dec_t', Int.sub_zero]
  refine isort_walk p hp l hl _ fun s hs hs2 => ?_
  simp (maxSteps := 9999999) (dsimp := false) (disch := omega) only [go_sem]
  rw [take_here, List.map_append, hk]
  simp (maxSteps := 9999999) (dsimp := false) (disch := omega) only [go_sem, killL_I]
  exact hK s hs hs2

/-- Sorting: in place. -/
theorem sort_walk (p : List AObj) (hp : Ahead p) (l : List Int) (hl : l.length ≤ 12) (K : AVal → List AObj → Prop) (hK : ∀ s, s.Perm l → SortedI s → K (.tuple []) (p ++ [.rows 1 (s.map I)])) :
    Hs Tryz.prog Tryz.eqs (.func 52 [] []) [.hs p.length 1 0 l.length] (p ++ [.rows 1 (l.map I)]) K := by
  have hk := hp.k (p.length + 1) (by omega)
  refine Tryz.w52 0 ?_
  simp (maxSteps := 9999999) (dsimp := false) (disch := omega) only [go_sem, Tryz.c52, Tryz.a52r0, Tryz.a52r1, wrapU64]
  refine len_walk _ (by omega) (by omega) _ _ fun k => ?_
  simp (maxSteps := 9999999) (dsimp := false) (disch := omega) only [go_sem]
  refine pdq_walk p hp l hl k _ fun s hs hs2 => ?_
  simp (maxSteps := 9999999) (dsimp := false) (disch := omega) only [go_sem]
  rw [take_here, List.map_append, hk]
  simp (maxSteps := 9999999) (dsimp := false) (disch := omega) only [go_sem, killL_I]
  exact hK s hs hs2

/-- .. of nothing. -/
theorem sort0_walk : F 52 [.fs 1 [] none] (.tuple []) := by
  refine Fun.of_empty rfl rfl (Tryz.w52 0 ?_)
  simp (maxSteps := 9999999) (dsimp := false) (disch := omega) only [go_sem, Tryz.c52, Tryz.a52r0, Tryz.a52r1, wrapU64]
  refine len_walk _ (by omega) (by omega) _ _ fun k => ?_
  simp (maxSteps := 9999999) (dsimp := false) (disch := omega) only [go_sem]
  refine Tryz.w90 1 ?_
  simp (maxSteps := 9999999) (dsimp := false) (disch := omega) only [go_sem, Tryz.c90, Tryz.a90r0, Tryz.a90r1]
  refine loop_rule (fun mm st => st = ⟨tm 134 [(0, .fs 1 [] none), (1, I 0), (2, I 0), (3, I k), (8, .bool true), (9, .bool true)], []⟩) ?_ (m := 0) (by omega)
    (by simp (maxSteps := 9999999) (dsimp := false) (disch := omega) only [go_sem] <;> rfl)
  rintro mm st rec he hrec
  rw [he]
  simp (maxSteps := 9999999) (dsimp := false) (disch := omega) only [go_sem, Tryz.a90l31, Tryz.a90r2, Tryz.a90r3, Tryz.a90r4, wrap64, dec_t', Int.sub_zero]
  refine Tryz.w131 1 ?_
  simp (maxSteps := 9999999) (dsimp := false) (disch := omega) only [go_sem, Tryz.c131, Tryz.a131r0, wrap64]
  refine loop_rule (fun mm st => st = ⟨tm 49 [(0, .fs 1 [] none), (1, I 0), (2, I 0), (6, I 1)], []⟩) ?_ (m := 0) (by omega)
    (by simp (maxSteps := 9999999) (dsimp := false) (disch := omega) only [go_sem] <;> rfl)
  rintro mm st rec he hrec
  rw [he]
  simp (maxSteps := 9999999) (dsimp := false) (disch := omega) only [go_sem, Tryz.a131l8, Tryz.a131r1, dec_f']
  exact .refl _

theorem cmpct0_walk : F 53 [.fs 1 [] none] (.fs 1 [] none) := by
  refine Fun.of_empty rfl rfl (Tryz.w53 0 ?_)
  simp (maxSteps := 9999999) (dsimp := false) (disch := omega) only [go_sem, Tryz.c53, Tryz.a53r0, Tryz.a53r1, Tryz.a53r2, dec_t', dec_f']
  exact .refl _

/-- What stands behind its equal is struck. -/
def cmpct : List Int → List Int
  | [] => []
  | [x] => [x]
  | x :: y :: l => if x = y then cmpct (y :: l) else x :: cmpct (y :: l)

theorem cmpct_snoc : ∀ (L : List Int) (x y : Int), cmpct (L ++ [x, y]) = if x = y then cmpct (L ++ [x]) else cmpct (L ++ [x]) ++ [y]
  | [], x, y => by by_cases h : x = y <;> simp [cmpct, h]
  | [a], x, y => by
    simp only [List.cons_append, List.nil_append, cmpct]
    by_cases h : x = y <;> by_cases h2 : a = x <;> simp [h, h2]
  | a :: b :: L, x, y => by
    have ih := cmpct_snoc (b :: L) x y
    simp only [List.cons_append] at ih ⊢
    rw [cmpct, cmpct, ih]
    by_cases h : x = y <;> by_cases h2 : a = b <;> simp [h, h2]

theorem cmpct_take {l : List Int} {m : Nat} {x y : Int} (h0 : 0 < m) (hx : l[m - 1]? = some x) (hy : l[m]? = some y) : cmpct (l.take (m + 1)) = if x = y then cmpct (l.take m) else cmpct (l.take m) ++ [y] := by
  obtain ⟨h1, e1⟩ := List.getElem?_eq_some_iff.1 hx
  obtain ⟨h2, e2⟩ := List.getElem?_eq_some_iff.1 hy
  have t1 : l.take m = l.take (m - 1) ++ [x] := by
    have := List.take_succ_eq_append_getElem h1
    rwa [show m - 1 + 1 = m by omega, e1] at this
  have t2 : l.take (m + 1) = l.take (m - 1) ++ [x, y] := by
    rw [List.take_succ_eq_append_getElem h2, t1, e2]; simp
  rw [t2, t1]
  exact cmpct_snoc _ _ _

theorem cmpct_walk (p : List AObj) (hp : Ahead p) (l : List Int) (hl : l.length ≤ 1000) (K : AVal → List AObj → Prop)
    (hK : ∀ s : List Int, s.take (cmpct l).length = cmpct l → s.length = l.length → K (.hs p.length 1 0 (cmpct l).length) (p ++ [.rows 1 (s.map I)])) :
    Hs Tryz.prog Tryz.eqs (.func 53 [] []) [.hs p.length 1 0 l.length] (p ++ [.rows 1 (l.map I)]) K := by
  obtain ⟨N, hN⟩ : ∃ N, N = 10000 := ⟨_, rfl⟩
  have hk := hp.k (p.length + 1) (by omega)
  refine Tryz.w53 N ?_
  by_cases h2 : l.length < 2
  · simp (maxSteps := 9999999) (dsimp := false) (disch := omega) only [go_sem, Tryz.c53, Tryz.a53r0, Tryz.a53r1, Tryz.a53r2, dec_t', dec_f']
    rw [take_here, List.map_append, hk]
    simp (maxSteps := 9999999) (dsimp := false) (disch := omega) only [go_sem, killL_I]
    have e : cmpct l = l := by
      match l, h2 with
      | [], _ => rfl
      | [x], _ => rfl
      | _ :: _ :: _, h2 => simp at h2; omega
    have := hK l (by rw [e, List.take_length]) rfl
    rwa [e] at this
  · simp (maxSteps := 9999999) (dsimp := false) (disch := omega) only [go_sem, Tryz.c53, Tryz.a53r0, Tryz.a53r1, Tryz.a53r3, dec_t', dec_f']
    refine loop_rule (fun mm st => ∃ k : Nat, k + mm = l.length ∧ 1 ≤ k ∧ cmpct (l.take k) = l.take k ∧ st = ⟨tm 61 [(0, .hs p.length 1 0 l.length), (3, I k)], p ++ [.rows 1 (l.map I)]⟩) ?_ (m := l.length - 1) (by omega)
      ⟨1, by omega, by omega, by cases l with | nil => rfl | cons x l => rfl, by simp (maxSteps := 9999999) (dsimp := false) (disch := omega) only [go_sem, take_here, hk, dec_t', List.map_append, killL_I] <;> rfl⟩
    rintro mm st rec ⟨k, hkm, hk1, hck, he⟩ hrec
    rw [he]
    simp (maxSteps := 9999999) (dsimp := false) (disch := omega) only [go_sem, Tryz.a53l17, Tryz.a53r4]
    by_cases hlt : k < l.length
    · have hx : l[k]? = some l[k] := List.getElem?_eq_getElem hlt
      have hy : l[(k : Int).toNat - 1]? = some l[k - 1] := List.getElem?_eq_getElem (by omega)
      have hy' : l[((k : Int) - 1).toNat]? = some l[k - 1] := by rw [show ((k : Int) - 1).toNat = k - 1 by omega]; exact List.getElem?_eq_getElem (by omega)
      have hy2 : l[k - 1]? = some l[k - 1] := List.getElem?_eq_getElem (by omega)
      have hct := cmpct_take hk1 hy2 hx
      generalize l[k] = x at hx hct
      generalize l[k - 1] = y at hy' hct
      simp (maxSteps := 9999999) (dsimp := false) (disch := omega) only [go_sem, Tryz.a53r5, dec_t', hlt, wrap64, get_here, hx, hy', inB]
      by_cases hxy : x = y
      · rw [if_pos hxy.symm, hck] at hct
        simp (maxSteps := 9999999) (dsimp := false) (disch := omega) only [go_sem, dec_t', Tryz.a53r6, Tryz.a53r7, Int.ofNat_zero]
        refine loop_rule (fun mm st => ∃ (kk k2 : Nat) (cur : List Int), k + k2 + mm = l.length ∧ 1 ≤ k2 ∧ kk + 1 ≤ k + k2 ∧ k ≤ kk ∧ cur.length = l.length ∧ cur.take kk = cmpct (l.take (k + k2)) ∧ (∀ i, kk ≤ i → cur[i]? = l[i]?) ∧
          st = ⟨tm 61 [(0, .hs p.length 1 0 l.length), (3, I kk), (4, .hs p.length 1 k (l.length - k)), (5, I k2)], p ++ [.rows 1 (cur.map I)]⟩) ?_ (m := l.length - k - 1) (by omega)
          ⟨k, 1, l, by omega, by omega, by omega, by omega, rfl, hct.symm, (fun _ _ => rfl), by simp (maxSteps := 9999999) (dsimp := false) (disch := omega) only [go_sem, take_here, hk, dec_t', List.map_append, killL_I] <;> rfl⟩
        rintro mm2 st2 rec2 ⟨kk, k2, cur, hk2m, hk21, hkk, hkk2, hcl, hct2, hcd, he2⟩ hrec2
        rw [he2]
        simp (maxSteps := 9999999) (dsimp := false) (disch := omega) only [go_sem, Tryz.a53l13, Tryz.a53r8]
        by_cases hlt2 : k2 < l.length - k
        · have hx2 : l[k + k2]? = some l[k + k2] := List.getElem?_eq_getElem (by omega)
          have hy2 : l[k + k2 - 1]? = some l[k + k2 - 1] := List.getElem?_eq_getElem (by omega)
          have hct3 := cmpct_take (by omega) hy2 hx2
          have hx3 : cur[k + k2]? = some l[k + k2] := by rw [hcd _ (by omega)]; exact hx2
          have hy3 : cur[k + ((k2 : Int) - 1).toNat]? = some l[k + k2 - 1] := by rw [show k + ((k2 : Int) - 1).toNat = k + k2 - 1 by omega, hcd _ (by omega)]; exact hy2
          generalize l[k + k2] = x2 at hx3 hct3 hx2
          generalize l[k + k2 - 1] = y2 at hy3 hct3
          have hkl : kk < l.length := by omega
          have hz : cur[kk]? = some cur[kk] := List.getElem?_eq_getElem (by omega)
          by_cases hxy2 : x2 = y2
          · rw [if_pos hxy2.symm] at hct3
            simp (maxSteps := 9999999) (dsimp := false) (disch := omega) only [go_sem, Tryz.a53r9, Tryz.a53r12, dec_t', hlt2, wrap64, get_here, hx3, hy3, inB]
            exact hrec2 (mm2 - 1) _ (by omega) ⟨kk, k2 + 1, cur, by omega, by omega, by omega, hkk2, hcl, by rw [show k + (k2 + 1) = k + k2 + 1 by omega, hct3]; exact hct2, hcd, by simp (maxSteps := 9999999) (dsimp := false) (disch := omega) only [go_sem, take_here, hk, dec_t', List.map_append, killL_I, Int.natCast_add, Int.cast_ofNat_Int] <;> rfl⟩
          · rw [if_neg (fun e => hxy2 e.symm)] at hct3
            simp (maxSteps := 9999999) (dsimp := false) (disch := omega) only [go_sem, Tryz.a53r9, Tryz.a53r10, Tryz.a53r11, Tryz.a53r12, dec_t', dec_f', hlt2, wrap64, get_here, set_here, hx3, hy3, inB, hz, hkl, hcl, ← List.map_set]
            exact hrec2 (mm2 - 1) _ (by omega) ⟨kk + 1, k2 + 1, cur.set kk x2, by omega, by omega, by omega, by omega, by simpa using hcl, by
              rw [show k + (k2 + 1) = k + k2 + 1 by omega, hct3, ← hct2, List.take_add_one, List.getElem?_set_self (by omega), List.take_set_of_le (Nat.le_refl _)]; rfl, (fun i hi => by
              rw [List.getElem?_set_ne (by omega)]; exact hcd i (by omega)), by simp (maxSteps := 9999999) (dsimp := false) (disch := omega) only [go_sem, take_here, hk, dec_t', List.map_append, killL_I, Int.natCast_add, Int.cast_ofNat_Int] <;> rfl⟩
        · have e : k + k2 = l.length := by omega
          rw [e, List.take_length] at hct2
          have hkc : (cmpct l).length = kk := by rw [← hct2]; simp; omega
          simp (maxSteps := 9999999) (dsimp := false) (disch := omega) only [go_sem, dec_f', Tryz.a53r14, Tryz.a53r15, get_here, set_here, dec_t']
          have e3 : (p ++ [AObj.rows 1 (List.take kk (cur.map I) ++ List.replicate (l.length - kk) (I 0) ++ List.drop (kk + (l.length - kk)) (cur.map I))]) = p ++ [AObj.rows 1 ((cur.take kk ++ List.replicate (l.length - kk) 0).map I)] := by
            rw [List.map_append, List.map_take, List.map_replicate, List.drop_eq_nil_of_le (by simp; omega), List.append_nil]
          rw [e3, take_here, List.map_append, hk]
          have e4 := hK (cur.take kk ++ List.replicate (l.length - kk) 0) (by rw [hkc, List.take_left' (by simp; omega)]; exact hct2) (by simp; omega)
          rw [hkc] at e4
          simp only [List.map_cons, List.map_nil, kill_rows, killL_I]
          exact e4
      · simp (maxSteps := 9999999) (dsimp := false) (disch := omega) only [go_sem, dec_f', hxy, Tryz.a53r16, wrap64]
        rw [if_neg (fun e => hxy e.symm), hck] at hct
        exact hrec (mm - 1) _ (by omega) ⟨k + 1, by omega, by omega, by rw [hct, List.take_add_one]; simp [hx], by simp (maxSteps := 9999999) (dsimp := false) (disch := omega) only [go_sem, take_here, hk, dec_t', List.map_append, killL_I, Int.natCast_add, Int.cast_ofNat_Int] <;> rfl⟩
    · have : k = l.length := by omega
      subst this
      simp (maxSteps := 9999999) (dsimp := false) (disch := omega) only [go_sem, dec_f', dec_t', Tryz.a53r18]
      rw [take_here, List.map_append, hk]
      simp (maxSteps := 9999999) (dsimp := false) (disch := omega) only [go_sem, killL_I]
      rw [List.take_length] at hck
      have := hK l (by rw [hck, List.take_length]) rfl
      rwa [hck] at this
end Go.Par
