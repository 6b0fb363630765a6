/- The small makers of expressions and conditions. -/
import Derived.Test.YtdggbdjpcbiofaaGreatWf
import Derived.Test.YtdggbdjpcbiofaaGreatTabA
set_option linter.unusedSimpArgs false
set_option linter.unusedVariables false
namespace Go.Par
open Go.Ai Go.Proofs

abbrev F (f : Nat) (args : List AVal) (r : AVal) : Prop := Fun Tryz.prog Tryz.eqs (.func f [] []) args r

theorem num (v : Int) : F 33 [I v] (encE (.mk 1 0 v [])) := by
  refine Fun.of_empty rfl rfl (Tryz.w33 0 ?_)
  simp (dsimp := false) (disch := omega) only [go_sem, Tryz.c33, Tryz.a33r0, Tryz.a33r1, encE_eq, cellsE]
  exact SubC.sub (by repeat constructor)
theorem var (v : Int) : F 73 [I v] (encE (.mk 2 v 0 [])) := by
  refine Fun.of_empty rfl rfl (Tryz.w73 0 ?_)
  simp (dsimp := false) (disch := omega) only [go_sem, Tryz.c73, Tryz.a73r0, Tryz.a73r1, encE_eq, cellsE]
  exact SubC.sub (by repeat constructor)
theorem bin (op : Int) (a b : E) : F 199 [I op, encE a, encE b] (encE (.mk op 0 0 [a, b])) := by
  refine Fun.of_empty rfl (by simp (dsimp := false) only [go_sem]) (Tryz.w199 0 ?_)
  simp (dsimp := false) (disch := omega) only [go_sem, Tryz.c199, Tryz.a199r0, Tryz.a199r1]
  rw [encE_eq (.mk op 0 0 [a, b])]
  exact SubC.sub (by repeat constructor)
theorem testC (op : Int) (a b : E) : F 197 [I op, encE a, encE b] (encC (.mk op [a, b] [])) := by
  refine Fun.of_empty rfl (by simp (dsimp := false) only [go_sem]) (Tryz.w197 0 ?_)
  simp (dsimp := false) (disch := omega) only [go_sem, Tryz.c197, Tryz.a197r0, Tryz.a197r1]
  rw [encC_eq]
  exact SubC.sub (by repeat constructor)
theorem notC (c : C) : F 198 [encC c] (encC (.mk 5 [] [c])) := by
  refine Fun.of_empty rfl (by simp (dsimp := false) only [go_sem]) (Tryz.w198 0 ?_)
  simp (dsimp := false) (disch := omega) only [go_sem, Tryz.c198, Tryz.a198r0, Tryz.a198r1]
  rw [encC_eq (.mk 5 [] [c])]
  exact SubC.sub (by repeat constructor)
end Go.Par
