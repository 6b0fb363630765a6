/- Programs that are made are right. -/
import Derived.Test.YtdggbdjpcbiofaaGreatMkK
set_option linter.unusedSimpArgs false
set_option linter.unusedVariables false
set_option maxHeartbeats 4000000
set_option maxRecDepth 100000
namespace Go.Par
open Go.Ai Go.Proofs

theorem Made_walk (l : List UInt8) : Make 14 [encRaw l] fun r => ∃ p, r = encPg p ∧ PgOk p := by
  refine Make.of_empty rfl ?_
  refine Tryz.w14 0 ?_
  simp (maxSteps := 9999999) (dsimp := false) (disch := omega) only [go_sem, Tryz.c14, Tryz.a14r0, Tryz.a14r1, encRaw]
  refine made_walk l _ _ ?_
  rintro _ ⟨p, rfl, hp⟩
  simp (maxSteps := 9999999) (dsimp := false) (disch := omega) only [go_sem, cellsPg, cellsDc]
  exact ⟨_, ⟨p, rfl, hp⟩, .refl _⟩
end Go.Par
