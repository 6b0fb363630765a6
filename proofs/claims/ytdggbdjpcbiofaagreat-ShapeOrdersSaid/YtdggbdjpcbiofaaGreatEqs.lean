import Derived.Test.YtdggbdjpcbiofaaGreatAiWalkD
import Derived.Test.YtdggbdjpcbiofaaGreatProg
namespace Go.Proofs
open Go.Ai
def Tryz.eqs : List TypeId := [89, 133, 180, 213, 232, 236]
theorem Tryz.eqs_plain (t : TypeId) (h : Tryz.eqs.contains t = true) : EqPlain Tryz.prog t := by
  simp only [Tryz.eqs, List.contains_cons, List.contains_nil, Bool.or_false, Bool.or_eq_true, beq_iff_eq] at h
  rcases h with h | h | h | h | h | h <;> subst h <;> exact eqPlain (by kernel_rfl)
example : Tryz.prog.funcs[19]? = some Tryz.f19 := by kernel_rfl
end Go.Proofs
