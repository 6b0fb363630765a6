/- Operations without memory: what they give is what the model gives. -/
import Derived.Test.YtdggbdjpcbiofaaGreatAiOps
namespace Go.Ai

theorem mkR {α : Type} {good : α → Prop} {P : Program} {w : World} {E : Env} {K : AVal → α} {s : Sem Value} {z : AVal} {r : Value} (hk : good (K z)) (hv : VRel z E r) (hr : s.run P w = .ok r w) :
    ∃ z r, good (K z) ∧ s.run P w = .ok r w ∧ VRel z E r := ⟨z, r, hk, hr, hv⟩

section
variable {α : Type} {good : α → Prop} {fail : α} (hf : ¬ good fail) {P : Program} {w : World}
include hf

theorem bin_good {op : BinOp} {ek : Nat} {x y : AVal} {K : AVal → α} (h : good (binA fail op ek x y K)) {t : TypeId} (hk : ekOk P t ek = true ∨ (∃ n, ek = n + 6 ∧ codeT P t = some n ∧ EqPlain P t)) {E : Env} {u v : Value} (hx : VRel x E u) (hy : VRel y E v) (xo yo : Operand) :
    ∃ z r, good (K z) ∧ (do eqGuard op t xo yo u v; binOp op t u v : Sem Value).run P w = .ok r w ∧ VRel z E r := by
  unfold binA at h
  split at h
  case h_1 k a k' b =>
    simp only [VRel] at hx hy; subst hx; subst hy
    have hg : eqGuard op t xo yo (.int k a) (.int k' b) = pure () := eqGuard_at_int _ _ _ _ _ _ _
    rw [hg]
    split at h
    case h_1 =>
      obtain ⟨h1, h2⟩ := need_good hf h
      have h1 : ¬ b < 0 := by simpa using h1
      exact mkR h2 (by simp only [VRel]; rfl) (by simp [binOp, Op.shift, h1])
    case h_2 =>
      obtain ⟨h1, h2⟩ := need_good hf h
      have h1 : ¬ b < 0 := by simpa using h1
      exact mkR h2 (by simp only [VRel]; rfl) (by simp [binOp, Op.shift, h1])
    case h_6 =>
      obtain ⟨h1, h2⟩ := need_good hf h
      simp only [Bool.and_eq_true, decide_eq_true_eq, Bool.not_eq_true', decide_eq_false_iff_not] at h1
      obtain ⟨rfl, h1⟩ := h1
      exact mkR h2 (by simp only [VRel]; rfl) (by simp [binOp, Op.intDiv, h1])
    case h_7 =>
      obtain ⟨h1, h2⟩ := need_good hf h
      simp only [Bool.and_eq_true, decide_eq_true_eq, Bool.not_eq_true', decide_eq_false_iff_not] at h1
      obtain ⟨rfl, h1⟩ := h1
      exact mkR h2 (by simp only [VRel]; rfl) (by simp [binOp, Op.intDiv, h1])
    all_goals
      obtain ⟨h1, h2⟩ := need_good hf h
      have h1 : k = k' := by simpa using h1
      subst h1
      exact mkR h2 (by simp only [VRel]; rfl) (by simp [binOp, Op.intArith, Op.intBits, Op.intCmp, bne] <;> rfl)
  case h_2 a b =>
    simp only [VRel] at hx hy; subst hx; subst hy
    have hg : eqGuard op t xo yo (.string a) (.string b) = pure () := eqGuard_at_string _ _ _ _ _ _
    rw [hg]
    split at h
    case h_7 => exact absurd h hf
    all_goals
      exact mkR h (by simp only [VRel]; rfl) (by simp [binOp, Op.stringOp, strEq, strLt])
  case h_3 =>
    split at h
    case h_3 => exact absurd h hf
    case h_1 =>
      obtain ⟨b, h1, h2, h3, he, _⟩ := eql_good hf (w := w) h hk hx hy xo yo .eql
      exact mkR h1 (by simp only [VRel]; rfl) (by rw [he]; simp [h2, h3])
    case h_2 =>
      obtain ⟨b, h1, h2, h3, _, he⟩ := eql_good hf (w := w) h hk hx hy xo yo .neq
      exact mkR h1 (by simp only [VRel]; rfl) (by rw [he]; simp [h2, h3])

end
end Go.Ai
