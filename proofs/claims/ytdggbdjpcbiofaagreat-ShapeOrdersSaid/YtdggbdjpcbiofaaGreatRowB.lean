/- The row of the law on orders. -/
import Derived.Test.YtdggbdjpcbiofaaGreatRowZ
import Derived.Test.YtdggbdjpcbiofaaGreatTabC
namespace Go.Proofs.YtdggbdjpcbiofaaGreat
open Go.ChangeShapes Go.WideShapes Go.ChangeAt Go.RowKit Go.Ai Go.Par
set_option linter.unusedVariables false

set_option maxRecDepth 100000 in
theorem lifted_ShapeOrders (hw : RawInt 4 .i64) (os : Os) (started : os.Started) (H : Type) (enc : TypeId × Value → H) :
    ReturnsInHanded {} Tryz.checked os 4 .any (Rows.shapeOrdersSpec.pre6 enc Tryz.prog Tryz.f4 Rows.shapeOrdersRow.domain false) (Rows.shapeOrdersSpec.post enc Tryz.prog Tryz.f4 false true false false) := by
  refine returnsInHanded_of_change (C := Tryz.checked) own started (by kernel_rfl) Tryz.func4
    (ChangeSpec.witness6 (enc := enc) (C := Tryz.checked) false ⟨#[], #[.agg #[.slice none 0 0], .int .i64 0], []⟩ 8 (by kernel_rfl) (by kernel_rfl) (by kernel_rfl) (by kernel_rfl)) ?_
  intro W base args ds gs before hval0 hW hcnd _
  have hval : ∀ (j : Nat) t v, Tryz.f4.params[j]? = some t → args[j]? = some v → Value.okWide Tryz.prog W .any base t v := hval0
  have hW' := hW
  obtain ⟨p, q, hA0, hV, hpq, hfz, hnd⟩ := hW
  have hA : DataW.TrodAll enc Tryz.prog W 0 (fun _ => true) true Tryz.f4.params.toList args.toList ds p := hA0
  rw [Tryz.params4] at hA hval
  obtain ⟨v0, vs0, d0, ds0, p0, q0, hargs, rfl, _, h0, r0⟩ := trodAll_cons hA
  obtain ⟨v1, vs1, d1, ds1, p1, q1, rfl, rfl, _, h1, r1⟩ := trodAll_cons r0
  obtain ⟨rfl, rfl, _⟩ := trodAll_nil r1
  obtain rfl : args = #[v0, v1] := by cases args; simp_all
  obtain ⟨rfl, _⟩ := trodVars_none hV
  obtain ⟨l, hl⟩ := open_raw Tryz.underlying24 rfl rfl (by kernel_rfl) (by kernel_rfl) Tryz.underlying22 Tryz.underlying5 (by kernel_rfl) (hval 0 24 v0 rfl rfl) h0
  obtain ⟨n, wn, hn⟩ := open_i Tryz.underlying3 (hval 1 3 v1 rfl rfl) h1
  refine (Hs.calls Tryz.func4 Tryz.a4_ok (by simp only [VRels]; exact ⟨v0, [v1], rfl, hl, v1, [], rfl, hn, rfl⟩) (hw l n wn)).mono fun e W' ⟨he, hk⟩ => ?_
  subst he
  exact ⟨_, rfl, post_true (tb := 4) laidOut mapsOk full (by rw [Tryz.params4]; decide) rfl rfl (by kernel_rfl) Tryz.underlying4 hW' hk⟩

theorem over_ShapeOrders (hw : RawInt 4 .i64) : Rows.shapeOrdersRow.holds Tryz.pinned (OpenSpec.ofChange Rows.shapeOrdersSpec) :=
  OpenClaim.holds_of_wide 4 Tryz.f4 rfl rfl rfl rfl rfl rfl rfl ⟨rfl, rfl, rfl, rfl, rfl⟩ rfl rfl rfl rfl rfl (by kernel_rfl) Tryz.func4 (by kernel_rfl)
    (of_decide_eq_true (by kernel_rfl)) (by unfold Func.isWrapper; first | (rw [if_pos (by decide +kernel)]; kernel_rfl) | (rw [if_neg (by decide +kernel)]; exact ⟨rfl, rfl⟩))
    (fun os started H enc _ => lifted_ShapeOrders hw os started H enc)
end Go.Proofs.YtdggbdjpcbiofaaGreat
