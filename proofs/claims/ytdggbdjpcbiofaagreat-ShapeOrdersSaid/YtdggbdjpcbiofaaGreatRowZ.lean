/- The rows of this seat: arguments opened; what a law's row asks. -/
import Derived.Test.YtdggbdjpcbiofaaGreatRowA
import Derived.Test.YtdggbdjpcbiofaaGreatRows
import Derived.Test.YtdggbdjpcbiofaaGreatTabA
import Derived.Test.YtdggbdjpcbiofaaGreatData
namespace Go.Proofs.YtdggbdjpcbiofaaGreat
open Go.ChangeShapes Go.WideShapes Go.ChangeAt Go.RowKit Go.Ai Go.Par
set_option linter.unusedVariables false

theorem own : ownKnob Tryz.prog.godebug = none := by kernel_rfl
theorem laidOut : laidOutB Tryz.prog = true := by kernel_rfl
theorem mapsOk : mapsRowed Tryz.prog = true := by kernel_rfl
theorem full : ∀ t e, t < Tryz.prog.types.size → Tryz.prog.underlying t = some (.slice e) → 0 < Tryz.prog.cellsOf e := slices_full_of Tryz.prog (by kernel_rfl)

/-- What a law over a description and a number has to show. -/
def RawInt (f : Nat) (k : IntKind) : Prop := ∀ (l : List UInt8) (n : Int), (Lit.int k n).wf = true → Hs Tryz.prog Tryz.eqs (.func f [] []) [.agg [.fs 1 (l.map fun b => .int .u8 (b.toNat : Int)) none], .int k n] [] fun v _ => Ai.Sub v (.bool true)

set_option maxRecDepth 100000 in
theorem lifted_ShapeSites (hw : RawInt 3 .i64) (os : Os) (started : os.Started) (H : Type) (enc : TypeId × Value → H) :
    ReturnsInHanded {} Tryz.checked os 3 .any (Rows.shapeSitesSpec.pre6 enc Tryz.prog Tryz.f3 Rows.shapeSitesRow.domain false) (Rows.shapeSitesSpec.post enc Tryz.prog Tryz.f3 false true false false) := by
  refine returnsInHanded_of_change (C := Tryz.checked) own started (by kernel_rfl) Tryz.func3
    (ChangeSpec.witness6 (enc := enc) (C := Tryz.checked) false ⟨#[], #[.agg #[.slice none 0 0], .int .i64 0], []⟩ 8 (by kernel_rfl) (by kernel_rfl) (by kernel_rfl) (by kernel_rfl)) ?_
  intro W base args ds gs before hval0 hW hcnd _
  have hval : ∀ (j : Nat) t v, Tryz.f3.params[j]? = some t → args[j]? = some v → Value.okWide Tryz.prog W .any base t v := hval0
  have hW' := hW
  obtain ⟨p, q, hA0, hV, hpq, hfz, hnd⟩ := hW
  have hA : DataW.TrodAll enc Tryz.prog W 0 (fun _ => true) true Tryz.f3.params.toList args.toList ds p := hA0
  rw [Tryz.params3] at hA hval
  obtain ⟨v0, vs0, d0, ds0, p0, q0, hargs, rfl, _, h0, r0⟩ := trodAll_cons hA
  obtain ⟨v1, vs1, d1, ds1, p1, q1, rfl, rfl, _, h1, r1⟩ := trodAll_cons r0
  obtain ⟨rfl, rfl, _⟩ := trodAll_nil r1
  obtain rfl : args = #[v0, v1] := by cases args; simp_all
  obtain ⟨rfl, _⟩ := trodVars_none hV
  obtain ⟨l, hl⟩ := open_raw Tryz.underlying24 rfl rfl (by kernel_rfl) (by kernel_rfl) Tryz.underlying22 Tryz.underlying5 (by kernel_rfl) (hval 0 24 v0 rfl rfl) h0
  obtain ⟨n, wn, hn⟩ := open_i Tryz.underlying3 (hval 1 3 v1 rfl rfl) h1
  refine (Hs.calls Tryz.func3 Tryz.a3_ok (by simp only [VRels]; exact ⟨v0, [v1], rfl, hl, v1, [], rfl, hn, rfl⟩) (hw l n wn)).mono fun e W' ⟨he, hk⟩ => ?_
  subst he
  exact ⟨_, rfl, post_true (tb := 4) laidOut mapsOk full (by rw [Tryz.params3]; decide) rfl rfl (by kernel_rfl) Tryz.underlying4 hW' hk⟩

theorem over_ShapeSites (hw : RawInt 3 .i64) : Rows.shapeSitesRow.holds Tryz.pinned (OpenSpec.ofChange Rows.shapeSitesSpec) :=
  OpenClaim.holds_of_wide 3 Tryz.f3 rfl rfl rfl rfl rfl rfl rfl ⟨rfl, rfl, rfl, rfl, rfl⟩ rfl rfl rfl rfl rfl (by kernel_rfl) Tryz.func3 (by kernel_rfl)
    (of_decide_eq_true (by kernel_rfl)) (by unfold Func.isWrapper; first | (rw [if_pos (by decide +kernel)]; kernel_rfl) | (rw [if_neg (by decide +kernel)]; exact ⟨rfl, rfl⟩))
    (fun os started H enc _ => lifted_ShapeSites hw os started H enc)
end Go.Proofs.YtdggbdjpcbiofaaGreat
