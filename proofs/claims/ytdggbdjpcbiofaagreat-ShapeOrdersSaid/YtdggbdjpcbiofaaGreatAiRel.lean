/- The relation between the interpreter's state and the model's: values, the abstract heap, the frozen cells. -/
import Derived.Test.YtdggbdjpcbiofaaGreatAiBase
import Derived.WalkKit
namespace Go.Ai

structure Env where
  ρ : Nat → Option Nat
  τ : Nat → Nat → Option (Nat × Nat)
  fz : Nat → Nat → Option Value

def Env.bare (E : Env) : Env := ⟨fun _ => none, fun _ _ => none, E.fz⟩

structure Env.le (E E' : Env) : Prop where
  ρ : ∀ b r, E.ρ b = some r → E'.ρ b = some r
  τ : ∀ b n x, E.τ b n = some x → E'.τ b n = some x
  fz : ∀ r o v, E.fz r o = some v → E'.fz r o = some v

theorem Env.le.refl (E : Env) : E.le E := ⟨fun _ _ h => h, fun _ _ _ h => h, fun _ _ _ h => h⟩
theorem Env.le.trans {A B C : Env} (h : A.le B) (k : B.le C) : A.le C :=
  ⟨fun b r x => k.ρ b r (h.ρ b r x), fun b n y x => k.τ b n y (h.τ b n y x), fun r o v x => k.fz r o v (h.fz r o v x)⟩
theorem Env.le.bare {A B : Env} (h : A.le B) : A.bare.le B.bare := ⟨fun _ _ h => h, fun _ _ _ h => h, h.fz⟩
theorem Env.bare_le (E : Env) : E.bare.le E := ⟨fun _ _ h => by simp [Env.bare] at h, fun _ _ _ h => by simp [Env.bare] at h, fun _ _ _ h => h⟩

def oneC (u : Value) : Prop := ∀ v ∈ u.cells.toList, v.oneCell' = true

mutual
def VRel : AVal → Env → Value → Prop
  | .undef, _, _ => True
  | .bool b, _, u => u = .bool b
  | .int k n, _, u => u = .int k n
  | .str s, _, u => u = .string s
  | .nilp, _, u => u = .pointer none
  | .hp b esz i o, E, u => ∃ r, E.ρ b = some r ∧ u = .pointer (some ⟨r, i * esz + o, none⟩)
  | .fp esz xs i o, E, u => ∃ r off, u = .pointer (some ⟨r, off + i * esz + o, none⟩) ∧ Elems xs E.bare esz r off
  | .nils, _, u => u = .slice none 0 0
  | .emp, _, u => ∃ a, u = .slice (some a) 0 0
  | .fs esz xs tok, E, u => ∃ a cap, u = .slice a xs.length cap ∧ xs.length ≤ cap ∧
      (xs ≠ [] → ∃ r off, a = some ⟨r, off, none⟩ ∧ Elems xs E.bare esz r off) ∧
      (∀ b, tok = some b → (xs = [] → cap = 0) ∧ (xs ≠ [] → ∃ r, E.τ b xs.length = some (r, cap) ∧ a = some ⟨r, 0, none⟩))
  | .hs b esz i len, E, u => ∃ r a cap, E.ρ b = some r ∧ u = .slice (some a) len cap ∧ len ≤ cap ∧ (0 < len → a = ⟨r, i * esz, none⟩)
  | .gs b _ n, E, u => ∃ a cap, u = .slice a n cap ∧ n ≤ cap ∧ (n = 0 → cap = 0) ∧ (n ≠ 0 → ∃ r, E.τ b n = some (r, cap) ∧ a = some ⟨r, 0, none⟩)
  | .nilm, _, u => u = .map none
  | .map b, E, u => ∃ r, E.ρ b = some r ∧ u = .map (some r)
  | .nilf, _, u => u = .nilFunc
  | .func f a c, E, u => ∃ vs ws, u = .func (.func f) vs ws ∧ VRels a E vs.toList ∧ VRels c E ws.toList
  | .yield l, E, u => ∃ r, E.ρ l = some r ∧ u = .func (.yield r) #[] #[]
  | .agg cs, E, u => ∃ vs : Array Value, u = .agg vs ∧ VRels cs E vs.toList ∧ ∀ v ∈ vs.toList, v.oneCell' = true
  | .tuple cs, E, u => ∃ vs : Array Value, u = .tuple vs ∧ VRels cs E vs.toList
def VRels : List AVal → Env → List Value → Prop
  | [], _, vs => vs = []
  | x :: xs, E, vs => ∃ v vs', vs = v :: vs' ∧ VRel x E v ∧ VRels xs E vs'
def Elems : List AVal → Env → Nat → Nat → Nat → Prop
  | [], _, _, _, _ => True
  | x :: xs, E, esz, r, off => (∃ u, VRel x E u ∧ u.cells.size = esz ∧ oneC u ∧ ∀ j v, u.cells[j]? = some v → E.fz r (off + j) = some v) ∧ Elems xs E esz r (off + esz)
end

mutual
theorem VRel.mono : ∀ (x : AVal) {E E' : Env} {u : Value}, E.le E' → VRel x E u → VRel x E' u
  | .undef, _, _, _, _, _ => by simp [VRel]
  | .bool b, _, _, _, _, h => by simpa [VRel] using h
  | .int k n, _, _, _, _, h => by simpa [VRel] using h
  | .str s, _, _, _, _, h => by simpa [VRel] using h
  | .nilp, _, _, _, _, h => by simpa [VRel] using h
  | .hp b esz i o, _, _, _, hle, h => by
    simp only [VRel] at h ⊢; obtain ⟨r, h1, h2⟩ := h; exact ⟨r, hle.ρ _ _ h1, h2⟩
  | .fp esz xs i o, _, _, _, hle, h => by
    simp only [VRel] at h ⊢; obtain ⟨r, off, h1, h2⟩ := h; exact ⟨r, off, h1, Elems.mono xs hle.bare h2⟩
  | .nils, _, _, _, _, h => by simpa [VRel] using h
  | .emp, _, _, _, _, h => by simpa [VRel] using h
  | .fs esz xs tok, _, _, _, hle, h => by
    simp only [VRel] at h ⊢
    obtain ⟨a, cap, h1, h0, h2, h3⟩ := h
    refine ⟨a, cap, h1, h0, fun hx => ?_, fun b hb => ⟨(h3 b hb).1, fun hx => ?_⟩⟩
    · obtain ⟨r, off, e, he⟩ := h2 hx; exact ⟨r, off, e, Elems.mono xs hle.bare he⟩
    · obtain ⟨r, e1, e2⟩ := (h3 b hb).2 hx; exact ⟨r, hle.τ _ _ _ e1, e2⟩
  | .hs b esz i len, _, _, _, hle, h => by
    simp only [VRel] at h ⊢; obtain ⟨r, a, cap, h1, h2⟩ := h; exact ⟨r, a, cap, hle.ρ _ _ h1, h2⟩
  | .gs b esz n, _, _, _, hle, h => by
    simp only [VRel] at h ⊢
    obtain ⟨a, cap, h1, h2, h3, h4⟩ := h
    exact ⟨a, cap, h1, h2, h3, fun hn => let ⟨r, e1, e2⟩ := h4 hn; ⟨r, hle.τ _ _ _ e1, e2⟩⟩
  | .nilm, _, _, _, _, h => by simpa [VRel] using h
  | .map b, _, _, _, hle, h => by
    simp only [VRel] at h ⊢; obtain ⟨r, h1, h2⟩ := h; exact ⟨r, hle.ρ _ _ h1, h2⟩
  | .nilf, _, _, _, _, h => by simpa [VRel] using h
  | .func f a c, _, _, _, hle, h => by
    simp only [VRel] at h ⊢; obtain ⟨vs, ws, h1, h2, h3⟩ := h; exact ⟨vs, ws, h1, VRels.mono a hle h2, VRels.mono c hle h3⟩
  | .yield l, _, _, _, hle, h => by
    simp only [VRel] at h ⊢; obtain ⟨r, h1, h2⟩ := h; exact ⟨r, hle.ρ _ _ h1, h2⟩
  | .agg cs, _, _, _, hle, h => by
    simp only [VRel] at h ⊢; obtain ⟨vs, h1, h2, h3⟩ := h; exact ⟨vs, h1, VRels.mono cs hle h2, h3⟩
  | .tuple cs, _, _, _, hle, h => by
    simp only [VRel] at h ⊢; obtain ⟨vs, h1, h2⟩ := h; exact ⟨vs, h1, VRels.mono cs hle h2⟩
theorem VRels.mono : ∀ (xs : List AVal) {E E' : Env} {vs : List Value}, E.le E' → VRels xs E vs → VRels xs E' vs
  | [], _, _, _, _, h => by simpa [VRels] using h
  | x :: xs, _, _, _, hle, h => by
    simp only [VRels] at h ⊢
    obtain ⟨v, vs', h1, h2, h3⟩ := h
    exact ⟨v, vs', h1, VRel.mono x hle h2, VRels.mono xs hle h3⟩
theorem Elems.mono : ∀ (xs : List AVal) {E E' : Env} {esz r off : Nat}, E.le E' → Elems xs E esz r off → Elems xs E' esz r off
  | [], _, _, _, _, _, _, _ => by simp [Elems]
  | x :: xs, _, _, _, _, _, hle, h => by
    simp only [Elems] at h ⊢
    obtain ⟨⟨u, h1, h2, h3, h4⟩, h5⟩ := h
    exact ⟨⟨u, VRel.mono x hle h1, h2, h3, fun j v hj => hle.fz _ _ _ (h4 j v hj)⟩, Elems.mono xs hle h5⟩
end

end Go.Ai
