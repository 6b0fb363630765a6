/- Structs of plain fields compare cell by cell. -/
import Derived.Test.YtdggbdjpcbiofaaGreatAiCall
import Derived.Laws.StructEq
namespace Go.Ai

def plainF (P : Program) : List Field → Nat → Bool
  | [], _ => true
  | f :: fs, i => f.offset == i && f.name != "_" && decide (isAggT P f.type = some false) && plainF P fs (i + 1)

def plainT (P : Program) (t : TypeId) : Bool :=
  (match P.underlying t with
  | some (.struct fs) => plainF P fs.toList 0
  | _ => false) && !P.stoodInHeld t && !P.eqGuardType P.depth t

theorem plainF_run {P : Program} {w : World} {d : Nat} {E : Env} {us vs : Array Value} : ∀ (fs : List Field) (i : Nat) (as bs : List AVal) (b : Bool), plainF P fs i = true → codeF P fs = some (codeOf as) → plainEqs as bs = some b → VRels as E (us.toList.drop i) → VRels bs E (vs.toList.drop i) →
    (Op.eqFields (d + 1) us vs fs).run P w = .ok b w
  | [], i, as, bs, b, _, hcode, hp, _, _ => by
    have : as = [] := by
      cases as with
      | nil => rfl
      | cons x as =>
        cases bs with
        | nil => simp [plainEqs] at hp
        | cons y bs =>
          simp only [codeF, Option.some.injEq] at hcode
          cases x <;> simp only [codeOf] at hcode <;> first | omega | (simp [plainEqs, plainEq] at hp)
    subst this
    cases bs with
    | nil => simp [plainEqs] at hp; subst hp; simp [Op.eqFields]
    | cons _ _ => simp [plainEqs] at hp
  | f :: fs, i, as, bs, b, hk, hcode, hp, ha, hb => by
    simp only [plainF, Bool.and_eq_true, beq_iff_eq, bne_iff_ne, ne_eq, decide_eq_true_eq] at hk
    obtain ⟨⟨⟨h1, h2⟩, h3⟩, h5⟩ := hk
    cases as with
    | nil =>
      simp only [codeF, codeOf] at hcode
      split at hcode <;> simp at hcode
    | cons x as =>
    cases bs with
    | nil => simp [plainEqs] at hp
    | cons y bs =>
    simp only [plainEqs] at hp
    split at hp
    · rename_i c hc
      split at hp
      · rename_i c' hc'
        cases hp
        simp only [VRels] at ha hb
        obtain ⟨u, us', e1, hu, hus⟩ := ha
        obtain ⟨v, vs', e2, hv, hvs⟩ := hb
        have g1 : us[i]? = some u := by
          have := congrArg (·[0]?) e1; simpa using this
        have g2 : vs[i]? = some v := by
          have := congrArg (·[0]?) e2; simpa using this
        have d1 : us.toList.drop (i + 1) = us' := by have := congrArg (·.drop 1) e1; simpa [List.drop_drop, Nat.add_comm] using this
        have d2 : vs.toList.drop (i + 1) = vs' := by have := congrArg (·.drop 1) e2; simpa [List.drop_drop, Nat.add_comm] using this
        have hkind : codeF P fs = some (codeOf as) ∧ ((∃ j n, x = .int j n) → ∃ q, P.underlying f.type = some (.int q)) ∧ ((∃ t, x = .bool t) → P.underlying f.type = some .bool) := by
          unfold plainEq at hc
          simp only [codeF] at hcode
          split at hc
          · split at hcode
            · rename_i q m hq hm
              simp only [codeOf, Option.some.injEq] at hcode
              exact ⟨by rw [hm]; congr 1; omega, fun _ => ⟨_, hq⟩, fun ⟨t, e⟩ => by cases e⟩
            · simp only [codeOf, Option.some.injEq] at hcode; omega
            · cases hcode
          · split at hcode
            · simp only [codeOf, Option.some.injEq] at hcode; omega
            · rename_i m hq hm
              simp only [codeOf, Option.some.injEq] at hcode
              exact ⟨(by rw [hm]; congr 1; omega), (fun ⟨j, n, e⟩ => by cases e), fun _ => hq⟩
            · cases hcode
          · cases hc
        have ih := plainF_run (P := P) (w := w) (d := d) (E := E) (us := us) (vs := vs) fs (i + 1) as bs c' h5 hkind.1 hc' (by rw [d1]; exact hus) (by rw [d2]; exact hvs)
        have heq : (Op.equalIn (d + 1) f.type u v).run P w = .ok c w := by
          unfold plainEq at hc
          split at hc
          · obtain ⟨q, hq⟩ := hkind.2.1 ⟨_, _, rfl⟩
            split at hc
            · cases hc
              rename_i hjk
              have hjk := of_decide_eq_true hjk
              subst hjk
              simp only [VRel] at hu hv; subst hu; subst hv
              rw [run_equalIn_int (k' := q) (h := hq)]
              simp [BEq.beq]
            · cases hc
          · cases hc
            simp only [VRel] at hu hv; subst hu; subst hv
            exact run_equalIn_bool' _ _ _ _ _ (hkind.2.2 ⟨_, rfl⟩)
          · cases hc
        simp only [Op.eqFields, if_pos h2, Sem.run_bind, part, run_isAgg h3, h1, g1, g2, Result.andThen_ok, Bool.false_eq_true, if_false, Sem.run_pure, heq, Sem.run_ite]
        cases c with
        | true => simpa using ih
        | false => simp
      · cases hp
    · cases hp

/-- A struct of plain fields. -/
theorem eqPlain {P : Program} {t : TypeId} (h : plainT P t = true) : EqPlain P t := by
  simp only [plainT, Bool.and_eq_true, Bool.not_eq_true'] at h
  obtain ⟨⟨h1, h2⟩, h3⟩ := h
  split at h1
  · rename_i fs hfs
    intro xs ys b hc hp E u v x y op w hu hv
    simp only [VRel] at hu hv
    obtain ⟨us, rfl, hus, _⟩ := hu
    obtain ⟨vs, rfl, hvs, _⟩ := hv
    have hfo : P.fieldsOf t = fs := by simp [Program.fieldsOf, hfs]
    have hcf : codeF P fs.toList = some (codeOf xs) := by simpa [codeT, hfs] using hc
    refine ⟨run_eqGuard_agg _ _ _ _ _ _ _ h3, ?_⟩
    show (Op.equalIn 10000 t (.agg us) (.agg vs)).run P w = .ok b w
    rw [run_equalIn_struct w 9999 t us vs (by rw [hfo]; exact hfs) h2, hfo]
    exact plainF_run fs.toList 0 xs ys b h1 hcf hp (by simpa using hus) (by simpa using hvs)
  · cases h1

end Go.Ai
