/- The law on orders: walked. -/
import Derived.Test.YtdggbdjpcbiofaaGreatSrtd
import Derived.Test.YtdggbdjpcbiofaaGreatExA
set_option linter.unusedSimpArgs false
set_option linter.unusedVariables false
set_option maxHeartbeats 8000000
set_option maxRecDepth 100000
namespace Go.Par
open Go.Ai Go.Proofs

@[go_sem] theorem kill_Fd {n : Nat} {d : D} {b : Bool} : killA n (encFd d b) = encFd d b := by rw [encFd, kill_agg]; rfl

theorem shapeOrders_walk (l : List UInt8) (n : Int) : Hs Tryz.prog Tryz.eqs (.func 4 [] []) [encRaw l, I n] [] fun v _ => Ai.Sub v (.bool true) := by
  obtain ⟨N, hN⟩ : ∃ N, N = 2000 := ⟨_, rfl⟩
  refine Tryz.w4 N ?_
  simp (maxSteps := 9999999) (dsimp := false) (disch := omega) only [go_sem, Tryz.c4, Tryz.a4r0, Tryz.a4r1, encRaw]
  refine examples13 _ _ ?_
  simp (maxSteps := 9999999) (dsimp := false) (disch := omega) only [go_sem, Tryz.a4r2, Tryz.a4r4]
  refine Made_walk l _ _ ?_
  rintro _ ⟨p0, rfl, ok⟩
  simp (maxSteps := 9999999) (dsimp := false) (disch := omega) only [go_sem, Tryz.a4r5, cellsPg, cellsDc]
  generalize IntKind.i64.wrap (11 + IntKind.i64.wrap ↑(BitVec.ofInt IntKind.i64.bits n &&& BitVec.ofInt IntKind.i64.bits 3).toNat) = n1
  have n0 := ok.n0; have n2 := ok.n1; have n3 := ok.t1
  refine closed_walk p0 n1 (by omega) (by omega) _ _ ?_
  have hsm := closed_small ok.small n1
  have hsr : Srtd (closedP p0 n1).defs := by
    obtain ⟨s, hs⟩ := ok.defs
    exact hs.srtd.filter _
  generalize closedP p0 n1 = p at hsm hsr
  have hlen := hsm.1
  have hod := orderD_eq p hsr
  have how := order_walk p hsm
  rw [hod] at how
  have hnd := ids_nodup hsr
  have hdiff := different_walk (p.defs.map D.id) (by rw [List.length_map]; omega)
  rw [decide_eq_true hnd] at hdiff
  have hll : (p.defs.map D.id).length = p.defs.length := List.length_map _
  have hget : ∀ i : Nat, (p.defs.map D.id)[i]? = p.defs[i]?.map D.id := fun i => List.getElem?_map
  have htk : ∀ i : Nat, (p.defs.map D.id).take i = (p.defs.take i).map D.id := fun i => List.map_take.symm
  generalize p.defs.map D.id = ids at how hdiff hll hget htk
  simp (maxSteps := 9999999) (dsimp := false) (disch := omega) only [go_sem, Tryz.a4r5, cellsPg, cellsDc]
  refine how _ _ ?_
  simp (maxSteps := 9999999) (dsimp := false) (disch := omega) only [go_sem, Tryz.a4r6, cellsPg, cellsDc, hll, dec_f', dec_t']
  refine hdiff _ _ ?_
  simp (maxSteps := 9999999) (dsimp := false) (disch := omega) only [go_sem, Tryz.a4r8, cellsPg, cellsDc, hll, dec_f', dec_t']
  refine loop_rule (fun mm st => ∃ i : Nat, i + mm = p.defs.length ∧ st = ⟨tm 116 [(5, .bool true), (6, .hp 1 10 0 0), (7, Ints ids), (8, I i)], [.rows 1 [encRaw l], .rows 10 [encPg p]]⟩) ?_ (m := p.defs.length) (by omega)
    ⟨0, by omega, by simp (maxSteps := 9999999) (dsimp := false) (disch := omega) only [go_sem, encRaw, dec_t', Int.ofNat_zero] <;> rfl⟩
  rintro mm st rec ⟨i, hi, he⟩ hrec
  rw [he]
  simp (maxSteps := 9999999) (dsimp := false) (disch := omega) only [go_sem, Tryz.a4l27, Tryz.a4r9, hll]
  by_cases hlt : i < p.defs.length
  · have hx : p.defs[i]? = some p.defs[i] := List.getElem?_eq_getElem hlt
    have hmem : p.defs[i] ∈ p.defs := List.getElem_mem hlt
    have hbefore : ∀ e ∈ p.defs, e.id < p.defs[i].id → e.id ∈ ids.take i := by
      intro e he2 hlt2
      obtain ⟨j, hj, rfl⟩ := List.mem_iff_getElem.1 he2
      have hji : j < i := by
        rcases Nat.lt_trichotomy j i with h | h | h
        · exact h
        · subst h; omega
        · have := List.pairwise_iff_getElem.1 hsr.inc i j hlt hj h; omega
      rw [htk, List.mem_map]
      exact ⟨p.defs[j], List.mem_iff_getElem.2 ⟨j, by simp; omega, by rw [List.getElem_take]⟩, rfl⟩
    have hafter : ∀ j e, i < j → p.defs[j]? = some e → ¬ e.id < p.defs[i].id := by
      intro j e hj he2
      obtain ⟨hj2, rfl⟩ := List.getElem?_eq_some_iff.1 he2
      have := List.pairwise_iff_getElem.1 hsr.inc i j hlt hj2 hj; omega
    generalize p.defs[i] = d at hx hmem hbefore hafter
    have hidx : ids[i]? = some d.id := by rw [hget, hx]; rfl
    have hfd := find_srtd hsr hmem
    have hfw := found_walk p d.id (by omega)
    rw [hfd] at hfw
    simp only [Option.getD_some, Option.isSome_some] at hfw
    obtain ⟨hs1, hs2⟩ := hsm.2 d hmem
    have hcw := calls_walk d hs1 hs2
    have hcl : ∀ c ∈ callsD d, c < d.id := hsr.calls d hmem
    have hcn : (callsD d).length ≤ 12 := Nat.le_trans (cmpct_length _) (by rw [(sortI_perm _).length_eq]; exact hs2)
    simp (maxSteps := 9999999) (dsimp := false) (disch := omega) only [go_sem, Tryz.a4r10, dec_t', hlt, hll, hidx, inB]
    refine hfw _ _ ?_
    simp (maxSteps := 9999999) (dsimp := false) (disch := omega) only [go_sem, Tryz.a4r11, Tryz.a4r13, encFd, cellsFd, cellsD, dec_t', hlt, hll, hidx, inB, Tryz.a4r10]
    refine hcw _ _ ?_
    generalize callsD d = cs at hcl hcn
    simp (maxSteps := 9999999) (dsimp := false) (disch := omega) only [go_sem, Tryz.a4r14]
    refine loop_rule (fun mm st => ∃ k : Nat, k + mm = cs.length ∧ st = ⟨tm 116 [(5, .bool true), (6, .hp 1 10 0 0), (7, Ints ids), (8, I i), (10, Ints cs), (11, I k)], [.rows 1 [encRaw l], .rows 10 [encPg p], .rows 13 [encFd d true]]⟩) ?_ (m := cs.length) (by omega)
      ⟨0, by omega, by simp (maxSteps := 9999999) (dsimp := false) (disch := omega) only [go_sem, encRaw, dec_t', Int.ofNat_zero] <;> rfl⟩
    rintro mm2 st2 rec2 ⟨k, hk, he2⟩ hrec2
    rw [he2]
    simp (maxSteps := 9999999) (dsimp := false) (disch := omega) only [go_sem, Tryz.a4l19, Tryz.a4r15]
    by_cases hkl : k < cs.length
    · have hc : cs[k]? = some cs[k] := List.getElem?_eq_getElem hkl
      have hclk := hcl cs[k] (List.getElem_mem hkl)
      generalize cs[k] = c at hc hclk
      have hfw2 := found_walk p c (by omega)
      have hif : (findD p c).isSome = true → (ids.take i).contains c = true := fun h => by
        obtain ⟨e, he1, rfl⟩ := found_mem h
        rw [List.contains_iff_mem]
        exact hbefore e he1 hclk
      generalize (findD p c).getD Dz = d2 at hfw2
      generalize (findD p c).isSome = b at hfw2 hif
      simp (maxSteps := 9999999) (dsimp := false) (disch := omega) only [go_sem, Tryz.a4r16, dec_t', hkl, hc, inB]
      refine hfw2 _ _ ?_
      cases b with
      | false =>
        simp (maxSteps := 9999999) (dsimp := false) (disch := omega) only [go_sem, Tryz.a4r16, Tryz.a4r18, encFd, cellsFd, cellsD, dec_t', dec_f', wrap64]
        exact hrec2 (mm2 - 1) _ (by omega) ⟨k + 1, by omega, by simp (maxSteps := 9999999) (dsimp := false) (disch := omega) only [go_sem, encRaw, dec_t', Int.natCast_add, Int.cast_ofNat_Int] <;> rfl⟩
      | true =>
        have hh := has_walk (ids.take i) c (by simp; omega)
        rw [hif rfl] at hh
        simp (maxSteps := 9999999) (dsimp := false) (disch := omega) only [go_sem, Tryz.a4r16, encFd, cellsFd, cellsD, dec_t', dec_f', hll, hlt, inB, hc, hkl]
        rw [show (ids.map I).take i = (ids.take i).map I from List.map_take.symm]
        refine hh _ _ ?_
        simp (maxSteps := 9999999) (dsimp := false) (disch := omega) only [go_sem, Tryz.a4r16, Tryz.a4r18, encFd, cellsFd, cellsD, dec_t', dec_f', hll, hlt, inB, hc, hkl, wrap64]
        exact hrec2 (mm2 - 1) _ (by omega) ⟨k + 1, by omega, by simp (maxSteps := 9999999) (dsimp := false) (disch := omega) only [go_sem, encRaw, dec_t', Int.natCast_add, Int.cast_ofNat_Int] <;> rfl⟩
    · have : k = cs.length := by omega
      subst this
      simp (maxSteps := 9999999) (dsimp := false) (disch := omega) only [go_sem, dec_f', Tryz.a4r20, wrap64]
      refine loop_rule (fun mm st => ∃ k : Nat, k + mm = p.defs.length ∧ i < k ∧ st = ⟨tm 116 [(5, .bool true), (6, .hp 1 10 0 0), (7, Ints ids), (8, I i), (12, I k)], [.rows 1 [encRaw l], .rows 10 [encPg p], .rows 13 [encFd d true]]⟩) ?_ (m := p.defs.length - i - 1) (by omega)
        ⟨i + 1, by omega, by omega, by simp (maxSteps := 9999999) (dsimp := false) (disch := omega) only [go_sem, encRaw, dec_t', Int.natCast_add, Int.cast_ofNat_Int] <;> rfl⟩
      rintro mm3 st3 rec3 ⟨k, hk3, hik, he3⟩ hrec3
      rw [he3]
      simp (maxSteps := 9999999) (dsimp := false) (disch := omega) only [go_sem, Tryz.a4l25, Tryz.a4r21, hll]
      by_cases hkl3 : k < p.defs.length
      · have hxk : p.defs[k]? = some p.defs[k] := List.getElem?_eq_getElem hkl3
        have hna := hafter k _ hik hxk
        generalize p.defs[k] = dk at hxk hna
        have hidk : ids[k]? = some dk.id := by rw [hget, hxk]; rfl
        simp (maxSteps := 9999999) (dsimp := false) (disch := omega) only [go_sem, Tryz.a4r22, Tryz.a4r24, dec_t', dec_f', hkl3, hlt, hll, hidk, hidx, inB, hna, wrap64]
        exact hrec3 (mm3 - 1) _ (by omega) ⟨k + 1, by omega, by omega, by simp (maxSteps := 9999999) (dsimp := false) (disch := omega) only [go_sem, encRaw, dec_t', Int.natCast_add, Int.cast_ofNat_Int] <;> rfl⟩
      · simp (maxSteps := 9999999) (dsimp := false) (disch := omega) only [go_sem, dec_f', Tryz.a4r26, wrap64]
        exact hrec (mm - 1) _ (by omega) ⟨i + 1, by omega, by simp (maxSteps := 9999999) (dsimp := false) (disch := omega) only [go_sem, encRaw, dec_t', Int.natCast_add, Int.cast_ofNat_Int] <;> rfl⟩
  · have : i = p.defs.length := by omega
    subst this
    simp (maxSteps := 9999999) (dsimp := false) (disch := omega) only [go_sem, dec_f', Tryz.a4r28]
    exact .refl _
end Go.Par
