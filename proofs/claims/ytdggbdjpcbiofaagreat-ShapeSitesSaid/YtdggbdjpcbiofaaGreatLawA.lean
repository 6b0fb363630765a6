/- The law on sites: walked. -/
import Derived.Test.YtdggbdjpcbiofaaGreatMkL
import Derived.Test.YtdggbdjpcbiofaaGreatRnd
import Derived.Test.YtdggbdjpcbiofaaGreatExA
set_option linter.unusedSimpArgs false
set_option linter.unusedVariables false
set_option maxHeartbeats 8000000
set_option maxRecDepth 100000
namespace Go.Par
open Go.Ai Go.Proofs

theorem DefsOk.lt {s : Int} {l : List D} (h : DefsOk s l) : ∀ d ∈ l, ∃ hs i th s', DefOk hs declared i th s' d := by
  induction h with
  | nil => intro d hd; cases hd
  | snoc h hd ih =>
    intro d hm
    rcases List.mem_append.1 hm with hm | hm
    · exact ih d hm
    · simp only [List.mem_singleton] at hm
      subst hm
      exact ⟨_, _, _, _, hd⟩

theorem sitesD_eq (d : D) : sitesD d = sitesL d.body ++ [d.site] := rfl
theorem DefOk.flen {hs : List Hd} {dc : Dc} {i : Int} {th : Bool} {s : Int} {d : D} (h : DefOk hs dc i th s d) : (flatL d.body).length + 1 ≤ 40 := by
  have h1 := h.sites.length
  have h2 := h.len
  simp [sitesL] at h1
  omega
theorem atD_is (d : D) (x : Int) : (atD d x).isSome = decide (x ∈ sitesL d.body) := by
  rw [Bool.eq_iff_iff]
  simp only [atD, List.find?_isSome, decide_eq_true_eq, sitesL, List.mem_map]
theorem atD_site (d : D) (x : Int) (h : x ∈ sitesL d.body) : ((atD d x).getD S0).site = x := by
  have := atD_is d x
  rw [decide_eq_true h] at this
  obtain ⟨s, hs⟩ := Option.isSome_iff_exists.1 this
  rw [hs]
  have := List.find?_some hs
  simpa using this

theorem shapeSites_walk (l : List UInt8) (n : Int) : Hs Tryz.prog Tryz.eqs (.func 3 [] []) [encRaw l, I n] [] fun v _ => Ai.Sub v (.bool true) := by
  obtain ⟨N, hN⟩ : ∃ N, N = 100 := ⟨_, rfl⟩
  refine Tryz.w3 N ?_
  simp (maxSteps := 9999999) (dsimp := false) (disch := omega) only [go_sem, Tryz.c3, Tryz.a3r0, Tryz.a3r1, encRaw]
  refine examples13 _ _ ?_
  simp (maxSteps := 9999999) (dsimp := false) (disch := omega) only [go_sem, Tryz.a3r2, Tryz.a3r4]
  refine Made_walk l _ _ ?_
  rintro _ ⟨p, rfl, ok⟩
  simp (maxSteps := 9999999) (dsimp := false) (disch := omega) only [go_sem, Tryz.a3r5, cellsPg, cellsDc]
  have n0 := ok.n0; have n1 := ok.n1
  refine loop_rule (fun mm st => ∃ i : Nat, i + mm = p.defs.length ∧ st = ⟨tm 114 [(1, I n), (5, .bool true), (6, .hp 1 10 0 0), (7, I i)], [.rows 1 [encRaw l], .rows 10 [encPg p]]⟩) ?_ (m := p.defs.length) (by omega)
    ⟨0, by omega, by simp (maxSteps := 9999999) (dsimp := false) (disch := omega) only [go_sem, encRaw, dec_t', Int.ofNat_zero] <;> rfl⟩
  rintro mm st rec ⟨i, hi, he⟩ hrec
  rw [he]
  simp (maxSteps := 9999999) (dsimp := false) (disch := omega) only [go_sem, Tryz.a3l22, Tryz.a3r6]
  by_cases hlt : i < p.defs.length
  · have hx : p.defs[i]? = some p.defs[i] := List.getElem?_eq_getElem hlt
    have hmem : p.defs[i] ∈ p.defs := List.getElem_mem hlt
    generalize p.defs[i] = d at hx hmem
    obtain ⟨s, hds⟩ := ok.defs
    obtain ⟨hs, i', th, s', hd⟩ := hds.lt d hmem
    have hf := hd.flen
    have hnd := hd.sites.nodup
    simp (maxSteps := 9999999) (dsimp := false) (disch := omega) only [go_sem, Tryz.a3r7, Tryz.a3r8, dec_t', hlt, hx, cellsD]
    refine sites_walk d (by omega) _ _ ?_
    have hlen : (sitesD d).length = (flatL d.body).length + 1 := by simp [sitesD]
    have hlast : (sitesD d)[((sitesD d).length - 1 : Int).toNat]? = some d.site := by
      rw [show ((sitesD d).length - 1 : Int).toNat = ((flatL d.body).map S.site).length by simp; omega, sitesD, List.getElem?_append_right (Nat.le_refl _)]
      simp
    have hnd' : decide (sitesD d).Nodup = true := decide_eq_true hnd
    have hdiff := different_walk (sitesD d) (by omega)
    rw [hnd'] at hdiff
    have hcount := count_walk _ d.body (Nat.le_refl _) (by omega)
    generalize hls : sitesD d = ls at hlen hlast hdiff
    have hle : 1 + ((flatL d.body).length : Int) = ls.length := by omega
    simp (maxSteps := 9999999) (dsimp := false) (disch := omega) only [go_sem, Tryz.a3r9, dec_t', dec_f', inB, wrap64, hlast]
    refine hdiff _ _ ?_
    simp (maxSteps := 9999999) (dsimp := false) (disch := omega) only [go_sem, dec_t', dec_f', wrap64]
    refine hcount _ _ ?_
    simp (maxSteps := 9999999) (dsimp := false) (disch := omega) only [go_sem, dec_t', dec_f', wrap64, hle, Tryz.a3r11]
    have hap := List.nodup_append.1 hnd
    have hsite : ∀ k, k < (flatL d.body).length → ∃ x, ls[k]? = some x ∧ x ∈ sitesL d.body := by
      intro k hk
      rw [← hls, sitesD_eq, List.getElem?_append_left (by simpa [sitesL] using hk)]
      exact ⟨_, List.getElem?_eq_getElem (by simpa [sitesL] using hk), List.getElem_mem _⟩
    have hout : d.site ∉ sitesL d.body := fun h => hap.2.2 _ h _ (List.mem_singleton.2 rfl) rfl
    refine loop_rule (fun mm st => ∃ k : Nat, k + mm = ls.length ∧ st = ⟨tm 114 [(1, I n), (5, .bool true), (6, .hp 1 10 0 0), (7, I i), (8, .hp 2 12 0 0), (9, Ints ls), (10, I k)], [.rows 1 [encRaw l], .rows 10 [encPg p], .rows 12 [encD d]]⟩) ?_ (m := ls.length) (by omega)
      ⟨0, by omega, by simp (maxSteps := 9999999) (dsimp := false) (disch := omega) only [go_sem, encRaw, dec_t', Int.ofNat_zero] <;> rfl⟩
    rintro mm2 st2 rec2 ⟨k, hk, he2⟩ hrec2
    rw [he2]
    simp (maxSteps := 9999999) (dsimp := false) (disch := omega) only [go_sem, Tryz.a3l17, Tryz.a3r12]
    by_cases hkl : k < ls.length
    · by_cases hkF : k < (flatL d.body).length
      · obtain ⟨x, hx2, hx3⟩ := hsite k hkF
        have h1 := atD_is d x
        have h2 := atD_site d x hx3
        rw [decide_eq_true hx3] at h1
        have hat := at_walk d x (by omega)
        rw [h1] at hat
        generalize (atD d x).getD S0 = sx at hat h2
        simp (maxSteps := 9999999) (dsimp := false) (disch := omega) only [go_sem, Tryz.a3r13, dec_t', hkl, hx2]
        refine hat _ _ ?_
        simp (maxSteps := 9999999) (dsimp := false) (disch := omega) only [go_sem, Tryz.a3r14, Tryz.a3r16, dec_t', dec_f', wrap64, hx2, h2]
        exact hrec2 (mm2 - 1) _ (by omega) ⟨k + 1, by omega, by simp (maxSteps := 9999999) (dsimp := false) (disch := omega) only [go_sem, encRaw, dec_t', Int.natCast_add, Int.cast_ofNat_Int] <;> rfl⟩
      · have hkF2 : k = (flatL d.body).length := by omega
        have hx2 : ls[k]? = some d.site := by rw [← hlast]; congr 1; omega
        have h1 := atD_is d d.site
        rw [decide_eq_false hout] at h1
        have hat := at_walk d d.site (by omega)
        rw [h1] at hat
        generalize (atD d d.site).getD S0 = sx at hat
        simp (maxSteps := 9999999) (dsimp := false) (disch := omega) only [go_sem, Tryz.a3r13, dec_t', hkl, hx2]
        refine hat _ _ ?_
        simp (maxSteps := 9999999) (dsimp := false) (disch := omega) only [go_sem, Tryz.a3r14, Tryz.a3r16, dec_t', dec_f', wrap64, hx2]
        exact hrec2 (mm2 - 1) _ (by omega) ⟨k + 1, by omega, by simp (maxSteps := 9999999) (dsimp := false) (disch := omega) only [go_sem, encRaw, dec_t', Int.natCast_add, Int.cast_ofNat_Int] <;> rfl⟩
    · have : k = ls.length := by omega
      subst this
      simp (maxSteps := 9999999) (dsimp := false) (disch := omega) only [go_sem, dec_f', Tryz.a3r18]
      refine at_walk d n (by omega) _ _ ?_
      have h1 := atD_is d n
      generalize (atD d n).getD S0 = sx
      generalize (atD d n).isSome = b at h1
      have hh := has_walk ls n (by omega)
      have hcon : ls.contains n = (b || decide (n = d.site)) := by
        rw [h1, ← hls, sitesD_eq, Bool.eq_iff_iff]
        simp
      simp (maxSteps := 9999999) (dsimp := false) (disch := omega) only [go_sem, Tryz.a3r19, dec_t', cellsS, cellsE, cellsC]
      refine hh _ _ ?_
      generalize ls.contains n = c at hcon
      subst hcon
      by_cases hn : n = d.site
      · have hb : b = false := by rw [h1, hn]; exact decide_eq_false hout
        subst hb
        simp (maxSteps := 9999999) (dsimp := false) (disch := omega) only [go_sem, hn, Tryz.a3r21, wrap64]
        exact hrec (mm - 1) _ (by omega) ⟨i + 1, by omega, by simp (maxSteps := 9999999) (dsimp := false) (disch := omega) only [go_sem, encRaw, dec_t', Int.natCast_add, Int.cast_ofNat_Int, hn] <;> rfl⟩
      · cases b with
        | true =>
          simp (maxSteps := 9999999) (dsimp := false) (disch := omega) only [go_sem, hn, Tryz.a3r21, wrap64, dec_f']
          exact hrec (mm - 1) _ (by omega) ⟨i + 1, by omega, by simp (maxSteps := 9999999) (dsimp := false) (disch := omega) only [go_sem, encRaw, dec_t', Int.natCast_add, Int.cast_ofNat_Int] <;> rfl⟩
        | false =>
          simp (maxSteps := 9999999) (dsimp := false) (disch := omega) only [go_sem, hn, Tryz.a3r21, wrap64, dec_f']
          exact hrec (mm - 1) _ (by omega) ⟨i + 1, by omega, by simp (maxSteps := 9999999) (dsimp := false) (disch := omega) only [go_sem, encRaw, dec_t', Int.natCast_add, Int.cast_ofNat_Int] <;> rfl⟩
  · have : i = p.defs.length := by omega
    subst this
    simp (maxSteps := 9999999) (dsimp := false) (disch := omega) only [go_sem, dec_f', Tryz.a3r23]
    exact .refl _
end Go.Par
