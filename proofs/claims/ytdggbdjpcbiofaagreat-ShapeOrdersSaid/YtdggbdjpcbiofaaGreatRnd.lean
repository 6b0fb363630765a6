/- Sites, At: ranges over the statements of a definition. -/
import Derived.Test.YtdggbdjpcbiofaaGreatVis
import Derived.Test.YtdggbdjpcbiofaaGreatAiRound
import Derived.Test.YtdggbdjpcbiofaaGreatMkH
set_option linter.unusedSimpArgs false
set_option linter.unusedVariables false
set_option maxHeartbeats 4000000
set_option maxRecDepth 100000
namespace Go.Par
open Go.Ai Go.Proofs

def cellsPl (p : S × Int) : List AVal := cellsS p.1 ++ [.int .i64 p.2]
theorem encPl_eq (p : S × Int) : encPl p = .agg (cellsPl p) := rfl
section
variable {fail : Prop}
@[go_sem] theorem lenPl (x : S × Int) : (cellsPl x).length = 21 := rfl
@[go_sem] theorem stor_Pl {x : S × Int} : storable (encPl x) = true := rfl
@[go_sem] theorem cellsOf_Pl {x : S × Int} : AVal.cells (encPl x) = cellsPl x := rfl
@[go_sem] theorem foldc_Pl {x : S × Int} : AVal.agg (cellsPl x) = encPl x := rfl
@[go_sem] theorem kill_Pl {n : Nat} {x : S × Int} : killA n (encPl x) = encPl x := by rw [encPl_eq, kill_agg]; rfl
@[go_sem] theorem get_Pl_0 {x : S × Int} {K : AVal → Prop} : partOf fail false 1 (encPl x) 0 K = K (.int .i64 x.1.site) := by rw [encPl_eq]; rfl
@[go_sem] theorem get_Pl_1 {x : S × Int} {K : AVal → Prop} : partOf fail false 1 (encPl x) 1 K = K (.int .i64 x.1.op) := by rw [encPl_eq]; rfl
@[go_sem] theorem get_Pl_3 {x : S × Int} {K : AVal → Prop} : partOf fail false 1 (encPl x) 3 K = K (.int .i64 x.1.m) := by rw [encPl_eq]; rfl
@[go_sem] theorem get_Pl_16 {x : S × Int} {K : AVal → Prop} : partOf fail false 1 (encPl x) 16 K = K (.fs 4 (x.1.args.map encE) none) := by rw [encPl_eq]; rfl
@[go_sem] theorem get_Pl_17 {x : S × Int} {K : AVal → Prop} : partOf fail false 1 (encPl x) 17 K = K (.fs 1 (x.1.ptrs.map (AVal.int .i64)) none) := by rw [encPl_eq]; rfl
@[go_sem] theorem get_Pl_20 {x : S × Int} {K : AVal → Prop} : partOf fail false 1 (encPl x) 20 K = K (.int .i64 x.2) := by rw [encPl_eq]; rfl
@[go_sem] theorem getA_Pl {x : S × Int} {K : AVal → Prop} : partOf fail true 20 (encPl x) 0 K = K (encS x.1) := by rw [encS_eq, encPl_eq]; rfl
end

/-- 'all' returns a function that has boxed what it was given. -/
theorem all_walk (l : List S) (d : Int) (h : List AObj) (K : AVal → List AObj → Prop)
    (hK : K (.func 87 [] [.hp h.length 1 0 0, .hp (h.length + 1) 1 0 0]) (h ++ [.rows 1 [.fs 20 (l.map encS) none]] ++ [.rows 1 [I d]])) : Hs Tryz.prog Tryz.eqs (.func 46 [] []) [.fs 20 (l.map encS) none, I d] h K := by
  refine Tryz.w46 0 ?_
  simp (maxSteps := 9999999) (dsimp := false) (disch := omega) only [go_sem, Tryz.c46, Tryz.a46r0, Tryz.a46r1]
  simpa using hK

/-- The function that it returns visits the statements. -/
theorem all1_walk (l : List S) (d : Int) (a b n : Nat) (h : List AObj) (K : Bool → List AObj → Prop) (K' : AVal → List AObj → Prop) (ha : h[a]? = some (.rows 1 [.fs 20 (l.map encS) none])) (hb : h[b]? = some (.rows 1 [I d]))
    (hn : n < h.length) (hl : 0 ≤ d ∧ d + (flatL l).length < 1000000000000) (hc : Clean h) (hv : visit (.yield n) ((flatD d l).map encPl) h K) (hK : ∀ v b h', h'.length = h.length → Clean h' → K b h' → K' v h') :
    Hs Tryz.prog Tryz.eqs (.func 87 [] [.hp a 1 0 0, .hp b 1 0 0]) [.yield n] h K' := by
  refine Tryz.w87 0 ?_
  simp (maxSteps := 9999999) (dsimp := false) (disch := omega) only [go_sem, Tryz.c87, Tryz.a87r0, ha, hb]
  refine walk_spec _ l d (.yield n) h K (Nat.le_refl _) hl.1 hl.2 (by simp (maxSteps := 9999999) (dsimp := false) (disch := omega) only [go_sem, dec_t']) rfl rfl hc hv _ fun b h1 e1 c1 hk => ?_
  simp (maxSteps := 9999999) (dsimp := false) (disch := omega) only [go_sem]
  rw [List.take_of_length_le (by omega), ← e1, c1]
  exact hK _ _ _ e1 c1 hk

def sitesD (d : D) : List Int := (flatL d.body).map S.site ++ [d.site]

def sHeap (d : D) (l : List Int) : List AObj := [.rows 12 [encD d], .tok 1 0, .tok 1 l.length, .rows 1 [.fs 1 (l.map I) (some 2)], .rows 1 [.fs 20 (d.body.map encS) none], .rows 1 [I 1],
  .loop true none (tm 20 [(0, encD d), (1, .hp 0 12 0 0), (2, .fs 1 [] (some 1)), (3, .hp 3 1 0 0), (5, .hp 0 12 0 11), (6, .fs 20 (d.body.map encS) none), (7, .func 87 [] [.hp 4 1 0 0, .hp 5 1 0 0])]) [8] Tryz.a15r3 Tryz.a15y5]

theorem sites_visit (d : D) : ∀ (xs : List (S × Int)) (l : List Int), l.length + xs.length < 1000000 → visit (.yield 6) (xs.map encPl) (sHeap d l) fun b h => b = true ∧ h = sHeap d (l ++ xs.map fun p => p.1.site)
  | [], l, hl => ⟨rfl, by simp⟩
  | x :: xs, l, hl => by
    simp only [List.length_cons] at hl
    rw [List.map_cons, visit]
    refine Hs.mono (K := fun v h => v = .bool true ∧ h = sHeap d (l ++ [x.1.site])) ?_ fun v h' ⟨e1, e2⟩ => ?_
    · refine round_rule Tryz.eqs_plain 0 (l := 6) (by simp [encPl]) rfl rfl ?_
      simp (maxSteps := 9999999) (dsimp := false) (disch := omega) only [go_sem, sHeap, Tryz.a15y5, Tryz.a15r3, Tryz.a15r4, dec_t', appLim]
      simp only [List.map_append, List.length_append, List.map_cons, List.map_nil, List.length_cons, List.length_nil]
    · subst e2
      refine ⟨rfl, rfl, .inl ⟨e1, ?_⟩⟩
      have := sites_visit d xs (l ++ [x.1.site]) (by simp; omega)
      simpa using this

theorem flatD_len : ∀ (n : Nat) (l : List S) (d : Int), (flatL l).length ≤ n → (flatD d l).map (·.1) = flatL l := by
  intro n
  induction n with
  | zero =>
    intro l d hl
    have := flatL_len l
    have h0 : l = [] := List.eq_nil_of_length_eq_zero (by omega)
    subst h0
    rw [flatD_nil, flatL_nil]; rfl
  | succ n ih =>
    intro l d hl
    induction l with
    | nil => rw [flatD_nil, flatL_nil]; rfl
    | cons s l ihl =>
      rw [flatL_cons, flatS_eq] at hl ⊢
      simp only [List.length_append, List.length_cons] at hl
      rw [flatD_cons, List.map_cons, List.map_append, List.map_append, ih s.body _ (by omega), ih s.els _ (by omega), ihl (by omega)]
      simp
theorem flatD_fst (l : List S) (d : Int) : (flatD d l).map (·.1) = flatL l := flatD_len _ l d (Nat.le_refl _)

theorem sites_walk (d : D) (hl : (flatL d.body).length < 100000) : F 15 [encD d] (Ints (sitesD d)) := by
  refine Fun.of_empty rfl (by simp (maxSteps := 9999999) (dsimp := false) (disch := omega) only [go_sem]) ?_
  refine Tryz.w15 0 ?_
  simp (maxSteps := 9999999) (dsimp := false) (disch := omega) only [go_sem, Tryz.c15, Tryz.a15r0, Tryz.a15r1, Tryz.a15r2]
  refine all_walk _ _ _ _ ?_
  simp (maxSteps := 9999999) (dsimp := false) (disch := omega) only [go_sem, dec_t']
  have hfl : (flatD 1 d.body).length = (flatL d.body).length := by rw [← flatD_fst d.body 1]; simp
  have hfs : (flatD 1 d.body).map (fun p => p.1.site) = (flatL d.body).map S.site := by rw [← flatD_fst d.body 1]; simp
  refine all1_walk d.body 1 4 5 6 (sHeap d []) _ _ rfl rfl (by simp [sHeap]) ⟨by omega, by omega⟩ rfl (sites_visit d (flatD 1 d.body) [] (by simp; omega)) ?_
  rintro v b h' e1 e2 ⟨rfl, rfl⟩
  rw [List.nil_append, hfs]
  simp (maxSteps := 9999999) (dsimp := false) (disch := omega) only [go_sem, sHeap, Tryz.a15r6, dec_t', appLim]
  exact Sub.of_eq (by simp [sitesD, Ints, L, I])

/-- What 'At' finds. -/
def atD (d : D) (site : Int) : Option S := (flatL d.body).find? fun s => s.site = site

def aHeap (d : D) (site : Int) (rd : Bool) (pe : Option AExit) (r : AVal) (b : Bool) : List AObj := [.rows 12 [encD d], .rows 1 [I site], .rows 20 [r], .rows 1 [.bool b], .rows 1 [.fs 20 (d.body.map encS) none], .rows 1 [I 1],
  .loop rd pe (tm 19 [(0, encD d), (1, I site), (2, .hp 0 12 0 0), (3, .hp 1 1 0 0), (4, .hp 2 20 0 0), (5, .hp 3 1 0 0), (7, .hp 0 12 0 11), (8, .fs 20 (d.body.map encS) none), (9, .func 87 [] [.hp 4 1 0 0, .hp 5 1 0 0])]) [10] Tryz.a18r2 Tryz.a18y5]

def zeroS : AVal := .agg [.int .i64 0, .int .i64 0, .int .i64 0, .int .i64 0, .int .i64 0, .int .i64 0, .int .i64 0, .int .i64 0, .nils, .int .i64 0, .int .i64 0, .int .i64 0, .nils, .int .i64 0, .nils, .nils, .nils, .nils, .nils, .nils]
theorem sub_zeroS : Ai.Sub zeroS (encS S0) := by
  simp only [zeroS, S0, encS_eq, cellsS, cellsE, cellsC, S.site, S.op, S.n, S.m, S.v, S.x, S.y, S.c, S.args, S.ptrs, S.body, S.els, E0, C0, E.op, E.n, E.v, E.a, C.op, C.a, C.c, List.cons_append, List.nil_append, List.map_cons, List.map_nil]
  exact SubC.sub (by repeat constructor)

/-- What lies there behind the rounds. -/
def aPost (d : D) (site : Int) (x : Option S) (b : Bool) (h : List AObj) : Prop :=
  match x with
  | none => b = true ∧ h = aHeap d site true none zeroS false
  | some s => b = false ∧ h = aHeap d site false (some .ret) (encS s) true

theorem at_visit (d : D) (site : Int) : ∀ (xs : List (S × Int)), visit (.yield 6) (xs.map encPl) (aHeap d site true none zeroS false) (aPost d site ((xs.map (·.1)).find? fun s => s.site = site))
  | [] => ⟨rfl, rfl⟩
  | x :: xs => by
    rw [List.map_cons, visit]
    by_cases hx : x.1.site = site
    · refine Hs.mono (K := fun v h => v = .bool false ∧ h = aHeap d site false (some .ret) (encS x.1) true) ?_ fun v h' ⟨e1, e2⟩ => ?_
      · refine round_rule Tryz.eqs_plain 0 (l := 6) (by simp [encPl]) rfl rfl ?_
        simp (maxSteps := 9999999) (dsimp := false) (disch := omega) only [go_sem, aHeap, zeroS, Tryz.a18y5, Tryz.a18r2, Tryz.a18r3, Tryz.a18r4, dec_t', hx]
      · subst e2
        refine ⟨rfl, by rw [Clean]; simp (maxSteps := 9999999) (dsimp := false) (disch := omega) only [go_sem, aHeap, dec_t'], .inr ⟨e1, ?_⟩⟩
        rw [List.map_cons, List.find?_cons_of_pos (by simp [hx])]
        exact ⟨rfl, rfl⟩
    · refine Hs.mono (K := fun v h => v = .bool true ∧ h = aHeap d site true none zeroS false) ?_ fun v h' ⟨e1, e2⟩ => ?_
      · refine round_rule Tryz.eqs_plain 0 (l := 6) (by simp [encPl]) rfl rfl ?_
        simp (maxSteps := 9999999) (dsimp := false) (disch := omega) only [go_sem, aHeap, zeroS, Tryz.a18y5, Tryz.a18r2, Tryz.a18r3, Tryz.a18r4, dec_f', hx]
      · subst e2
        refine ⟨rfl, rfl, .inl ⟨e1, ?_⟩⟩
        rw [List.map_cons, List.find?_cons_of_neg (by simp [hx])]
        exact at_visit d site xs

theorem at_walk (d : D) (site : Int) (hl : (flatL d.body).length < 100000) : F 18 [encD d, I site] (.tuple [encS ((atD d site).getD S0), .bool (atD d site).isSome]) := by
  refine Fun.of_empty rfl (by simp (maxSteps := 9999999) (dsimp := false) (disch := omega) only [go_sem]) ?_
  refine Tryz.w18 0 ?_
  simp (maxSteps := 9999999) (dsimp := false) (disch := omega) only [go_sem, Tryz.c18, Tryz.a18r0, Tryz.a18r1]
  refine all_walk _ _ _ _ ?_
  simp (maxSteps := 9999999) (dsimp := false) (disch := omega) only [go_sem, dec_t']
  have hfl : (flatD 1 d.body).length = (flatL d.body).length := by rw [← flatD_fst d.body 1]; simp
  refine all1_walk d.body 1 4 5 6 (aHeap d site true none zeroS false) _ _ rfl rfl (by simp [aHeap]) ⟨by omega, by omega⟩ rfl (at_visit d site (flatD 1 d.body)) ?_
  rw [flatD_fst]
  rintro v b h' e1 e2 hp
  rw [show (flatL d.body).find? (fun s => s.site = site) = atD d site from rfl] at hp
  cases hq : atD d site with
  | none =>
    rw [hq] at hp
    obtain ⟨rfl, rfl⟩ := hp
    simp (maxSteps := 9999999) (dsimp := false) (disch := omega) only [go_sem, aHeap, zeroS, Tryz.a18r6, dec_t']
    exact .tuple (.cons sub_zeroS (.cons (.refl _) .nil))
  | some s =>
    rw [hq] at hp
    obtain ⟨rfl, rfl⟩ := hp
    simp (maxSteps := 9999999) (dsimp := false) (disch := omega) only [go_sem, aHeap, Tryz.a18r6, dec_t']
    exact .refl _
end Go.Par
