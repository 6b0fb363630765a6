/- Find, Closed, Order. -/
import Derived.Test.YtdggbdjpcbiofaaGreatCal
import Derived.Test.YtdggbdjpcbiofaaGreatScan
set_option linter.unusedSimpArgs false
set_option linter.unusedVariables false
set_option maxHeartbeats 4000000
set_option maxRecDepth 100000
namespace Go.Par
open Go.Ai Go.Proofs

def Dz : D := ⟨0, 0, ⟨#[]⟩, 0, 0, [], [], 0, 0, [], 0, []⟩
def findD (p : Pg) (id : Int) : Option D := p.defs.find? fun d => d.id = id

theorem find_take {l : List D} {id : Int} {i : Nat} (h : i < l.length) (h1 : (l.take i).find? (fun d => d.id = id) = none) (h2 : ¬ l[i].id = id) : (l.take (i + 1)).find? (fun d => d.id = id) = none := by
  rw [List.take_succ_eq_append_getElem h, List.find?_append, h1]
  simp [h2]
theorem find_at {l : List D} {id : Int} {i : Nat} (h : i < l.length) (h1 : (l.take i).find? (fun d => d.id = id) = none) (h2 : l[i].id = id) : l.find? (fun d => d.id = id) = some l[i] := by
  have := List.find?_append (p := fun d : D => decide (d.id = id)) (xs := l.take i) (ys := l.drop i)
  rw [h1, List.drop_eq_getElem_cons h] at this
  rw [← List.drop_eq_getElem_cons h, List.take_append_drop] at this
  rw [this, Option.none_or, List.drop_eq_getElem_cons h, List.find?_cons_of_pos (by simpa using h2)]

def zeroD : AVal := .agg [.int .i64 0, .int .i64 0, .str (ByteArray.mk #[]), .int .i64 0, .int .i64 0, .nils, .nils, .int .i64 0, .int .i64 0, .nils, .int .i64 0, .nils]
theorem cmpct_length : ∀ l : List Int, (cmpct l).length ≤ l.length
  | [] => Nat.le_refl _
  | [x] => Nat.le_refl _
  | x :: y :: l => by
    have := cmpct_length (y :: l)
    rw [cmpct]
    split
    · simp only [List.length_cons] at this ⊢; omega
    · simp only [List.length_cons] at this ⊢; omega
theorem sub_zeroD : Ai.Sub zeroD (encD Dz) := by
  simp only [zeroD, Dz, encD_eq, cellsD, List.map_nil]
  exact SubC.sub (by repeat constructor)

theorem find_walk (p : Pg) (id : Int) (hp : p.defs.length < 1000000) : F 51 [encPg p, I id] (.tuple [encD ((findD p id).getD Dz), .bool (findD p id).isSome]) := by
  refine Fun.of_empty rfl (by simp (maxSteps := 9999999) (dsimp := false) (disch := omega) only [go_sem]) ?_
  obtain ⟨N, hN⟩ : ∃ N, N = p.defs.length + 1 := ⟨_, rfl⟩
  refine Tryz.w51 N ?_
  simp (maxSteps := 9999999) (dsimp := false) (disch := omega) only [go_sem, Tryz.c51, Tryz.a51r0, Tryz.a51r1, cellsPg, cellsDc]
  refine loop_rule (fun m st => ∃ i : Nat, i + m = p.defs.length ∧ (p.defs.take i).find? (fun d => d.id = id) = none ∧
    st = ⟨tm 22 [(1, I id), (4, .hp 1 12 0 0), (9, .fs 12 (p.defs.map encD) none), (10, I p.defs.length), (11, I i)], [.rows 10 [encPg p], .rows 12 [zeroD]]⟩) ?_ (m := p.defs.length) (by omega) ⟨0, by omega, by simp, by simp (maxSteps := 9999999) (dsimp := false) (disch := omega) only [go_sem, Int.ofNat_zero, dec_t', cellsPg, cellsDc, zeroD] <;> rfl⟩
  rintro m st rec ⟨i, hi, hf, he⟩ hrec
  rw [he]
  simp (maxSteps := 9999999) (dsimp := false) (disch := omega) only [go_sem, Tryz.a51l7, Tryz.a51r2]
  by_cases hlt : i < p.defs.length
  · have hx : p.defs[i]? = some p.defs[i] := List.getElem?_eq_getElem hlt
    have f1 := find_take hlt hf
    have f2 := find_at hlt hf
    generalize p.defs[i] = d at hx f1 f2
    simp (maxSteps := 9999999) (dsimp := false) (disch := omega) only [go_sem, dec_t', dec_f', Tryz.a51r3, Tryz.a51r4, hlt, hx, inB, cellsD, zeroD]
    by_cases hid : d.id = id
    · rw [findD, f2 hid]
      simp (maxSteps := 9999999) (dsimp := false) (disch := omega) only [go_sem, dec_t', hid, Tryz.a51r5]
      exact .refl _
    · simp (maxSteps := 9999999) (dsimp := false) (disch := omega) only [go_sem, dec_f', hid, Tryz.a51r6, wrap64, zeroD]
      exact hrec (m - 1) _ (by omega) ⟨i + 1, by omega, f1 hid, by simp (maxSteps := 9999999) (dsimp := false) (disch := omega) only [go_sem, Int.natCast_add, Int.cast_ofNat_Int, dec_t', zeroD] <;> rfl⟩
  · have e : i = p.defs.length := by omega
    subst e
    rw [List.take_length] at hf
    rw [findD, hf]
    simp (maxSteps := 9999999) (dsimp := false) (disch := omega) only [go_sem, dec_f', Tryz.a51r8, zeroD]
    exact .tuple (.cons sub_zeroD (.cons (.refl _) .nil))

def cellsFd (d : D) (b : Bool) : List AVal := cellsD d ++ [.bool b]
def encFd (d : D) (b : Bool) : AVal := .agg (cellsFd d b)

theorem found_walk (p : Pg) (id : Int) (hp : p.defs.length < 1000000) : F 22 [encPg p, I id] (encFd ((findD p id).getD Dz) (findD p id).isSome) := by
  refine Fun.of_empty rfl (by simp (maxSteps := 9999999) (dsimp := false) (disch := omega) only [go_sem]) ?_
  refine Tryz.w22 0 ?_
  simp (maxSteps := 9999999) (dsimp := false) (disch := omega) only [go_sem, Tryz.c22, Tryz.a22r0, Tryz.a22r1]
  refine find_walk p id hp _ _ ?_
  generalize (findD p id).getD Dz = d
  generalize (findD p id).isSome = b
  simp (maxSteps := 9999999) (dsimp := false) (disch := omega) only [go_sem, Tryz.a22r2, cellsD]
  exact .refl _

/-- A program without a definition that is no thread. -/
def closedP (p : Pg) (id : Int) : Pg := { p with defs := p.defs.filter fun d => decide (d.id ≠ id) || p.threads.contains id }

theorem closed_walk (p : Pg) (id : Int) (hp : p.defs.length < 100000) (ht : p.threads.length < 1000000) : F 20 [encPg p, I id] (encPg (closedP p id)) := by
  refine Fun.of_empty rfl (by simp (maxSteps := 9999999) (dsimp := false) (disch := omega) only [go_sem]) ?_
  obtain ⟨N, hN⟩ : ∃ N, N = p.defs.length + 1 := ⟨_, rfl⟩
  refine Tryz.w20 N ?_
  simp (maxSteps := 9999999) (dsimp := false) (disch := omega) only [go_sem, Tryz.c20, Tryz.a20r0, Tryz.a20r1, Tryz.a20r2, cellsPg, cellsDc]
  have hh := has_walk p.threads id (by omega)
  generalize hc : p.threads.contains id = c at hh
  refine loop_rule (fun m st => ∃ (i : Nat) (l : List D), i + m = p.defs.length ∧ l = (p.defs.take i).filter (fun d => decide (d.id ≠ id) || c) ∧
    st = ⟨tm 40 [(1, I id), (2, .hp 0 10 0 0), (4, .hp 1 10 0 0), (5, .fs 12 (l.map encD) (some 2)), (6, I i)], [.rows 10 [encPg p], .rows 10 [.agg [.nils, .nils, .nils, .nils, .int .i64 0, .int .i64 0, .int .i64 0, .nils, .nils, .nils]], .tok 12 l.length]⟩)
    ?_ (m := p.defs.length) (by omega) ⟨0, [], by omega, by simp, by simp (maxSteps := 9999999) (dsimp := false) (disch := omega) only [go_sem, Int.ofNat_zero, dec_t', cellsPg, cellsDc] <;> rfl⟩
  rintro m st rec ⟨i, l, hi, hf, he⟩ hrec
  rw [he]
  have hll : l.length ≤ i := by rw [hf]; refine Nat.le_trans (List.length_filter_le _ _) ?_; simp; omega
  simp (maxSteps := 9999999) (dsimp := false) (disch := omega) only [go_sem, Tryz.a20l7, Tryz.a20r3, cellsPg, cellsDc]
  by_cases hlt : i < p.defs.length
  · have hx : p.defs[i]? = some p.defs[i] := List.getElem?_eq_getElem hlt
    have hf2 : (p.defs.take (i + 1)).filter (fun d => decide (d.id ≠ id) || c) = l ++ if p.defs[i].id ≠ id ∨ c = true then [p.defs[i]] else [] := by
      rw [List.take_succ_eq_append_getElem hlt, List.filter_append, ← hf]
      by_cases h1 : p.defs[i].id = id <;> cases c <;> simp [h1]
    generalize p.defs[i] = d at hx hf2
    by_cases hid : d.id = id
    · cases c with
      | true =>
        simp (maxSteps := 9999999) (dsimp := false) (disch := omega) only [go_sem, dec_t', dec_f', hlt, hx, Tryz.a20r4, Tryz.a20r5, Tryz.a20r6, hid, wrap64, inB, cellsPg, cellsDc]
        refine hh _ _ ?_
        simp (maxSteps := 9999999) (dsimp := false) (disch := omega) only [go_sem, dec_t', dec_f', hlt, hx, Tryz.a20r4, Tryz.a20r5, Tryz.a20r6, wrap64, inB, cellsPg, cellsDc, appLim]
        exact hrec (m - 1) _ (by omega) ⟨i + 1, l ++ [d], by omega, by rw [hf2]; simp, by simp (maxSteps := 9999999) (dsimp := false) (disch := omega) only [go_sem, Int.natCast_add, Int.cast_ofNat_Int, dec_t', List.map_append, cellsPg, cellsDc] <;> rfl⟩
      | false =>
        simp (maxSteps := 9999999) (dsimp := false) (disch := omega) only [go_sem, dec_t', dec_f', hlt, hx, Tryz.a20r4, Tryz.a20r5, Tryz.a20r6, hid, wrap64, inB, cellsPg, cellsDc]
        refine hh _ _ ?_
        simp (maxSteps := 9999999) (dsimp := false) (disch := omega) only [go_sem, dec_t', dec_f', hlt, hx, Tryz.a20r4, Tryz.a20r5, Tryz.a20r6, wrap64, inB, cellsPg, cellsDc]
        exact hrec (m - 1) _ (by omega) ⟨i + 1, l, by omega, by rw [hf2]; simp [hid], by simp (maxSteps := 9999999) (dsimp := false) (disch := omega) only [go_sem, Int.natCast_add, Int.cast_ofNat_Int, dec_t', cellsPg, cellsDc] <;> rfl⟩
    · simp (maxSteps := 9999999) (dsimp := false) (disch := omega) only [go_sem, dec_t', dec_f', hlt, hx, Tryz.a20r4, Tryz.a20r5, Tryz.a20r6, hid, wrap64, inB, cellsPg, cellsDc, appLim]
      exact hrec (m - 1) _ (by omega) ⟨i + 1, l ++ [d], by omega, by rw [hf2]; simp [hid], by simp (maxSteps := 9999999) (dsimp := false) (disch := omega) only [go_sem, Int.natCast_add, Int.cast_ofNat_Int, dec_t', List.map_append, cellsPg, cellsDc] <;> rfl⟩
  · have e : i = p.defs.length := by omega
    subst e
    rw [List.take_length] at hf
    simp (maxSteps := 9999999) (dsimp := false) (disch := omega) only [go_sem, dec_f', Tryz.a20r8, Tryz.a20r9, cellsPg, cellsDc]
    have e : l = (closedP p id).defs := by rw [hf, closedP, hc]
    rw [e]
    exact .refl _

def mapOf (l : List Int) : List (Int × AVal) := l.map fun i => (i, .bool true)
def ins (l : List Int) (k : Int) : List Int := if k ∈ l then l else l ++ [k]
theorem updA_mapOf (k : Int) : ∀ l : List Int, updA k (.bool true) (mapOf l) = mapOf (ins l k)
  | [] => rfl
  | x :: l => by
    have ih := updA_mapOf k l
    simp only [mapOf, ins, List.map_cons, updA, List.mem_cons] at ih ⊢
    by_cases h : k = x
    · simp [h]
    · simp only [h, decide_false, cond_false, false_or, ih]
      split <;> simp
theorem findA_mapOf (k : Int) : ∀ l : List Int, findA k (mapOf l) = if l.contains k then some (.bool true) else none
  | [] => rfl
  | x :: l => by
    have ih := findA_mapOf k l
    simp only [mapOf, List.map_cons, findA] at ih ⊢
    by_cases h : k = x
    · simp [h]
    · simp only [h, decide_false, cond_false, ih, List.contains_cons]
      simp [h]
theorem look_mapOf (k : Int) (l : List Int) : lookV (.bool false) false (findA k (mapOf l)) = .bool (l.contains k) := by
  rw [findA_mapOf]
  cases l.contains k <;> rfl
theorem delA_mapOf (k : Int) : ∀ l : List Int, delA k (mapOf l) = mapOf (l.erase k)
  | [] => rfl
  | x :: l => by
    have ih := delA_mapOf k l
    simp only [mapOf, List.map_cons, delA] at ih ⊢
    by_cases h : k = x
    · simp [h]
    · simp only [h, decide_false, cond_false, ih]
      rw [List.erase_cons_tail (by simp; exact fun e => h e.symm)]
      simp

/-- Which definitions are open at first. -/
def open0 (p : Pg) : List Int := (p.defs.map D.id).foldl ins []
def readyB (op : List Int) (d : D) : Bool := op.contains d.id && !(callsD d).any fun c => op.contains c
def orderF : Nat → Pg → List Int → List Int
  | 0, _, _ => []
  | n + 1, p, op => match p.defs.find? (readyB op) with
    | none => []
    | some d => d.id :: orderF n p (op.erase d.id)
def orderD (p : Pg) : List Int := orderF (open0 p).length p (open0 p)

def Small (p : Pg) : Prop := p.defs.length < 1000 ∧ ∀ d ∈ p.defs, (flatL d.body).length < 100000 ∧ (callsT (flatL d.body)).length ≤ 12

theorem ins_len (l : List Int) (k : Int) : (ins l k).length ≤ l.length + 1 := by
  rw [ins]; split <;> simp
theorem foldl_ins_len : ∀ (l a : List Int), (l.foldl ins a).length ≤ a.length + l.length
  | [], a => Nat.le_refl _
  | x :: l, a => by
    have := foldl_ins_len l (ins a x)
    have := ins_len a x
    simp only [List.foldl_cons, List.length_cons]; omega
theorem open0_len (p : Pg) : (open0 p).length ≤ p.defs.length := by
  have := foldl_ins_len (p.defs.map D.id) []
  simpa [open0] using this

theorem find_idx {α : Type} (f : α → Bool) : ∀ (l : List α) (j : Nat), l.findIdx? f = some j → ∃ d, l[j]? = some d ∧ l.find? f = some d ∧ f d = true
  | [], j, h => by simp at h
  | x :: l, j, h => by
    rw [List.findIdx?_cons] at h
    cases hf : f x with
    | true => rw [hf] at h; simp at h; subst h; exact ⟨x, rfl, by rw [List.find?_cons_of_pos hf], hf⟩
    | false =>
      rw [hf] at h
      simp only [Bool.false_eq_true, if_false, Option.map_eq_some_iff] at h
      obtain ⟨k, hk, rfl⟩ := h
      obtain ⟨d, h1, h2, h3⟩ := find_idx f l k hk
      exact ⟨d, by simpa using h1, by rw [List.find?_cons_of_neg (by simp [hf])]; exact h2, h3⟩

def oHeap (p : Pg) (out op : List Int) : List AObj := [.rows 10 [encPg p], .tok 1 out.length, .map (mapOf op), .rows 1 [.map 2]]
theorem killM_mapOf (n : Nat) (l : List Int) : (mapOf l).map (fun p => (p.1, killA n p.2)) = mapOf l := by
  induction l with
  | nil => rfl
  | cons x l ih => simp only [mapOf, List.map_cons, kill_bool] at ih ⊢; rw [ih]
theorem oClean (p : Pg) (out op : List Int) : Clean (oHeap p out op) := by
  rw [Clean]; simp (maxSteps := 9999999) (dsimp := false) (disch := omega) only [go_sem, oHeap, dec_t', killM_mapOf]

theorem open_walk (p : Pg) (out op : List Int) (d : D) (c : Int) (K : AVal → List AObj → Prop) (hK : K (.bool (op.contains c)) (oHeap p out op ++ [.rows 12 [encD d]])) :
    Hs Tryz.prog Tryz.eqs (.func 49 [] [.hp 3 1 0 0]) [I c] (oHeap p out op ++ [.rows 12 [encD d]]) K := by
  refine Tryz.w49 0 ?_
  simp (maxSteps := 9999999) (dsimp := false) (disch := omega) only [go_sem, Tryz.c49, Tryz.a49r0, Tryz.a49r1, oHeap, look_mapOf, killM_mapOf]
  exact hK

theorem ready_walk (p : Pg) (out op : List Int) (d : D) (h1 : (flatL d.body).length < 100000) (h2 : (callsT (flatL d.body)).length ≤ 12) (K : AVal → List AObj → Prop) (hK : K (.bool (readyB op d)) (oHeap p out op)) :
    Hs Tryz.prog Tryz.eqs (.func 47 [] [.hp 3 1 0 0]) [encD d] (oHeap p out op) K := by
  refine Tryz.w47 0 ?_
  cases hc : op.contains d.id with
  | false =>
    simp (maxSteps := 9999999) (dsimp := false) (disch := omega) only [go_sem, Tryz.c47, Tryz.a47r0, Tryz.a47r1, oHeap, look_mapOf, cellsD, hc, killM_mapOf]
    simp only [readyB, hc, Bool.false_and] at hK
    exact hK
  | true =>
    simp (maxSteps := 9999999) (dsimp := false) (disch := omega) only [go_sem, Tryz.c47, Tryz.a47r0, Tryz.a47r1, oHeap, look_mapOf, cellsD, hc]
    refine calls_walk d h1 h2 _ _ ?_
    simp (maxSteps := 9999999) (dsimp := false) (disch := omega) only [go_sem]
    have hcl : (callsD d).length < 1000000 := by
      refine Nat.lt_of_le_of_lt (cmpct_length _) ?_
      rw [(sortI_perm _).length_eq]; omega
    have hclean : Clean (oHeap p out op ++ [.rows 12 [encD d]]) := by rw [Clean]; simp (maxSteps := 9999999) (dsimp := false) (disch := omega) only [go_sem, oHeap, dec_t', killM_mapOf]
    refine contains48 (callsD d) hcl (.func 49 [] [.hp 3 1 0 0]) (oHeap p out op ++ [.rows 12 [encD d]]) (fun k h => k = ((callsD d).findIdx? fun c => op.contains c).map (· + 0) ∧ h = oHeap p out op ++ [.rows 12 [encD d]]) _ rfl hclean
      (scan_pure _ I (fun c => op.contains c) _ hclean _ _ 0 (fun c _ K' hK' => open_walk p out op d c K' hK') ⟨rfl, rfl⟩) ?_
    rintro k h' e1 e2 ⟨rfl, rfl⟩
    have hany : (((callsD d).findIdx? fun c => op.contains c).map (· + 0)).isSome = (callsD d).any fun c => op.contains c := by
      simp only [Option.isSome_map, List.findIdx?_isSome]
    rw [hany]
    simp only [readyB, hc, Bool.true_and] at hK
    simp (maxSteps := 9999999) (dsimp := false) (disch := omega) only [go_sem, oHeap, killM_mapOf]
    exact hK

theorem order_walk (p : Pg) (hp : Small p) : F 21 [encPg p] (Ints (orderD p)) := by
  obtain ⟨hp1, hp2⟩ := hp
  refine Fun.of_empty rfl (by simp (maxSteps := 9999999) (dsimp := false) (disch := omega) only [go_sem]) ?_
  obtain ⟨N, hN⟩ : ∃ N, N = 2000 := ⟨_, rfl⟩
  refine Tryz.w21 N ?_
  simp (maxSteps := 9999999) (dsimp := false) (disch := omega) only [go_sem, Tryz.c21, Tryz.a21r0, Tryz.a21r1, Tryz.a21r2, Tryz.a21r3, cellsPg, cellsDc]
  refine loop_rule (fun m st => ∃ i : Nat, i + m = p.defs.length ∧
    st = ⟨tm 45 [(1, .hp 0 10 0 0), (3, .fs 1 [] (some 1)), (4, .hp 3 1 0 0), (11, .fs 12 (p.defs.map encD) none), (12, I p.defs.length), (13, I i)], oHeap p [] (((p.defs.take i).map D.id).foldl ins [])⟩) ?_ (m := p.defs.length) (by omega)
    ⟨0, by omega, by simp (maxSteps := 9999999) (dsimp := false) (disch := omega) only [go_sem, Int.ofNat_zero, dec_t', cellsPg, cellsDc, oHeap] <;> rfl⟩
  rintro m st rec ⟨i, hi, he⟩ hrec
  rw [he]
  simp (maxSteps := 9999999) (dsimp := false) (disch := omega) only [go_sem, Tryz.a21l8, Tryz.a21r4]
  by_cases hlt : i < p.defs.length
  · have hx : p.defs[i]? = some p.defs[i] := List.getElem?_eq_getElem hlt
    have hf : ((p.defs.take (i + 1)).map D.id).foldl ins [] = ins (((p.defs.take i).map D.id).foldl ins []) p.defs[i].id := by
      rw [List.take_succ_eq_append_getElem hlt, List.map_append, List.foldl_append]; rfl
    generalize p.defs[i] = d at hx hf
    generalize ((p.defs.take i).map D.id).foldl ins [] = op at hf
    simp (maxSteps := 9999999) (dsimp := false) (disch := omega) only [go_sem, Tryz.a21r5, Tryz.a21r6, Tryz.a21r7, dec_t', hlt, hx, wrap64, oHeap, cellsD, inB, updA_mapOf]
    exact hrec (m - 1) _ (by omega) ⟨i + 1, by omega, by simp (maxSteps := 9999999) (dsimp := false) (disch := omega) only [go_sem, Int.natCast_add, Int.cast_ofNat_Int, dec_t', hf, oHeap, killM_mapOf] <;> rfl⟩
  · have e : i = p.defs.length := by omega
    subst e
    have hol := open0_len p
    rw [List.take_length, show (p.defs.map D.id).foldl ins [] = open0 p from rfl, orderD]
    generalize open0 p = op0 at hol
    simp (maxSteps := 9999999) (dsimp := false) (disch := omega) only [go_sem, Tryz.a21r9, dec_f', oHeap]
    refine loop_rule (fun m st => ∃ out op : List Int, m = op.length ∧ orderF op0.length p op0 = out ++ orderF op.length p op ∧ out.length + op.length ≤ 1000 ∧
      st = ⟨tm 45 [(1, .hp 0 10 0 0), (3, .fs 1 (out.map I) (some 1)), (4, .hp 3 1 0 0), (7, .func 47 [] [.hp 3 1 0 0])], oHeap p out op⟩) ?_ (m := op0.length) (by omega)
      ⟨[], op0, rfl, rfl, by simp; omega, by simp (maxSteps := 9999999) (dsimp := false) (disch := omega) only [go_sem, dec_t', oHeap, killM_mapOf] <;> rfl⟩
    rintro m st rec ⟨out, op, hm, ho, hl, he⟩ hrec
    rw [he]
    simp (maxSteps := 9999999) (dsimp := false) (disch := omega) only [go_sem, Tryz.a21l15, Tryz.a21r10, cellsPg, cellsDc, oHeap]
    refine index50 p.defs (by omega) (.func 47 [] [.hp 3 1 0 0]) (oHeap p out op) (fun k h => k = (p.defs.findIdx? (readyB op)).map (· + 0) ∧ h = oHeap p out op) _ rfl (oClean p out op)
      (scan_pure _ encD (readyB op) _ (oClean p out op) _ _ 0 (fun d hd K' hK' => ready_walk p out op d (hp2 d hd).1 (hp2 d hd).2 K' hK') ⟨rfl, rfl⟩) ?_
    rintro k h' e1 e2 hk2 ⟨hk, rfl⟩
    rcases hk2 with rfl | ⟨j, rfl, hj⟩
    · have hnone : p.defs.find? (readyB op) = none := by
        have hk' := hk.symm
        simp only [Option.map_eq_none_iff, List.findIdx?_eq_none_iff] at hk'
        exact List.find?_eq_none.2 (by simpa using hk')
      have : orderF op.length p op = [] := by
        cases op with
        | nil => rfl
        | cons x op => rw [List.length_cons, orderF, hnone]
      rw [this, List.append_nil] at ho
      simp (maxSteps := 9999999) (dsimp := false) (disch := omega) only [go_sem, idx, Tryz.a21r11, Tryz.a21r12, dec_t', oHeap]
      rw [ho]
      exact .refl _
    · have hk' := hk.symm
      simp only [Nat.add_zero, Option.map_id'] at hk'
      obtain ⟨d, hd1, hd2, hd3⟩ := find_idx _ _ _ hk'
      have hop : d.id ∈ op := by simp only [readyB, Bool.and_eq_true, List.contains_iff_mem] at hd3; exact hd3.1
      have hel := List.length_erase_of_mem hop
      have hpos : 0 < op.length := List.length_pos_of_mem hop
      have ho2 : orderF op.length p op = d.id :: orderF (op.erase d.id).length p (op.erase d.id) := by
        rw [show op.length = (op.erase d.id).length + 1 by omega, orderF, hd2]
      rw [ho2] at ho
      simp (maxSteps := 9999999) (dsimp := false) (disch := omega) only [go_sem, idx, Tryz.a21r11, Tryz.a21r13, Tryz.a21r14, dec_t', dec_f', oHeap, cellsPg, cellsDc, inB, hd1, hj, cellsD, appLim, delA_mapOf]
      refine hrec (op.erase d.id).length _ (by omega) ⟨out ++ [d.id], op.erase d.id, rfl, by rw [ho]; simp, by simp; omega, by simp (maxSteps := 9999999) (dsimp := false) (disch := omega) only [go_sem, dec_t', oHeap, killM_mapOf, List.map_append, List.length_append] <;> rfl⟩
end Go.Par
