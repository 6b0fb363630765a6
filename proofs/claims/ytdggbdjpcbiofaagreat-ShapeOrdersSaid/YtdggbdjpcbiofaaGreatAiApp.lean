/- append: in place, and into a new block. -/
import Derived.Test.YtdggbdjpcbiofaaGreatAiNew
namespace Go.Ai

theorem Elems.vals : ∀ {xs : List AVal} {E : Env} {esz r off : Nat}, Elems xs E esz r off → ∃ us, VRels xs E us ∧ Sized esz us ∧ ∀ j v, (flatC us)[j]? = some v → E.fz r (off + j) = some v
  | [], _, _, _, _, _ => ⟨[], by simp [VRels], fun u hu => by simp at hu, fun j v h => by simp [flatC] at h⟩
  | x :: xs, E, esz, r, off, h => by
    simp only [Elems] at h
    obtain ⟨⟨u, h1, h2, h3, h4⟩, h5⟩ := h
    obtain ⟨us, k1, k2, k3⟩ := Elems.vals h5
    refine ⟨u :: us, by simp only [VRels]; exact ⟨u, us, rfl, h1, k1⟩, ?_, fun j v hj => ?_⟩
    · intro y hy
      rcases List.mem_cons.1 hy with e | e
      · subst e; exact ⟨h2, h3⟩
      · exact k2 y e
    · simp only [flatC, List.flatMap_cons] at hj
      by_cases hl : j < u.cells.toList.length
      · rw [List.getElem?_append_left hl] at hj
        exact h4 j v (by simpa using hj)
      · rw [List.getElem?_append_right (by omega)] at hj
        have := k3 (j - u.cells.toList.length) v hj
        rw [show off + j = off + esz + (j - u.cells.toList.length) by simp at hl ⊢; omega]; exact this

theorem RowsRel.vals : ∀ {xs : List AVal} {E : Env} {esz : Nat} {cs : List Value}, RowsRel E esz xs cs → ∃ us rest, VRels xs E us ∧ Sized esz us ∧ cs = flatC us ++ rest
  | [], _, _, cs, _ => ⟨[], cs, by simp [VRels], fun u hu => by simp at hu, by simp [flatC]⟩
  | x :: xs, E, esz, cs, ⟨u, rest, h1, h2, h3, h4, h5⟩ => by
    obtain ⟨us, rest', k1, k2, k3⟩ := RowsRel.vals h5
    refine ⟨u :: us, rest', by simp only [VRels]; exact ⟨u, us, rfl, h1, k1⟩, ?_, by rw [h4, k3]; simp [flatC]⟩
    intro y hy
    rcases List.mem_cons.1 hy with e | e
    · subst e; exact ⟨h2, h3⟩
    · exact k2 y e

theorem Sized.drop {esz : Nat} {us : List Value} (h : Sized esz us) (n : Nat) : Sized esz (us.drop n) := fun u hu => h u (List.mem_of_mem_drop hu)
theorem Sized.take {esz : Nat} {us : List Value} (h : Sized esz us) (n : Nat) : Sized esz (us.take n) := fun u hu => h u (List.mem_of_mem_take hu)
theorem Sized.append {esz : Nat} {us vs : List Value} (h : Sized esz us) (k : Sized esz vs) : Sized esz (us ++ vs) := fun u hu => (List.mem_append.1 hu).elim (h u) (k u)

theorem flatC_append (us vs : List Value) : flatC (us ++ vs) = flatC us ++ flatC vs := by simp [flatC]

theorem flatC_drop_get {esz : Nat} : ∀ {us : List Value} (_ : Sized esz us) (i j : Nat), (flatC (us.drop i))[j]? = (flatC us)[i * esz + j]?
  | us, _, 0, j => by simp
  | [], _, i + 1, j => by simp [flatC]
  | u :: us, h, i + 1, j => by
    have hu := (h u (by simp)).1
    have := flatC_drop_get (us := us) (fun x hx => h x (by simp [hx])) i j
    simp only [List.drop_succ_cons, this]
    simp only [flatC, List.flatMap_cons]
    rw [List.getElem?_append_right (by simp [hu, Nat.succ_mul]; omega)]
    congr 1
    simp [hu, Nat.succ_mul]; omega

theorem flatC_take_get {us : List Value} (n j : Nat) {v : Value} (hj : (flatC (us.take n))[j]? = some v) : (flatC us)[j]? = some v := by
  have : flatC us = flatC (us.take n) ++ flatC (us.drop n) := by rw [← flatC_append, List.take_append_drop]
  rw [this, List.getElem?_append_left (List.getElem?_eq_some_iff.1 hj).1]
  exact hj

section
variable {α : Type} {good : α → Prop} {fail : α} (hf : ¬ good fail) {P : Program} {w : World} {CR : Code → ACode → Prop} {E : Env} {heap : List AObj}
include hf

/-- What append reads of its source. -/
theorem elems_good {esz : Nat} {s : AVal} {K : List AVal → α} (h : good (elemsA fail esz s heap K)) {u : Value} (hs : VRel s E u) (H : HRel CR E heap w) :
    ∃ ys us a cap, good (K ys) ∧ VRels ys E.bare us ∧ Sized esz us ∧ us.length = ys.length ∧ u = .slice a ys.length cap ∧ ∀ W : World, W.heap = w.heap → (Builtin.firstCells esz ys.length u).run P W = .ok (flatC us).toArray W := by
  have load (W : World) (us : List Value) (hz : Sized esz us) (r off : Nat) (hc : ∀ j v, (flatC us)[j]? = some v → W.cell? ⟨r, off + j, none⟩ = some v) : (loadCells ⟨r, off, none⟩ (us.length * esz)).run P W = .ok (flatC us).toArray W := by
    rw [← flatC_length hz]
    exact run_loadCells_list W ⟨r, off, none⟩ (flatC us) (fun j v hj => by rw [addr_add]; exact hc j v hj)
  have hcw : ∀ (W : World) (a : Addr), W.heap = w.heap → W.cell? a = w.cell? a := fun W a hW => by simp only [World.cell?, hW]
  unfold elemsA at h
  split at h
  · rename_i e xs tok
    obtain ⟨h1, h2⟩ := need_good hf h
    have e1 : e = esz := by simpa using h1
    subst e1
    simp only [VRel] at hs
    obtain ⟨a, cap, rfl, _, k1, _⟩ := hs
    cases xs with
    | nil =>
      refine ⟨[], [], a, cap, h2, by simp [VRels], fun u hu => by simp at hu, rfl, rfl, fun W _ => ?_⟩
      cases a <;> simp [Builtin.firstCells, loadCells, loadCellsFrom, flatC]
    | cons x xs =>
      obtain ⟨r, off, rfl, k2⟩ := k1 (by simp)
      obtain ⟨us, l1, l2, l3⟩ := k2.vals
      have hl := l1.length
      refine ⟨_, us, _, cap, h2, l1, l2, hl, rfl, fun W hW => ?_⟩
      simp only [Builtin.firstCells]
      rw [← hl]
      exact load W us l2 r off (fun j v hj => by rw [hcw W _ hW]; exact H.fz _ _ _ (l3 j v hj))
  · simp only [VRel] at hs; subst hs
    exact ⟨[], [], _, _, h, by simp [VRels], fun u hu => by simp at hu, rfl, rfl, fun W _ => by simp [Builtin.firstCells, flatC]⟩
  · simp only [VRel] at hs; obtain ⟨a, rfl⟩ := hs
    exact ⟨[], [], _, _, h, by simp [VRels], fun u hu => by simp at hu, rfl, rfl, fun W _ => by simp [Builtin.firstCells, loadCells, loadCellsFrom, flatC]⟩
  · rename_i b e0 i len
    split at h
    · rename_i e es hb
      obtain ⟨h1, h2⟩ := need_good hf h
      simp only [Bool.and_eq_true, beq_iff_eq] at h1
      obtain ⟨⟨e1, e2⟩, hle⟩ := h1
      subst e1; subst e2
      have hle : i + len ≤ es.length := by simpa using hle
      obtain ⟨r, c, t, k1, k2, k3⟩ := H.obj b _ hb
      obtain ⟨us, rest, l1, l2, l3⟩ := k3.vals
      have hl := l1.length
      simp only [VRel] at hs
      obtain ⟨r', a, cap, m1, rfl, _, m2⟩ := hs
      rw [k1] at m1; cases m1
      have hz : Sized e ((us.drop i).take len) := (l2.drop i).take len
      have hlen : ((us.drop i).take len).length = len := by simp; omega
      have hv : VRels (killL 0 ((es.drop i).take len)) E.bare ((us.drop i).take len) := by
        rw [← Env.cut_zero]; exact ((l1.drop i).take len).kill 0
      have hkl : (killL 0 ((es.drop i).take len)).length = len := by have := hv.length; omega
      refine ⟨_, _, some a, cap, h2, hv, hz, by rw [hlen, hkl], by rw [hkl], fun W hW => ?_⟩
      rw [hkl]
      by_cases h0 : 0 < len
      · rw [m2 h0]
        simp only [Builtin.firstCells]
        have := load W _ hz r (i * e) (fun j v hj => by
          rw [hcw W _ hW, cell_of_heap k2]
          have h1 := flatC_take_get len j hj
          rw [flatC_drop_get l2] at h1
          have : c.toList[i * e + j]? = some v := by rw [l3, List.getElem?_append_left (List.getElem?_eq_some_iff.1 h1).1]; exact h1
          simpa using this)
        rw [hlen] at this
        exact this
      · have : len = 0 := by omega
        subst this
        simp [Builtin.firstCells, loadCells, loadCellsFrom, flatC]
    · exact absurd h hf
  · exact absurd h hf
end

/-! ### The model's append -/

structure AppTy (P : Program) (sT xT : TypeId) (esz : Nat) : Prop where
  ex : ∃ elem i z, P.underlying sT = some (.slice elem) ∧ P.info? elem = some i ∧ i.size = esz ∧ i.bytes ≤ 1048576 ∧ i.zero = some z ∧ z.cells.size = esz
  xs : ∃ e, P.underlying xT = some (.slice e)
  pos : 0 < esz

theorem zeroCells_length (z : Array Value) (n : Nat) : (Builtin.zeroCells z n).size = n * z.size := by simp [Builtin.zeroCells]

theorem nsc_le (n c : Nat) (h : n ≤ 1048576) (hc : c < n) : Builtin.nextslicecap n c ≤ 8388608 := by
  unfold Builtin.nextslicecap
  split
  · omega
  · split
    · omega
    · simp only [Builtin.growBy]
      repeat' split
      all_goals omega

/-- Into a new block. -/
theorem run_append_new {P : Program} {w : World} {sT xT ty : TypeId} {esz : Nat} (T : AppTy P sT xT esz) {base : Option Addr} {sLen cap : Nat} {s : Value} {n : Nat} {xa : Option Addr} {xc : Nat} (hs : s = .slice xa n xc)
    {old new : List Value} (ho : (Builtin.firstCells esz sLen (.slice base sLen cap)).run P w.drew = .ok old.toArray w.drew) (hn : (Builtin.firstCells esz n s).run P w.drew = .ok new.toArray w.drew)
    (hlo : old.length = sLen * esz) (hln : new.length = n * esz) (hc : cap < sLen + n) (hl : sLen + n ≤ 1048576) :
    ∃ (newCap : Nat) (c : Array Value) (elem : TypeId), sLen + n ≤ newCap ∧ c.size = newCap * esz ∧ (∃ rest, c.toList = old ++ new ++ rest) ∧
      (Builtin.append_ #[sT, xT] ty #[.slice base sLen cap, s]).run P w = .ok (.slice (some ⟨w.heap.size, 0, none⟩) (sLen + n) newCap) (w.drew.alloc (.cells c elem)) := by
  obtain ⟨elem, i, z, h1, h2, h3, h4, h5, h6⟩ := T.ex
  obtain ⟨e, h7⟩ := T.xs
  subst hs
  let q := Question.appendCap (sLen + n) cap elem
  let newCap := q.cut (w.tape w.drawn q)
  have hcap : sLen + n ≤ newCap := by show sLen + n ≤ (sLen + n) + _; omega
  have hz : (Builtin.zeroCells z.cells (newCap - (sLen + n))).toList.length = (newCap - (sLen + n)) * esz := by simp [zeroCells_length, h6]
  refine ⟨newCap, old.toArray ++ new.toArray ++ Builtin.zeroCells z.cells (newCap - (sLen + n)), elem, hcap, ?_, ⟨(Builtin.zeroCells z.cells (newCap - (sLen + n))).toList, by simp⟩, ?_⟩
  · have : newCap * esz = sLen * esz + n * esz + (newCap - (sLen + n)) * esz := by rw [← Nat.add_mul, ← Nat.add_mul]; congr 1; omega
    simp [zeroCells_length, h6, hlo, hln]; omega
  · have hb : ¬ (Builtin.nextslicecap (sLen + n) cap * i.bytes > 2 ^ 48) := by
      have h8 := nsc_le (sLen + n) cap hl hc
      have h9 : Builtin.nextslicecap (sLen + n) cap * i.bytes ≤ 8388608 * 1048576 := Nat.mul_le_mul h8 h4
      omega
    have hgt : ¬ (sLen + n ≤ cap) := by omega
    have hm : ¬ ((↑(sLen + n) : Int) > IntKind.i64.max ∧ (False ∨ i.bytes = 0)) := by
      rintro ⟨h, _⟩; simp at h; omega
    have hti : ∀ W : World, (typeInfo elem).run P W = .ok i W := fun W => by simp [typeInfo, h2]
    have hsz : ∀ W : World, (sizeOf elem).run P W = .ok esz W := fun W => by simp [sizeOf, hti, h3]
    have hzv : ∀ W : World, (zeroValue elem).run P W = .ok z W := fun W => by simp [zeroValue, hti, h5]
    have hu1 : ∀ W : World, (underlying sT).run P W = .ok (.slice elem) W := fun W => run_underlying' h1
    have hu2 : ∀ W : World, (underlying xT).run P W = .ok (.slice e) W := fun W => run_underlying' h7
    have hch : ∀ W : World, W = w → (choose q).run P W = .ok newCap W.drew := by rintro W rfl; rfl
    simp only [Builtin.append_]
    simp only [List.getElem?_toArray, List.getElem?_cons_zero, List.getElem?_cons_succ, Sem.run_bind, hu1, Result.andThen_ok, hsz, hu2, Sem.run_pure, Builtin.lenOf, Bool.false_eq_true, if_false, Bool.not_false, if_true, hgt, Sem.run_ite, hti]
    rw [if_neg hm, if_neg hb, show choose (Question.appendCap (sLen + n) cap elem) = choose q from rfl, hch w rfl]
    simp only [Result.andThen_ok, run_askRoom, ho, hn, hzv, newRow, Sem.run_bind, run_newObj, Sem.run_pure]
    rfl


/-- In place. -/
theorem run_append_in {P : Program} {w : World} {sT xT ty : TypeId} {esz : Nat} (T : AppTy P sT xT esz) {r off sLen cap : Nat} {s : Value} {n : Nat} {xa : Option Addr} {xc : Nat} (hs : s = .slice xa n xc)
    {new : List Value} (hn : (Builtin.firstCells esz n s).run P w = .ok new.toArray w) (hc : sLen + n ≤ cap) :
    (Builtin.append_ #[sT, xT] ty #[.slice (some ⟨r, off, none⟩) sLen cap, s]).run P w =
      ((storeCells ⟨r, off + sLen * esz, none⟩ new 0).run P w).andThen fun _ w' => .ok (.slice (some ⟨r, off, none⟩) (sLen + n) cap) w' := by
  obtain ⟨elem, i, z, h1, h2, h3, h4, h5, h6⟩ := T.ex
  obtain ⟨e, h7⟩ := T.xs
  subst hs
  have hti : ∀ W : World, (typeInfo elem).run P W = .ok i W := fun W => by simp [typeInfo, h2]
  have hsz : ∀ W : World, (sizeOf elem).run P W = .ok esz W := fun W => by simp [sizeOf, hti, h3]
  have hu1 : ∀ W : World, (underlying sT).run P W = .ok (.slice elem) W := fun W => run_underlying' h1
  have hu2 : ∀ W : World, (underlying xT).run P W = .ok (.slice e) W := fun W => run_underlying' h7
  simp only [Builtin.append_]
  simp only [List.getElem?_toArray, List.getElem?_cons_zero, List.getElem?_cons_succ, Sem.run_bind, hu1, Result.andThen_ok, hsz, hu2, Sem.run_pure, Builtin.lenOf, Bool.false_eq_true, if_false, Bool.not_false, if_true, hc, Sem.run_ite, hn, addr_add]

/-- Nothing is appended. -/
theorem run_append_nil {P : Program} {w : World} {sT xT ty : TypeId} {esz : Nat} (T : AppTy P sT xT esz) {base : Option Addr} {sLen cap : Nat} {s : Value} {xa : Option Addr} {xc : Nat} (hs : s = .slice xa 0 xc)
    (hn : (Builtin.firstCells esz 0 s).run P w = .ok #[] w) (hc : sLen ≤ cap) :
    (Builtin.append_ #[sT, xT] ty #[.slice base sLen cap, s]).run P w = .ok (.slice base sLen cap) w := by
  obtain ⟨elem, i, z, h1, h2, h3, h4, h5, h6⟩ := T.ex
  obtain ⟨e, h7⟩ := T.xs
  subst hs
  have hti : ∀ W : World, (typeInfo elem).run P W = .ok i W := fun W => by simp [typeInfo, h2]
  have hsz : ∀ W : World, (sizeOf elem).run P W = .ok esz W := fun W => by simp [sizeOf, hti, h3]
  have hu1 : ∀ W : World, (underlying sT).run P W = .ok (.slice elem) W := fun W => run_underlying' h1
  have hu2 : ∀ W : World, (underlying xT).run P W = .ok (.slice e) W := fun W => run_underlying' h7
  simp only [Builtin.append_]
  simp only [List.getElem?_toArray, List.getElem?_cons_zero, List.getElem?_cons_succ, Sem.run_bind, hu1, Result.andThen_ok, hsz, hu2, Sem.run_pure, Builtin.lenOf, Bool.false_eq_true, if_false, Bool.not_false, if_true, Nat.add_zero, hc, Sem.run_ite, hn]
  cases base <;> simp [storeCells]


theorem HRel.drew {CR : Code → ACode → Prop} {E : Env} {h : List AObj} {w : World} (H : HRel CR E h w) : HRel CR E h w.drew :=
  ⟨H.obj, H.inj, H.fz, H.sep, H.dom, H.domt⟩

theorem Step.of_drew {E E' : Env} {h h' : List AObj} {w w' : World} (s : Step E h w.drew E' h' w') : Step E h w E' h' w' :=
  ⟨s.le, s.size, s.keep, s.own, s.fzn, s.out⟩

def Env.tokAt (E : Env) (b k : Nat) (x : Nat × Nat) (f : Nat → Nat → Option Value) : Env :=
  ⟨E.ρ, fun b' k' => if b' = b ∧ k' = k then some x else E.τ b' k', f⟩

theorem frz_le {CR : Code → ACode → Prop} {E : Env} {h : List AObj} {w : World} (H : HRel CR E h w) (c : List Value) (n : Nat) : ∀ r o v, E.fz r o = some v → frz E w.heap.size c n r o = some v := by
  intro r o v hv
  have := H.fz_lt hv
  simp only [frz]; rw [if_neg (by omega)]; exact hv

theorem elems_new {ys : List AVal} {us : List Value} {E E' : Env} {esz r : Nat} {rest : List Value} {c : List Value} (hv : VRels ys E us) (hle : E.le E') (hz : Sized esz us)
    (hc : c = flatC us ++ rest) (hfz : ∀ o, o < us.length * esz → E'.fz r o = c[o]?) : Elems ys E' esz r 0 := by
  refine elems_of (hv.mono _ hle) hz fun j v hj => ?_
  have hl := (List.getElem?_eq_some_iff.1 hj).1
  rw [Nat.zero_add, hfz j (by rw [← flatC_length hz]; exact hl), hc, List.getElem?_append_left hl]
  exact hj

section
variable {α : Type} {good : α → Prop} {fail : α} (hf : ¬ good fail) {P : Program} {w : World} {CR : Code → ACode → Prop} {E : Env} {heap : List AObj}
include hf

omit hf in
theorem append_fresh {esz : Nat} {sT xT ty : TypeId} (T : AppTy P sT xT esz) {ys : List AVal} {us : List Value} {base xa : Option Addr} {xc : Nat} (hz : Sized esz us) (hlen : us.length = ys.length)
    (hn : ∀ W : World, W.heap = w.heap → (Builtin.firstCells esz ys.length (.slice xa ys.length xc)).run P W = .ok (flatC us).toArray W) (hlim : ys.length ≤ 1048576) (h1 : 1 ≤ ys.length) :
    ∃ newCap c elem rest, c.toList = flatC us ++ rest ∧ ys.length ≤ newCap ∧ c.size = newCap * esz ∧
      (Builtin.append_ #[sT, xT] ty #[.slice base 0 0, .slice xa ys.length xc]).run P w = .ok (.slice (some ⟨w.heap.size, 0, none⟩) ys.length newCap) (w.drew.alloc (.cells c elem)) := by
  have ho : (Builtin.firstCells esz 0 (.slice base 0 0)).run P w.drew = .ok ([] : List Value).toArray w.drew := by
    cases base <;> simp [Builtin.firstCells, loadCells, loadCellsFrom]
  obtain ⟨newCap, c, elem, k1, k2, ⟨rest, k3⟩, k4⟩ := run_append_new T (ty := ty) (sLen := 0) (cap := 0) (n := ys.length) rfl ho (hn w.drew rfl) (by simp) (by rw [flatC_length hz, hlen]) (by omega) (by omega)
  exact ⟨newCap, c, elem, rest, by simpa using k3, by omega, k2, by simpa using k4⟩

theorem append_good {own : Bool} {esz : Nat} {sT xT ty : TypeId} (T : AppTy P sT xT esz) {d : AVal} {ys : List AVal} {K : AVal → List AObj → α} (h : good (appendA fail own esz d ys heap K)) {ud : Value} {us : List Value} {xa : Option Addr} {xc : Nat}
    (hd : VRel d E ud) (H : HRel CR E heap w) (hv : VRels ys E.bare us) (hz : Sized esz us) (hlen : us.length = ys.length)
    (hn : ∀ W : World, W.heap = w.heap → (Builtin.firstCells esz ys.length (.slice xa ys.length xc)).run P W = .ok (flatC us).toArray W) :
    ∃ v u h' E' w', good (K v h') ∧ (Builtin.append_ #[sT, xT] ty #[ud, .slice xa ys.length xc]).run P w = .ok u w' ∧ VRel v E' u ∧ HRel CR E' h' w' ∧ Step E heap w E' h' w' := by
  have h0 := T.pos
  have nil_us : ys.length = 0 → us = [] := fun e => List.eq_nil_of_length_eq_zero (by omega)
  -- a new block under a fresh token, or rows of its own
  have fresh : ∀ {base : Option Addr}, ud = .slice base 0 0 → VRel d E ud → good (cond (Nat.ble ys.length appLim) (cond own
      (cond (Nat.ble 1 ys.length) (K (.hs heap.length esz 0 ys.length) (heap ++ [.rows esz ys])) (K d heap))
      (K (.fs esz ys (some heap.length)) (heap ++ [.tok esz ys.length]))) fail) →
      ∃ v u h' E' w', good (K v h') ∧ (Builtin.append_ #[sT, xT] ty #[ud, .slice xa ys.length xc]).run P w = .ok u w' ∧ VRel v E' u ∧ HRel CR E' h' w' ∧ Step E heap w E' h' w' := by
    intro base hb hd hg
    subst hb
    obtain ⟨hl, hg⟩ := need_good hf hg
    have hl : ys.length ≤ 1048576 := by simpa [appLim] using hl
    by_cases hn0 : ys.length = 0
    · have hnil : (Builtin.append_ #[sT, xT] ty #[.slice base 0 0, .slice xa ys.length xc]).run P w = .ok (.slice base 0 0) w := by
        rw [hn0]
        exact run_append_nil T rfl (by have := hn w rfl; rw [hn0, nil_us hn0] at this; simpa [flatC] using this) (Nat.le_refl _)
      cases own with
      | true =>
        simp only [cond, hn0] at hg
        exact ⟨d, _, heap, E, w, hg, hnil, hd, H, .refl _ _ _⟩
      | false =>
        simp only [cond] at hg
        obtain ⟨H', S⟩ := push_tok0 H (esz := esz) h0
        have hys : ys = [] := List.eq_nil_of_length_eq_zero hn0
        subst hys
        refine ⟨_, _, _, _, w, hg, hnil, ?_, H', S⟩
        simp only [VRel]
        exact ⟨base, 0, rfl, Nat.le_refl _, fun h => absurd rfl h, fun b _ => ⟨fun _ => rfl, fun h => absurd rfl h⟩⟩
    · obtain ⟨newCap, c, elem, rest, k1, k2, k3, k4⟩ := append_fresh (P := P) (w := w) T (ty := ty) (base := base) hz hlen hn hl (by omega)
      have hle := frz_le H c.toList (ys.length * esz)
      cases own with
      | true =>
        have e1 : Nat.ble 1 ys.length = true := by simp; omega
        simp only [cond, e1] at hg
        obtain ⟨H', S⟩ := push_rows H.drew (esz := esz) (es := ys) (c := c) (t := elem) (by rw [k1]; exact rows_of rest (hv.mono _ E.bare_le) hz)
        refine ⟨_, _, _, _, _, hg, k4, ?_, H', S.of_drew⟩
        simp only [VRel]
        exact ⟨w.heap.size, _, newCap, by simp [Env.add], rfl, k2, fun _ => by simp⟩
      | false =>
        simp only [cond] at hg
        have hle' := H.add_le (r := none) (t := fun k => if k = ys.length then some (w.heap.size, newCap) else none) hle
        obtain ⟨H', S⟩ := H.drew.push (o := .tok esz ys.length) (r := none) (t := fun k => if k = ys.length then some (w.heap.size, newCap) else none) (f := frz E w.heap.size c.toList (ys.length * esz)) (w' := w.drew.alloc (.cells c elem))
          (by simp) (alloc_old w.drew _) hle (fun r o hr => by simp only [frz]; rw [if_neg (by simp at hr; omega)])
          (fun r o v hr hv' => by
            simp only [frz] at hv'
            split at hv'
            · rename_i e
              split at hv'
              · rw [e]; show (w.drew.alloc (.cells c elem)).cell? ⟨w.drew.heap.size, o, none⟩ = some v
                rw [World.cell?_alloc_new]; simpa using hv'
              · cases hv'
            · have := H.fz_lt hv'; simp at hr; omega)
          (fun r' hr' => by
            simp only [realOf, Env.add, if_true, hn0, if_false, Option.map_some] at hr'
            cases hr'
            exact ⟨Nat.le_refl _, fun h => absurd rfl (h esz ys.length)⟩)
          ⟨h0, fun _ => ⟨w.heap.size, newCap, c, elem, by simp [Env.add], alloc_new w.drew _, by omega, k2, fun o ho => by simp only [Env.add, frz, if_true]; rw [if_neg (by omega)]⟩⟩
          (fun n x hx => by
            split at hx
            · rename_i e; show n ≤ ys.length; omega
            · cases hx)
        refine ⟨_, _, _, _, _, hg, k4, ?_, H', S.of_drew⟩
        have hel : Elems ys (E.add heap.length none (fun k => if k = ys.length then some (w.heap.size, newCap) else none) (frz E w.heap.size c.toList (ys.length * esz))).bare esz w.heap.size 0 :=
          elems_new hv hle'.bare hz k1 (fun o ho => by simp only [Env.bare, Env.add, frz, if_true]; rw [if_pos (by rw [← hlen]; exact ho)])
        simp only [VRel]
        refine ⟨_, newCap, rfl, k2, fun _ => ⟨_, _, rfl, hel⟩, fun b hb => ⟨fun h => by rw [h] at hn0; exact absurd rfl hn0, fun _ => ⟨w.heap.size, ?_, rfl⟩⟩⟩
        cases hb
        simp [Env.add]
  unfold appendA at h
  dsimp only at h
  split at h
  · have hd' := hd
    simp only [VRel] at hd
    exact fresh hd hd' h
  · have hd' := hd
    simp only [VRel] at hd
    obtain ⟨a, hd⟩ := hd
    exact fresh hd hd' h
  · rename_i e xs b
    obtain ⟨g1, g⟩ := need_good hf h
    clear h
    have e1 : e = esz := by simpa using g1
    subst e1
    split at g
    · rename_i esz' used hb
      obtain ⟨g2, g3⟩ := need_good hf g
      clear g
      simp only [Bool.and_eq_true, beq_iff_eq] at g2
      obtain ⟨⟨e1, e2⟩, hlim⟩ := g2
      subst e1; subst e2
      have hlim : xs.length + ys.length ≤ 1048576 := by simpa [appLim] using hlim
      obtain ⟨_, htok⟩ := H.obj b _ hb
      simp only [VRel] at hd
      obtain ⟨a, cap, rfl, hcap0, hd1, hd2⟩ := hd
      obtain ⟨hd2, hd3⟩ := hd2 b rfl
      by_cases hn0 : ys.length = 0
      · have hys : ys = [] := List.eq_nil_of_length_eq_zero hn0
        have hcap : xs.length ≤ cap := hcap0
        have hset : heap.set b (.tok esz' (xs.length + ys.length)) = heap := by
          rw [hn0, Nat.add_zero]
          refine List.ext_getElem? fun k => ?_
          by_cases e : k = b
          · subst e; rw [List.getElem?_set_self (List.getElem?_eq_some_iff.1 hb).1, hb]
          · rw [List.getElem?_set_ne (fun h => e h.symm)]
        rw [hset] at g3
        refine ⟨_, .slice a xs.length cap, _, E, w, g3, ?_, ?_, H, .refl _ _ _⟩
        · rw [hn0]
          exact run_append_nil T rfl (by have := hn w rfl; rw [hn0, nil_us hn0] at this; simpa [flatC] using this) hcap
        · subst hys
          simp only [List.append_nil, VRel]
          exact ⟨a, cap, rfl, hcap0, hd1, fun b' hb' => by cases hb'; exact ⟨hd2, hd3⟩⟩
      · -- the token's entry at the new length is not yet laid
        have hτ0 : E.τ b (xs.length + ys.length) = none := by
          cases hx : E.τ b (xs.length + ys.length) with
          | none => rfl
          | some x =>
            obtain ⟨_, q1, q2⟩ := H.domt _ _ _ hx
            rw [hb] at q1; cases q1
            have q2 : xs.length + ys.length ≤ xs.length := q2
            omega
        have hle : ∀ x f, (∀ r o v, E.fz r o = some v → f r o = some v) → E.le (E.tokAt b (xs.length + ys.length) x f) := by
          intro x f hff
          refine ⟨fun _ _ h => h, fun b' k y hy => ?_, hff⟩
          simp only [Env.tokAt]
          split
          · rename_i e; obtain ⟨e1, e2⟩ := e; subst e1; subst e2; rw [hτ0] at hy; cases hy
          · exact hy
        have hreal : realOf E b (.tok esz' xs.length) = none ∨ (xs ≠ [] ∧ ∃ r, E.τ b xs.length = some (r, cap) ∧ a = some ⟨r, 0, none⟩ ∧ realOf E b (.tok esz' xs.length) = some r) := by
          by_cases hx : xs = []
          · left; simp [realOf, hx]
          · right
            obtain ⟨r, q1, q2⟩ := hd3 hx
            exact ⟨hx, r, q1, q2, by simp [realOf, hx, q1]⟩
        have hxl : (xs ++ ys) ≠ [] := fun e => by
          have := congrArg List.length e
          simp at this
          exact hn0 (by rw [this.2]; rfl)
        -- what is appended, into a new block
        have anew : ∀ (old : List Value) (uxs : List Value), VRels xs E.bare uxs → Sized esz' uxs → old = flatC uxs → (Builtin.firstCells esz' xs.length (.slice a xs.length cap)).run P w.drew = .ok old.toArray w.drew → cap < xs.length + ys.length →
            ∃ v u h' E' w', good (K v h') ∧ (Builtin.append_ #[sT, xT] ty #[.slice a xs.length cap, .slice xa ys.length xc]).run P w = .ok u w' ∧ VRel v E' u ∧ HRel CR E' h' w' ∧ Step E heap w E' h' w' := by
          intro old uxs hux hzx hold hrun hcap
          have hlx := hux.length
          obtain ⟨newCap, c, elem, k1, k2, ⟨rest, k3⟩, k4⟩ := run_append_new T (ty := ty) (xa := xa) (xc := xc) rfl hrun (hn w.drew rfl) (by rw [hold, flatC_length hzx, hlx]) (by rw [flatC_length hz, hlen]) hcap hlim
          have hf1 := frz_le H c.toList ((xs.length + ys.length) * esz')
          have hle1 := hle (w.heap.size, newCap) _ hf1
          have hc : c.toList = flatC (uxs ++ us) ++ rest := by rw [k3, hold, flatC_append]
          obtain ⟨H', S⟩ := H.drew.update (E' := E.tokAt b (xs.length + ys.length) (w.heap.size, newCap) (frz E w.heap.size c.toList ((xs.length + ys.length) * esz'))) (o' := .tok esz' (xs.length + ys.length)) (w' := w.drew.alloc (.cells c elem)) hb hle1 (fun _ _ => rfl)
            (fun b' k hne => by simp [Env.tokAt, hne])
            (by simp) (fun k hk _ => alloc_old w.drew _ k hk)
            (fun x hx => by
              have e0 : ¬ (xs.length + ys.length = 0) := by omega
              simp only [realOf, e0, if_false, Env.tokAt, and_self, if_true, Option.map_some] at hx
              cases hx; exact .inr (Nat.le_refl _))
            ⟨h0, fun _ => ⟨w.heap.size, newCap, c, elem, by simp [Env.tokAt], alloc_new w.drew _, by omega, k1, fun o ho => by simp only [Env.tokAt, frz, if_true]; rw [if_neg (by omega)]⟩⟩
            (fun r o v hv' => by
              simp only [Env.tokAt, frz] at hv'
              split at hv'
              · rename_i e
                split at hv'
                · rw [e]; show (w.drew.alloc (.cells c elem)).cell? ⟨w.drew.heap.size, o, none⟩ = some v
                  rw [World.cell?_alloc_new]; simpa using hv'
                · cases hv'
              · have hl := H.fz_lt hv'
                rw [World.cell?_alloc_lt _ _ _ (by simpa using hl)]
                exact H.fz _ _ _ hv')
            (fun k off hk _ => by simp only [Env.tokAt, frz]; rw [if_neg (by simp at hk; omega)])
            (fun x _ hnt => absurd rfl (hnt esz' (xs.length + ys.length)))
            (fun n x hx => by
              show n ≤ xs.length + ys.length
              simp only [Env.tokAt] at hx
              split at hx
              · rename_i e; omega
              · obtain ⟨_, q1, q2⟩ := H.domt _ _ _ hx
                rw [hb] at q1; cases q1
                have q2 : n ≤ xs.length := q2
                omega)
          refine ⟨_, _, _, _, _, g3, k4, ?_, H', S.of_drew⟩
          have hel : Elems (xs ++ ys) (E.tokAt b (xs.length + ys.length) (w.heap.size, newCap) (frz E w.heap.size c.toList ((xs.length + ys.length) * esz'))).bare esz' w.heap.size 0 :=
            elems_new (hux.append hv) hle1.bare (hzx.append hz) hc (fun o ho => by
              simp only [Env.bare, Env.tokAt, frz, if_true]
              rw [if_pos (by rw [← hlen, ← hlx, ← List.length_append]; exact ho)])
          simp only [VRel]
          refine ⟨_, newCap, by rw [List.length_append], by rw [List.length_append]; exact k1, fun _ => ⟨_, _, rfl, hel⟩, fun b' hb' => ⟨fun h => absurd h hxl, fun _ => ⟨w.heap.size, ?_, rfl⟩⟩⟩
          cases hb'
          simp [Env.tokAt]
        by_cases hx : xs = []
        · subst hx
          have hc0 := hd2 rfl
          subst hc0
          refine anew [] [] (by simp [VRels]) (fun u hu => by simp at hu) (by simp [flatC]) ?_ (by simp; omega)
          cases a <;> simp [Builtin.firstCells, loadCells, loadCellsFrom]
        · obtain ⟨r, q1, q2⟩ := hd3 hx
          subst q2
          obtain ⟨r0, off0, e0, hel0⟩ := hd1 hx
          cases e0
          obtain ⟨uxs, m1, m2, m3⟩ := hel0.vals
          have hlx := m1.length
          obtain ⟨r', cap', c, t, p1, p2, p3, p4, p5⟩ := htok (List.length_pos_iff.2 hx)
          rw [q1] at p1; cases p1
          by_cases hcap : xs.length + ys.length ≤ cap
          · -- in place
            have hin := run_append_in (P := P) (w := w) T (ty := ty) (r := r) (off := 0) (sLen := xs.length) (cap := cap) (xa := xa) (xc := xc) rfl (hn w rfl) hcap
            have hsz : 0 + xs.length * esz' + 0 + (flatC us).length ≤ c.size := by
              rw [flatC_length hz, hlen]
              have : (xs.length + ys.length) * esz' ≤ cap * esz' := Nat.mul_le_mul_right _ hcap
              rw [Nat.add_mul] at this; omega
            obtain ⟨w', c', s1, s2, s3, s4, s5, s6⟩ := run_storeCells (P := P) (flatC us) 0 (0 + xs.length * esz') w c p2 hsz (flatC_one hz)
            rw [s1] at hin
            simp only [Result.andThen_ok] at hin
            have hro : realOf E b (.tok esz' xs.length) = some r := by simp [realOf, hx, q1]
            have hc's : c'.size = c.size := by
              have := congrArg List.length s3
              rw [spliceV_length (by simp; simp at hsz; omega)] at this
              simpa using this
            -- the cells that are frozen now
            let f : Nat → Nat → Option Value := fun r' o => if r' = r ∧ xs.length * esz' ≤ o then (if o < (xs.length + ys.length) * esz' then c'.toList[o]? else none) else E.fz r' o
            have hf1 : ∀ r' o v, E.fz r' o = some v → f r' o = some v := by
              intro r' o v hv'
              simp only [f]
              rw [if_neg ?_]; exact hv'
              rintro ⟨e1, e2⟩
              subst e1
              rw [p5 o e2] at hv'; cases hv'
            have hold : ∀ o, o < xs.length * esz' → c'.toList[o]? = c.toList[o]? := by
              intro o ho
              rw [s3]; unfold spliceV
              have hlo : o < (c.toList.take (0 + xs.length * esz' + 0)).length := by simp; simp at hsz; omega
              rw [List.append_assoc, List.getElem?_append_left hlo, List.getElem?_take, if_pos (by omega)]
            have hmid : ∀ j v, (flatC us)[j]? = some v → c'.toList[xs.length * esz' + j]? = some v := by
              intro j v hj
              have hjl := (List.getElem?_eq_some_iff.1 hj).1
              rw [s3]; unfold spliceV
              have hlt : (c.toList.take (0 + xs.length * esz' + 0)).length = xs.length * esz' := by simp; simp at hsz; omega
              rw [List.append_assoc, List.getElem?_append_right (by omega), hlt, show xs.length * esz' + j - xs.length * esz' = j by omega, List.getElem?_append_left hjl]
              exact hj
            have hle1 := hle (r, cap) f hf1
            obtain ⟨H', S⟩ := H.update (E' := E.tokAt b (xs.length + ys.length) (r, cap) f) (o' := .tok esz' (xs.length + ys.length)) (w' := w') (hout := s6) hb hle1 (fun _ _ => rfl)
              (fun b' k hne => by simp [Env.tokAt, hne])
              (by omega) (fun k hk hr => s4 k (fun e => hr (by rw [hro, e])))
              (fun x hx' => by
                have e0 : ¬ (xs.length + ys.length = 0) := by omega
                simp only [realOf, e0, if_false, Env.tokAt, and_self, if_true, Option.map_some] at hx'
                cases hx'; exact .inl hro)
              ⟨h0, fun _ => ⟨r, cap, c', t, by simp [Env.tokAt], s2, by omega, hcap, fun o ho => by
                simp only [Env.tokAt, f]
                rw [if_pos ⟨trivial, by rw [Nat.add_mul] at ho; omega⟩, if_neg (by omega)]⟩⟩
              (fun r' o v hv' => by
                simp only [Env.tokAt, f] at hv'
                split at hv'
                · rename_i e
                  split at hv'
                  · rw [e.1, cell_of_heap s2]; simpa using hv'
                  · cases hv'
                · rename_i e
                  have hcell := H.fz _ _ _ hv'
                  by_cases e1 : r' = r
                  · subst e1
                    have ho : o < xs.length * esz' := by
                      rcases Nat.lt_or_ge o (xs.length * esz') with h | h
                      · exact h
                      · exact absurd ⟨rfl, h⟩ e
                    rw [cell_of_heap p2] at hcell
                    rw [cell_of_heap s2]
                    have := hold o ho
                    simp only [Array.getElem?_toList] at this
                    rw [this]; exact hcell
                  · simp only [World.cell?] at hcell ⊢
                    rw [s4 r' e1]; exact hcell)
              (fun k off hk hne => by
                simp only [Env.tokAt, f]
                rw [if_neg (fun e => hne (by rw [hro, e.1]))])
              (fun x _ hnt => absurd rfl (hnt esz' (xs.length + ys.length)))
              (fun n x hx' => by
                show n ≤ xs.length + ys.length
                simp only [Env.tokAt] at hx'
                split at hx'
                · rename_i e; omega
                · obtain ⟨_, q1, q2⟩ := H.domt _ _ _ hx'
                  rw [hb] at q1; cases q1
                  have q2 : n ≤ xs.length := q2
                  omega)
            refine ⟨_, _, _, _, _, g3, hin, ?_, H', S⟩
            have hel : Elems (xs ++ ys) (E.tokAt b (xs.length + ys.length) (r, cap) f).bare esz' r 0 := by
              refine Elems.append (hel0.mono _ hle1.bare) (elems_of (hv.mono _ hle1.bare) hz fun j v hj => ?_)
              have hjl := (List.getElem?_eq_some_iff.1 hj).1
              rw [flatC_length hz, hlen] at hjl
              simp only [Env.bare, Env.tokAt, f]
              rw [if_pos ⟨trivial, by omega⟩, if_pos (by rw [Nat.add_mul]; omega), Nat.zero_add]
              exact hmid j v hj
            simp only [VRel]
            refine ⟨_, cap, by rw [List.length_append], by rw [List.length_append]; exact hcap, fun _ => ⟨_, _, rfl, hel⟩, fun b' hb' => ⟨fun h => absurd h hxl, fun _ => ⟨r, ?_, rfl⟩⟩⟩
            cases hb'
            simp [Env.tokAt]
          · refine anew _ uxs m1 m2 rfl ?_ (by omega)
            simp only [Builtin.firstCells]
            rw [← hlx, ← flatC_length m2]
            exact run_loadCells_list w.drew ⟨r, 0, none⟩ (flatC uxs) (fun j v hj => by rw [addr_add]; exact H.fz _ _ _ (m3 j v hj))
    · exact absurd g hf
  · rename_i b e n
    obtain ⟨g1, g⟩ := need_good hf h
    clear h
    have e1 : e = esz := by simpa using g1
    subst e1
    split at g
    · rename_i esz' es hb
      obtain ⟨g2, g3⟩ := need_good hf g
      clear g
      simp only [Bool.and_eq_true, beq_iff_eq] at g2
      obtain ⟨⟨e1, e2⟩, hlim⟩ := g2
      subst e1; subst e2
      have hlim : es.length + ys.length ≤ 1048576 := by simpa [appLim] using hlim
      obtain ⟨hρ0, htok⟩ := H.obj b _ hb
      simp only [VRel] at hd
      obtain ⟨a, cap, rfl, hcap0, hd2, hd3⟩ := hd
      by_cases hn0 : ys.length = 0
      · have hys : ys = [] := List.eq_nil_of_length_eq_zero hn0
        have hset : heap.set b (.grow esz' (es ++ ys)) = heap := by
          rw [hys, List.append_nil]
          refine List.ext_getElem? fun k => ?_
          by_cases e : k = b
          · subst e; rw [List.getElem?_set_self (List.getElem?_eq_some_iff.1 hb).1, hb]
          · rw [List.getElem?_set_ne (fun h => e h.symm)]
        rw [hset] at g3
        refine ⟨_, .slice a es.length cap, _, E, w, g3, ?_, ?_, H, .refl _ _ _⟩
        · rw [hn0]
          exact run_append_nil T rfl (by have := hn w rfl; rw [hn0, nil_us hn0] at this; simpa [flatC] using this) hcap0
        · rw [hn0, Nat.add_zero]
          simp only [VRel]
          exact ⟨a, cap, rfl, hcap0, hd2, hd3⟩
      · have hτ0 : E.τ b (es.length + ys.length) = none := by
          cases hx : E.τ b (es.length + ys.length) with
          | none => rfl
          | some x =>
            obtain ⟨_, q1, q2⟩ := H.domt _ _ _ hx
            rw [hb] at q1; cases q1
            have q2 : es.length + ys.length ≤ es.length := q2
            omega
        have hle : ∀ x, E.le (E.tokAt b (es.length + ys.length) x E.fz) := by
          intro x
          refine ⟨fun _ _ h => h, fun b' k y hy => ?_, fun _ _ _ h => h⟩
          simp only [Env.tokAt]
          split
          · rename_i e; obtain ⟨e1, e2⟩ := e; subst e1; subst e2; rw [hτ0] at hy; cases hy
          · exact hy
        have hal : (es ++ ys).length = es.length + ys.length := List.length_append
        have e0 : ¬ (es.length + ys.length = 0) := by omega
        have htk : ∀ x, ∀ n y, (E.tokAt b (es.length + ys.length) x E.fz).τ b n = some y → TauOK (E.tokAt b (es.length + ys.length) x E.fz) b n y (.grow esz' (es ++ ys)) := by
          intro x n y hy
          show n ≤ (es ++ ys).length
          rw [hal]
          simp only [Env.tokAt] at hy
          split at hy
          · rename_i e; omega
          · obtain ⟨_, q1, q2⟩ := H.domt _ _ _ hy
            rw [hb] at q1; cases q1
            have q2 : n ≤ es.length := q2
            omega
        have hrl : ∀ x, realOf (E.tokAt b (es.length + ys.length) x E.fz) b (.grow esz' (es ++ ys)) = some x.1 := by
          intro x
          simp only [realOf, hal, e0, if_false, Env.tokAt, and_self, if_true, Option.map_some]
        -- what is appended, into a new block
        have anew : ∀ (old : List Value) (uxs : List Value), VRels es E uxs → Sized esz' uxs → old = flatC uxs → (Builtin.firstCells esz' es.length (.slice a es.length cap)).run P w.drew = .ok old.toArray w.drew → cap < es.length + ys.length →
            ∃ v u h' E' w', good (K v h') ∧ (Builtin.append_ #[sT, xT] ty #[.slice a es.length cap, .slice xa ys.length xc]).run P w = .ok u w' ∧ VRel v E' u ∧ HRel CR E' h' w' ∧ Step E heap w E' h' w' := by
          intro old uxs hux hzx hold hrun hcap
          have hlx := hux.length
          obtain ⟨newCap, c, elem, k1, k2, ⟨rest, k3⟩, k4⟩ := run_append_new T (ty := ty) (xa := xa) (xc := xc) rfl hrun (hn w.drew rfl) (by rw [hold, flatC_length hzx, hlx]) (by rw [flatC_length hz, hlen]) hcap hlim
          have hle1 := hle (w.heap.size, newCap)
          have hc : c.toList = flatC (uxs ++ us) ++ rest := by rw [k3, hold, flatC_append]
          obtain ⟨H', S⟩ := H.drew.update (E' := E.tokAt b (es.length + ys.length) (w.heap.size, newCap) E.fz) (o' := .grow esz' (es ++ ys)) (w' := w.drew.alloc (.cells c elem)) hb hle1 (fun _ _ => rfl)
            (fun b' k hne => by simp [Env.tokAt, hne])
            (by simp) (fun k hk _ => alloc_old w.drew _ k hk)
            (fun x hx => by rw [hrl] at hx; cases hx; exact .inr (Nat.le_refl _))
            ⟨hρ0, fun _ => ⟨w.heap.size, newCap, c, elem, by rw [hal]; simp [Env.tokAt], alloc_new w.drew _, by omega, by rw [hal]; exact k1, by
              rw [hc]; exact rows_of rest ((hux.append (hv.mono _ E.bare_le)).mono _ hle1) (hzx.append hz)⟩⟩
            (fun r o v hv' => by
              have hl := H.fz_lt hv'
              rw [World.cell?_alloc_lt _ _ _ (by simpa using hl)]
              exact H.fz _ _ _ hv')
            (fun k off hk _ => rfl)
            (fun x hx _ off => by
              rw [hrl] at hx; cases hx
              exact H.fz_new (Nat.le_refl _))
            (htk _)
          refine ⟨_, _, _, _, _, g3, k4, ?_, H', S.of_drew⟩
          simp only [VRel]
          exact ⟨_, newCap, rfl, k1, fun h => absurd h e0, fun _ => ⟨w.heap.size, by simp [Env.tokAt], rfl⟩⟩
        by_cases hx : es = []
        · subst hx
          have hc0 := hd2 rfl
          subst hc0
          refine anew [] [] (by simp [VRels]) (fun u hu => by simp at hu) (by simp [flatC]) ?_ (by simp; omega)
          cases a <;> simp [Builtin.firstCells, loadCells, loadCellsFrom]
        · have hxl : es.length ≠ 0 := fun e => hx (List.eq_nil_of_length_eq_zero e)
          obtain ⟨r, q1, q2⟩ := hd3 hxl
          subst q2
          obtain ⟨r', cap', c, t, p1, p2, p3, p4, p5⟩ := htok hx
          rw [q1] at p1; cases p1
          obtain ⟨uxs, rest, m1, m2, m3⟩ := p5.vals
          have hlx := m1.length
          have hro : realOf E b (.grow esz' es) = some r := by simp only [realOf]; rw [if_neg hxl, q1]; rfl
          by_cases hcap : es.length + ys.length ≤ cap
          · -- in place
            have hin := run_append_in (P := P) (w := w) T (ty := ty) (r := r) (off := 0) (sLen := es.length) (cap := cap) (xa := xa) (xc := xc) rfl (hn w rfl) hcap
            have hsz : 0 + es.length * esz' + 0 + (flatC us).length ≤ c.size := by
              rw [flatC_length hz, hlen]
              have : (es.length + ys.length) * esz' ≤ cap * esz' := Nat.mul_le_mul_right _ hcap
              rw [Nat.add_mul] at this; omega
            obtain ⟨w', c', s1, s2, s3, s4, s5, s6⟩ := run_storeCells (P := P) (flatC us) 0 (0 + es.length * esz') w c p2 hsz (flatC_one hz)
            rw [s1] at hin
            simp only [Result.andThen_ok] at hin
            have hc's : c'.size = c.size := by
              have := congrArg List.length s3
              rw [spliceV_length (by simp; simp at hsz; omega)] at this
              simpa using this
            have hc' : ∃ rest', c'.toList = flatC (uxs ++ us) ++ rest' := by
              rw [s3]; unfold spliceV
              have h1 : (flatC uxs).length = es.length * esz' := by rw [flatC_length m2, hlx]
              refine ⟨c.toList.drop (0 + es.length * esz' + 0 + (flatC us).length), ?_⟩
              rw [m3, flatC_append, show 0 + es.length * esz' + 0 = (flatC uxs).length by omega, List.take_left' rfl]
            obtain ⟨rest', hc'⟩ := hc'
            have hle1 := hle (r, cap)
            obtain ⟨H', S⟩ := H.update (E' := E.tokAt b (es.length + ys.length) (r, cap) E.fz) (o' := .grow esz' (es ++ ys)) (w' := w') (hout := s6) hb hle1 (fun _ _ => rfl)
              (fun b' k hne => by simp [Env.tokAt, hne])
              (by omega) (fun k hk hr => s4 k (fun e => hr (by rw [hro, e])))
              (fun x hx' => by rw [hrl] at hx'; cases hx'; exact .inl hro)
              ⟨hρ0, fun _ => ⟨r, cap, c', t, by rw [hal]; simp [Env.tokAt], s2, by omega, by rw [hal]; exact hcap, by
                rw [hc']; exact rows_of rest' ((m1.append (hv.mono _ E.bare_le)).mono _ hle1) (m2.append hz)⟩⟩
              (fun r' o v hv' => by
                have hv' : E.fz r' o = some v := hv'
                have hne : r' ≠ r := fun e => by
                  have := H.sep b _ r hb hro (fun _ _ e => by cases e) o
                  rw [← e, hv'] at this; cases this
                have hcell := H.fz _ _ _ hv'
                simp only [World.cell?] at hcell ⊢
                rw [s4 r' hne]; exact hcell)
              (fun k off hk hne => rfl)
              (fun x hx' _ off => by
                rw [hrl] at hx'; cases hx'
                exact H.sep b _ r hb hro (fun _ _ e => by cases e) off)
              (htk _)
            refine ⟨_, _, _, _, _, g3, hin, ?_, H', S⟩
            simp only [VRel]
            exact ⟨_, cap, rfl, hcap, fun h => absurd h e0, fun _ => ⟨r, by simp [Env.tokAt], rfl⟩⟩
          · refine anew _ uxs m1 m2 rfl ?_ (by omega)
            simp only [Builtin.firstCells]
            rw [← hlx, ← flatC_length m2]
            refine run_loadCells_list w.drew ⟨r, 0, none⟩ (flatC uxs) (fun j v hj => ?_)
            rw [addr_add]
            show w.cell? ⟨r, 0 + j, none⟩ = some v
            rw [cell_of_heap p2, Nat.zero_add]
            have : c.toList[j]? = some v := by rw [m3, List.getElem?_append_left (List.getElem?_eq_some_iff.1 hj).1]; exact hj
            simpa using this
    · exact absurd g hf
  · exact absurd h hf

/-- What was frozen, and a block more. -/
def frzAll (E : Env) (r : Nat) (c : List Value) : Nat → Nat → Option Value := fun r' o => if r' = r then c[o]? else E.fz r' o

theorem thaw_good {v : AVal} {K : AVal → List AObj → α} (h : good (thawA fail v heap K)) {u : Value} (hv : VRel v E u) (H : HRel CR E heap w) :
    ∃ v' h' E', good (K v' h') ∧ VRel v' E' u ∧ HRel CR E' h' w ∧ Step E heap w E' h' w := by
  unfold thawA at h
  split at h
  · rename_i b e
    simp only [VRel] at hv
    obtain ⟨a, cap, rfl, h1, h2, _⟩ := hv
    refine ⟨_, _, E, h, ?_, H, .refl _ _ _⟩
    simp only [VRel]
    exact ⟨a, cap, rfl, Nat.zero_le _, fun h => absurd rfl h, fun b hb => by cases hb⟩
  · rename_i b e n
    simp only [VRel] at hv
    obtain ⟨a, cap, rfl, h1, h2, h3⟩ := hv
    obtain ⟨r, h4, rfl⟩ := h3 (by omega)
    split at h
    · rename_i e' es hb
      obtain ⟨g1, g⟩ := need_good hf h
      simp only [Bool.and_eq_true, beq_iff_eq] at g1
      obtain ⟨e1, e2⟩ := g1
      subst e1
      obtain ⟨hρ0, ho⟩ := H.obj b _ hb
      have hne : es ≠ [] := fun e => by rw [e] at e2; simp at e2
      obtain ⟨r', cap', c, t, p1, p2, p3, p4, p5⟩ := ho hne
      rw [e2, h4] at p1; cases p1
      have hl : ¬ es.length = 0 := by omega
      have hro : realOf E b (.grow e' es) = some r := by simp only [realOf]; rw [if_neg hl, e2, h4]; rfl
      let E' : Env := ⟨fun b' => if b' = b then some r else E.ρ b', E.τ, E.fz⟩
      have hle : E.le E' := ⟨fun b' x hx => by
        show (if b' = b then some r else E.ρ b') = some x
        split
        · rename_i e; rw [e, hρ0] at hx; cases hx
        · exact hx, fun _ _ _ h => h, fun _ _ _ h => h⟩
      have hρb : E'.ρ b = some r := by show (if b = b then some r else E.ρ b) = some r; rw [if_pos rfl]
      obtain ⟨H', S⟩ := H.update (E' := E') (o' := .rows e' es) (w' := w) hb hle
        (fun b' hne' => by show (if b' = b then some r else E.ρ b') = E.ρ b'; rw [if_neg hne']) (fun _ _ _ => rfl) (Nat.le_refl _) (fun _ _ _ => rfl)
        (fun x hx => by
          have hx : E'.ρ b = some x := hx
          rw [hρb] at hx; cases hx; exact .inl hro)
        ⟨r, c, t, hρb, p2, p5.mono hle⟩ H.fz (fun _ _ _ _ => rfl)
        (fun x hx _ off => by
          have hx : E'.ρ b = some x := hx
          rw [hρb] at hx; cases hx
          exact H.sep b _ r hb hro (fun _ _ e => by cases e) off)
        (fun m x hx => by
          obtain ⟨_, q1, q2⟩ := H.domt b m x hx
          rw [hb] at q1; cases q1
          have q2 : m ≤ es.length := q2
          refine ⟨q2, fun e => ?_⟩
          rw [e, e2] at hx
          have hx : E.τ b (n + 1) = some x := hx
          rw [h4] at hx; cases hx
          exact hρb)
      refine ⟨_, _, E', g, ?_, H', S⟩
      simp only [VRel]
      exact ⟨r, _, cap, hρb, rfl, h1, fun _ => by simp⟩
    · rename_i e' es hb
      obtain ⟨g1, g⟩ := need_good hf h
      simp only [Bool.and_eq_true, beq_iff_eq] at g1
      obtain ⟨e1, e2⟩ := g1
      obtain ⟨_, q1, q2⟩ := H.domt b _ _ h4
      rw [hb] at q1; cases q1
      have hρb : E.ρ b = some r := q2.2 e2.symm
      refine ⟨_, _, E, g, ?_, H, .refl _ _ _⟩
      simp only [VRel]
      exact ⟨r, _, cap, hρb, rfl, h1, fun _ => by simp⟩
    · exact absurd h hf
  · exact ⟨_, _, E, h, hv, H, .refl _ _ _⟩
  · exact ⟨_, _, E, h, hv, H, .refl _ _ _⟩
  · exact ⟨_, _, E, h, hv, H, .refl _ _ _⟩
  · exact absurd h hf

omit hf in
/-- An object's block is frozen whole. -/
theorem HRel.freeze (H : HRel CR E heap w) {b r : Nat} {o : AObj} {c : Array Value} {t : TypeId} (hb : heap[b]? = some o) (hro : realOf E b o = some r) (hnt : ∀ esz used, o ≠ .tok esz used) (hw : w.heap[r]? = some (.cells c t (0, 0))) :
    HRel CR ⟨E.ρ, E.τ, frzAll E r c.toList⟩ (heap.set b .dead) w ∧ Step E heap w ⟨E.ρ, E.τ, frzAll E r c.toList⟩ (heap.set b .dead) w := by
  have hno : ∀ off, E.fz r off = none := fun off => H.sep b o r hb hro hnt off
  refine H.update (E' := ⟨E.ρ, E.τ, frzAll E r c.toList⟩) (o' := .dead) (w' := w) hb
    ⟨fun _ _ h => h, fun _ _ _ h => h, fun r' o' v hv => ?_⟩ (fun _ _ => rfl) (fun _ _ _ => rfl) (Nat.le_refl _) (fun _ _ _ => rfl) (fun x hx => by simp [realOf] at hx) trivial
    (fun r' o' v hv => ?_) (fun k off hk hne => ?_) (fun x hx => by simp [realOf] at hx) (fun _ _ _ => trivial)
  · show (if r' = r then c.toList[o']? else E.fz r' o') = some v
    split
    · rename_i e; rw [e, hno] at hv; cases hv
    · exact hv
  · have hv : (if r' = r then c.toList[o']? else E.fz r' o') = some v := hv
    split at hv
    · rename_i e
      rw [e, cell_of_heap hw]; simpa using hv
    · exact H.fz _ _ _ hv
  · show (if k = r then c.toList[off]? else E.fz k off) = E.fz k off
    rw [if_neg (fun e => hne (by rw [hro, e]))]

theorem freeze_good {v : AVal} {K : AVal → List AObj → α} (h : good (freezeA fail v heap K)) {u : Value} (hv : VRel v E u) (H : HRel CR E heap w) :
    ∃ v' h' E', good (K v' h') ∧ VRel v' E' u ∧ HRel CR E' h' w ∧ Step E heap w E' h' w := by
  unfold freezeA at h
  split at h
  · rename_i b e i len
    split at h
    · rename_i e' es hb
      obtain ⟨g1, g⟩ := need_good hf h
      simp only [Bool.and_eq_true, beq_iff_eq] at g1
      obtain ⟨e1, hle⟩ := g1
      subst e1
      have hle : i + len ≤ es.length := by simpa using hle
      obtain ⟨r, c, t, k1, k2, k3⟩ := H.obj b _ hb
      obtain ⟨us, rest, l1, l2, l3⟩ := k3.vals
      have hl := l1.length
      simp only [VRel] at hv
      obtain ⟨r', a, cap, m1, rfl, m3, m2⟩ := hv
      rw [k1] at m1; cases m1
      obtain ⟨H', S⟩ := H.freeze hb (o := .rows e' es) k1 (fun _ _ e => by cases e) k2
      have hz : Sized e' ((us.drop i).take len) := (l2.drop i).take len
      have hw : VRels (killL 0 ((es.drop i).take len)) E.bare ((us.drop i).take len) := by
        rw [← Env.cut_zero]; exact ((l1.drop i).take len).kill 0
      have hkl : (killL 0 ((es.drop i).take len)).length = len := by have := hw.length; simp at this; rw [killL_eq, List.length_map]; simp; omega
      refine ⟨_, _, _, g, ?_, H', S⟩
      simp only [VRel]
      refine ⟨some a, cap, by rw [hkl], by rw [hkl]; exact m3, fun hne => ?_, fun b hb => by cases hb⟩
      have hpos : 0 < len := by
        rcases Nat.eq_zero_or_pos len with h | h
        · exact absurd (List.eq_nil_of_length_eq_zero (hkl.trans h)) hne
        · exact h
      refine ⟨r, i * e', by rw [m2 hpos], elems_of (hw.mono _ S.le.bare) hz fun j v hj => ?_⟩
      show (if r = r then c.toList[i * e' + j]? else E.fz r (i * e' + j)) = some v
      rw [if_pos rfl]
      have h1 := flatC_take_get len j hj
      rw [flatC_drop_get l2] at h1
      rw [l3, List.getElem?_append_left (List.getElem?_eq_some_iff.1 h1).1]
      exact h1
    · exact absurd h hf
  · rename_i b e n
    split at h
    · rename_i e' es hb
      obtain ⟨g1, g⟩ := need_good hf h
      simp only [Bool.and_eq_true, beq_iff_eq] at g1
      obtain ⟨e1, e2⟩ := g1
      subst e1; subst e2
      obtain ⟨hρ0, ho⟩ := H.obj b _ hb
      simp only [VRel] at hv
      obtain ⟨a, cap, rfl, m1, m2, m3⟩ := hv
      by_cases hne : es = []
      · subst hne
        obtain ⟨H', S⟩ := H.update (E' := E) (o' := .dead) (w' := w) hb (.refl E) (fun _ _ => rfl) (fun _ _ _ => rfl) (Nat.le_refl _) (fun _ _ _ => rfl) (fun x hx => by simp [realOf] at hx) trivial H.fz (fun _ _ _ _ => rfl) (fun x hx => by simp [realOf] at hx) (fun _ _ _ => trivial)
        refine ⟨_, _, _, g, ?_, H', S⟩
        simp only [VRel, killL]
        exact ⟨a, cap, rfl, Nat.zero_le _, fun h => absurd rfl h, fun b hb => by cases hb⟩
      · have hl : ¬ es.length = 0 := fun e => hne (List.eq_nil_of_length_eq_zero e)
        obtain ⟨r, cap', c, t, p1, p2, p3, p4, p5⟩ := ho hne
        obtain ⟨r', q1, rfl⟩ := m3 hl
        rw [q1] at p1; cases p1
        have hro : realOf E b (.grow e' es) = some r := by simp only [realOf]; rw [if_neg hl, q1]; rfl
        obtain ⟨us, rest, l1, l2, l3⟩ := p5.vals
        obtain ⟨H', S⟩ := H.freeze hb hro (fun _ _ e => by cases e) p2
        have hw : VRels (killL 0 es) E.bare us := by rw [← Env.cut_zero]; exact l1.kill 0
        have hkl : (killL 0 es).length = es.length := by rw [killL_eq, List.length_map]
        refine ⟨_, _, _, g, ?_, H', S⟩
        simp only [VRel]
        refine ⟨_, cap, by rw [hkl], by rw [hkl]; exact m1, fun hne => ⟨r, 0, rfl, elems_of (hw.mono _ S.le.bare) l2 fun j v hj => ?_⟩, fun b hb => by cases hb⟩
        show (if r = r then c.toList[0 + j]? else E.fz r (0 + j)) = some v
        rw [if_pos rfl, Nat.zero_add, l3, List.getElem?_append_left (List.getElem?_eq_some_iff.1 hj).1]
        exact hj
    · exact absurd h hf
  · exact ⟨_, _, E, h, hv, H, .refl _ _ _⟩
  · exact ⟨_, _, E, h, hv, H, .refl _ _ _⟩
  · exact ⟨_, _, E, h, hv, H, .refl _ _ _⟩
  · exact absurd h hf
end

end Go.Ai
