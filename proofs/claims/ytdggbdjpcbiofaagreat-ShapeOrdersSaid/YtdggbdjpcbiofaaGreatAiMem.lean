/- Loads and stores, against the model's. -/
import Derived.Test.YtdggbdjpcbiofaaGreatAiPure
namespace Go.Ai

def spliceV (cs : List Value) (o : Nat) (vs : List Value) : List Value := cs.take o ++ vs ++ cs.drop (o + vs.length)

theorem spliceV_length {cs : List Value} {o : Nat} {vs : List Value} (h : o + vs.length ≤ cs.length) : (spliceV cs o vs).length = cs.length := by
  simp [spliceV]; omega

theorem spliceV_mid {A M B : List Value} {o : Nat} {vs : List Value} (h : o + vs.length ≤ M.length) : spliceV (A ++ M ++ B) (A.length + o) vs = A ++ spliceV M o vs ++ B := by
  unfold spliceV
  have h1 : (A ++ M ++ B).take (A.length + o) = A ++ M.take o := by
    rw [List.append_assoc, List.take_append, List.take_of_length_le (by omega), show A.length + o - A.length = o by omega, List.take_append_of_le_length (by omega)]
  have h2 : (A ++ M ++ B).drop (A.length + o + vs.length) = M.drop (o + vs.length) ++ B := by
    rw [List.append_assoc, List.drop_append, List.drop_eq_nil_of_le (by omega), List.nil_append, show A.length + o + vs.length - A.length = o + vs.length by omega, List.drop_append_of_le_length (by omega)]
  rw [h1, h2]; simp [List.append_assoc]

theorem RowsRel.split {E : Env} {esz : Nat} : ∀ {es : List AVal} {cs : List Value}, RowsRel E esz es cs → ∀ {i : Nat} {x : AVal}, es[i]? = some x →
    ∃ A u B, cs = A ++ u.cells.toList ++ B ∧ A.length = i * esz ∧ u.cells.size = esz ∧ oneC u ∧ VRel x E u ∧
      (∀ x' u', VRel x' E u' → u'.cells.size = esz → oneC u' → RowsRel E esz (es.set i x') (A ++ u'.cells.toList ++ B))
  | [], _, _, _, _, hi => by simp at hi
  | y :: es, _, ⟨u, rest, h1, h2, h3, h4, h5⟩, i, x, hi => by
    cases i with
    | zero =>
      simp at hi; subst hi
      refine ⟨[], u, rest, by simpa using h4, by simp, h2, h3, h1, fun x' u' k1 k2 k3 => ?_⟩
      exact ⟨u', rest, k1, k2, k3, by simp, h5⟩
    | succ i =>
      obtain ⟨A, v, B, k1, k2, k3, k4, k5, k6⟩ := RowsRel.split h5 (i := i) (x := x) (by simpa using hi)
      refine ⟨u.cells.toList ++ A, v, B, by rw [h4, k1]; simp, by simp [k2, h2, Nat.succ_mul]; omega, k3, k4, k5, fun x' u' l1 l2 l3 => ?_⟩
      exact ⟨u, A ++ u'.cells.toList ++ B, h1, h2, h3, by simp [List.append_assoc], k6 x' u' l1 l2 l3⟩

theorem RowsRel.get {E : Env} {esz : Nat} {es : List AVal} {cs : List Value} (h : RowsRel E esz es cs) {i : Nat} {x : AVal} (hi : es[i]? = some x) :
    ∃ u, VRel x E u ∧ u.cells.size = esz ∧ oneC u ∧ ∀ j v, u.cells[j]? = some v → cs[i * esz + j]? = some v := by
  obtain ⟨A, u, B, h1, h2, h3, h4, h5, _⟩ := h.split hi
  refine ⟨u, h5, h3, h4, fun j v hj => ?_⟩
  have hjl : j < u.cells.toList.length := by simpa using (Array.getElem?_eq_some_iff.1 hj).1
  rw [h1, List.append_assoc, ← h2, List.getElem?_append_right (by omega), show A.length + j - A.length = j by omega, List.getElem?_append_left hjl]
  simpa using hj

theorem Elems.get : ∀ {xs : List AVal} {E : Env} {esz r off : Nat}, Elems xs E esz r off → ∀ {i : Nat} {x : AVal}, xs[i]? = some x →
    ∃ u, VRel x E u ∧ u.cells.size = esz ∧ oneC u ∧ ∀ j v, u.cells[j]? = some v → E.fz r (off + i * esz + j) = some v
  | [], _, _, _, _, _, _, _, hi => by simp at hi
  | y :: xs, E, esz, r, off, h, i, x, hi => by
    simp only [Elems] at h
    cases i with
    | zero => simp at hi; subst hi; simpa using h.1
    | succ i =>
      obtain ⟨u, h1, h2, h3, h4⟩ := Elems.get h.2 (i := i) (x := x) (by simpa using hi)
      refine ⟨u, h1, h2, h3, fun j v hj => ?_⟩
      have := h4 j v hj
      rw [show off + (i + 1) * esz + j = off + esz + i * esz + j by rw [Nat.succ_mul]; omega]
      exact this

theorem Elems.drop : ∀ {xs : List AVal} {E : Env} {esz r off : Nat} (n : Nat), Elems xs E esz r off → n ≤ xs.length → Elems (xs.drop n) E esz r (off + n * esz)
  | xs, _, _, _, _, 0, h, _ => by simpa using h
  | [], _, _, _, _, n + 1, _, hn => by simp at hn
  | _ :: xs, E, esz, r, off, n + 1, h, hn => by
    simp only [Elems] at h
    have := Elems.drop n h.2 (by simpa using hn)
    simp only [List.drop_succ_cons]
    rw [show off + (n + 1) * esz = off + esz + n * esz by rw [Nat.succ_mul]; omega]
    exact this

theorem Elems.take : ∀ {xs : List AVal} {E : Env} {esz r off : Nat} (n : Nat), Elems xs E esz r off → Elems (xs.take n) E esz r off
  | xs, _, _, _, _, 0, _ => by simp [Elems]
  | [], _, _, _, _, n + 1, _ => by simp [Elems]
  | _ :: xs, E, esz, r, off, n + 1, h => by
    simp only [Elems, List.take_succ_cons] at h ⊢
    exact ⟨h.1, Elems.take n h.2⟩

theorem Elems.append : ∀ {xs ys : List AVal} {E : Env} {esz r off : Nat}, Elems xs E esz r off → Elems ys E esz r (off + xs.length * esz) → Elems (xs ++ ys) E esz r off
  | [], _, _, _, _, _, _, h => by simpa using h
  | _ :: xs, ys, E, esz, r, off, h, k => by
    simp only [Elems, List.cons_append] at h ⊢
    refine ⟨h.1, Elems.append h.2 ?_⟩
    rw [show off + esz + xs.length * esz = off + (xs.length + 1) * esz by rw [Nat.succ_mul]; omega]
    simpa using k

theorem addr_add (r o n : Nat) : Addr.add ⟨r, o, none⟩ n = ⟨r, o + n, none⟩ := Addr.add_lit r o n

theorem cell_of_heap {w : World} {r o : Nat} {c : Array Value} {t : TypeId} {f : Nat × Nat} (h : w.heap[r]? = some (.cells c t f)) : w.cell? ⟨r, o, none⟩ = c[o]? := by
  simp [World.cell?, h]

section load
variable {α : Type} {good : α → Prop} {fail : α} (hf : ¬ good fail) {P : Program} {w : World}
include hf

theorem load_part {agg : Bool} {size o : Nat} {x : AVal} {K : AVal → α} (h : good (partOf fail agg size x o K)) {E : Env} {u : Value} (hx : VRel x E u) (ho : oneC u)
    {t : TypeId} (ht : isAggT P t = some agg) (hs : sizeT P t = some size) {r off : Nat} (hc : ∀ j v, u.cells[j]? = some v → w.cell? ⟨r, off + j, none⟩ = some v) :
    ∃ v u', good (K v) ∧ (loadVar t ⟨r, off + o, none⟩).run P w = .ok u' w ∧ VRel v E u' := by
  obtain ⟨v, h1, h2, h3⟩ := partOf_good hf h hx ho
  cases agg with
  | true =>
    obtain ⟨h4, h5⟩ := h2 rfl
    refine ⟨v, _, h1, ?_, h5⟩
    simp only [loadVar, Sem.run_bind, run_isAgg ht, Result.andThen_ok, if_true, run_sizeOf hs]
    have hl : (u.cells.extract o (o + size)).toList.length = size := by simp; omega
    have := run_loadCells_list (P := P) w ⟨r, off + o, none⟩ (u.cells.extract o (o + size)).toList (fun j v hj => by
      have hj' : j < size := by rw [← hl]; exact (List.getElem?_eq_some_iff.1 hj).1
      rw [addr_add, show off + o + j = off + (o + j) by omega]
      refine hc _ _ ?_
      rw [Array.getElem?_toList, Array.getElem?_extract] at hj
      split at hj
      · exact hj
      · cases hj)
    rw [hl] at this
    rw [this]
    simp only [Result.andThen_ok, Sem.run_pure, Array.toArray_toList]
  | false =>
    obtain ⟨c, h4, h5⟩ := h3 rfl
    refine ⟨v, c, h1, ?_, h5⟩
    simp only [loadVar, Sem.run_bind, run_isAgg ht, Result.andThen_ok, Bool.false_eq_true, if_false, run_load, hc o c h4]

theorem load_good {CR : Code → ACode → Prop} {agg : Bool} {size : Nat} {p : AVal} {heap : List AObj} {K : AVal → α} (h : good (loadA fail agg size p heap K)) {E : Env} {u : Value} (hp : VRel p E u) (H : HRel CR E heap w)
    {t : TypeId} (ht : isAggT P t = some agg) (hs : sizeT P t = some size) :
    ∃ v u', good (K v) ∧ (Instr.loadAt t u).run P w = .ok u' w ∧ VRel v E u' := by
  cases p <;> simp only [loadA] at h <;> first | (exact absurd h hf) | skip
  case hp b esz i o =>
    split at h
    · rename_i esz' es hb
      obtain ⟨h1, h2⟩ := need_good hf h
      have e : esz = esz' := by simpa using h1
      subst e
      split at h2
      · rename_i x hx
        obtain ⟨r, c, t', k1, k2, k3⟩ := H.obj b _ hb
        obtain ⟨v, l1, l2, l3, l4⟩ := k3.get hx
        simp only [VRel] at hp
        obtain ⟨r', m1, rfl⟩ := hp
        rw [k1] at m1; cases m1
        obtain ⟨z, u', n1, n2, n3⟩ := load_part hf (w := w) h2 l1 l3 ht hs (r := r) (off := i * esz) (fun j v hj => by rw [cell_of_heap k2]; simpa using l4 j v hj)
        exact ⟨z, u', n1, by simpa [Instr.loadAt, Instr.sureAddr] using n2, n3⟩
      · exact absurd h2 hf
    · exact absurd h hf
  case fp esz xs i o =>
    split at h
    · rename_i x hx
      simp only [VRel] at hp
      obtain ⟨r, off, rfl, h2⟩ := hp
      obtain ⟨v, l1, l2, l3, l4⟩ := h2.get hx
      obtain ⟨z, u', n1, n2, n3⟩ := load_part hf (w := w) h (l1.mono _ E.bare_le) l3 ht hs (r := r) (off := off + i * esz) (fun j v hj => H.fz _ _ _ (l4 j v hj))
      exact ⟨z, u', n1, by simpa [Instr.loadAt, Instr.sureAddr] using n2, n3⟩
    · exact absurd h hf
end load

/-! ### Stores -/

/-- Cells written into a block. -/
theorem run_storeCells {P : Program} {r : Nat} {t : TypeId} : ∀ (vs : List Value) (i : Nat) (off : Nat) (w : World) (c : Array Value), w.heap[r]? = some (.cells c t (0, 0)) → off + i + vs.length ≤ c.size → (∀ v ∈ vs, v.oneCell' = true) →
    ∃ w' c', (storeCells ⟨r, off, none⟩ vs i).run P w = .ok () w' ∧ w'.heap[r]? = some (.cells c' t (0, 0)) ∧ c'.toList = spliceV c.toList (off + i) vs ∧ (∀ k, k ≠ r → w'.heap[k]? = w.heap[k]?) ∧ w'.heap.size = w.heap.size ∧ SameOut w w'
  | [], i, off, w, c, h, _, _ => ⟨w, c, by simp [storeCells], h, by simp [spliceV], fun _ _ => rfl, rfl, rfl, rfl⟩
  | v :: vs, i, off, w, c, h, hl, ho => by
    have hv := ho v (by simp)
    have hlt : off + i < c.size := by simp at hl; omega
    have hcell : w.cell? (Addr.add ⟨r, off, none⟩ i) = some c[off + i] := by rw [addr_add, cell_of_heap h]; simp [hlt]
    have hfr : w.frozen? (Addr.add ⟨r, off, none⟩ i) = false := by rw [addr_add]; simp [World.frozen?, h]
    have hset : (w.setCell (Addr.add ⟨r, off, none⟩ i) v).heap[r]? = some (.cells (c.setIfInBounds (off + i) v) t (0, 0)) := by
      rw [addr_add]; simp only [World.setCell, Array.getElem?_modify, h, if_true]; rfl
    obtain ⟨w', c', h1, h2, h3, h4, h5, h6⟩ := run_storeCells (P := P) vs (i + 1) off _ _ hset (by simp at hl ⊢; omega) (fun y hy => ho y (by simp [hy]))
    refine ⟨w', c', ?_, h2, ?_, fun k hk => ?_, by rw [h5]; simp, h6⟩
    · simp only [storeCells, Sem.run_bind, run_store _ _ _ _ _ hv, hcell, hfr, Bool.false_eq_true, if_false, Result.andThen_ok]
      exact h1
    · rw [h3]
      simp only [Array.toList_setIfInBounds, spliceV]
      have e1 : (c.toList.set (off + i) v).take (off + (i + 1)) = c.toList.take (off + i) ++ [v] := by
        rw [show off + (i + 1) = (off + i) + 1 by omega, List.take_succ_eq_append_getElem (by simpa using hlt)]
        simp [List.take_set_of_le]
      have e2 : (c.toList.set (off + i) v).drop (off + (i + 1) + vs.length) = c.toList.drop (off + i + (v :: vs).length) := by
        rw [List.drop_set_of_lt (by omega)]
        congr 1; simp; omega
      rw [e1, e2]; simp
    · rw [h4 k hk]
      rw [addr_add]
      simp only [World.setCell, Array.getElem?_modify]
      rw [if_neg (fun e => hk e.symm)]


theorem VRels.splice {xs ys : List AVal} {E : Env} {vs ws : List Value} {o : Nat} (h : VRels xs E vs) (k : VRels ys E ws) : VRels (spliceL xs o ys) E (spliceV vs o ws) := by
  unfold spliceL spliceV
  rw [k.length]
  exact ((h.take o).append k).append (h.drop _)

theorem mem_splice {vs ws : List Value} {o : Nat} {v : Value} (h : v ∈ spliceV vs o ws) : v ∈ vs ∨ v ∈ ws := by
  unfold spliceV at h
  rcases List.mem_append.1 h with h | h
  · rcases List.mem_append.1 h with h | h
    · exact .inl (List.mem_of_mem_take h)
    · exact .inr h
  · exact .inl (List.mem_of_mem_drop h)

theorem oneC_agg {vs : Array Value} : oneC (.agg vs) ↔ ∀ v ∈ vs.toList, v.oneCell' = true := Iff.rfl

section store
variable {α : Type} {good : α → Prop} {fail : α} (hf : ¬ good fail) {P : Program} {w : World}
include hf

theorem put_good {size o : Nat} {x v : AVal} {K : AVal → α} (h : good (putPart fail size x o v K)) {E : Env} {u uv : Value} (hx : VRel x E u) (ho : oneC u) (hv : VRel v E uv) :
    ∃ x' u', good (K x') ∧ VRel x' E u' ∧ u'.cells.size = u.cells.size ∧ oneC u' ∧ u'.cells.toList = spliceV u.cells.toList o uv.cells.toList ∧ uv.cells.size = size ∧ o + size ≤ u.cells.size ∧ oneC uv := by
  unfold putPart at h
  obtain ⟨h1, h2⟩ := need_good hf h
  simp only [Bool.and_eq_true, beq_iff_eq] at h1
  have hov := storable_one hv h1.1
  have hcv := hv.cells h1.1
  have hlv : uv.cells.size = size := by have := hcv.length; simp at this; omega
  cases x
  case agg cs =>
    simp only at h2
    obtain ⟨h3, h4⟩ := need_good hf h2
    have h3 : o + size ≤ cs.length := by simpa using h3
    simp only [VRel] at hx
    obtain ⟨vs, rfl, k1, k2⟩ := hx
    have hl := k1.length
    have hlen : (spliceV vs.toList o uv.cells.toList).length = vs.toList.length := spliceV_length (by simp; simp at hl; omega)
    have hall : ∀ v ∈ (spliceV vs.toList o uv.cells.toList), v.oneCell' = true := fun v hv => (mem_splice hv).elim (k2 v) (hov v)
    refine ⟨_, .agg (spliceV vs.toList o uv.cells.toList).toArray, h4, ?_, ?_, ?_, ?_, hlv, ?_, hov⟩
    · simp only [VRel]; exact ⟨_, rfl, by simpa using k1.splice hcv, by simpa using hall⟩
    · simpa [Value.cells] using hlen
    · rw [oneC_agg]; simpa using hall
    · simp [Value.cells]
    · simp [Value.cells] at hl ⊢; omega
  case undef => exact absurd h2 hf
  case tuple cs =>
    simp only [VRel] at hx
    obtain ⟨vs, rfl, _⟩ := hx
    have := ho (.tuple vs) (by simp [Value.cells])
    simp [Value.oneCell'] at this
  all_goals
    simp only at h2
    obtain ⟨h3, h4⟩ := need_good hf h2
    simp only [Bool.and_eq_true, beq_iff_eq] at h3
    obtain ⟨e1, e2⟩ := h3
    have hc := (hx.cells rfl).length
    simp only [AVal.cells, List.length_cons, List.length_nil, Array.length_toList] at hc
    refine ⟨_, uv, h4, hv, by omega, hov, ?_, hlv, by omega, hov⟩
    subst e1
    have hd : u.cells.toList.drop (0 + uv.cells.toList.length) = [] := List.drop_eq_nil_of_le (by simp; omega)
    simp only [spliceV, hd, List.take_zero, List.nil_append, List.append_nil]

theorem store_good {CR : Code → ACode → Prop} {size : Nat} {p v : AVal} {heap : List AObj} {K : List AObj → α} (h : good (storeA fail size p v heap K)) {E : Env} {u uv : Value} (hp : VRel p E u) (hv : VRel v E uv) (H : HRel CR E heap w)
    {t : TypeId} (hs : sizeT P t = some size) :
    ∃ heap' w', good (K heap') ∧ (Instr.storeAt t u uv).run P w = .ok () w' ∧ HRel CR E heap' w' ∧ Step E heap w E heap' w' := by
  cases p <;> simp only [storeA] at h <;> first | (exact absurd h hf) | skip
  rename_i b esz i o
  split at h
  · rename_i esz' es hb
    obtain ⟨h1, h2⟩ := need_good hf h
    have e : esz = esz' := by simpa using h1
    subst e
    split at h2
    · rename_i x hx
      have hobj := H.obj b _ hb
      obtain ⟨r, c, t', k1, k2, k3⟩ := hobj
      obtain ⟨A, ux, B, l1, l2, l3, l4, l5, l6⟩ := k3.split hx
      simp only [VRel] at hp
      obtain ⟨r', m1, rfl⟩ := hp
      rw [k1] at m1; cases m1
      obtain ⟨x', u', n1, n2, n3, n4, n5, n6, n7, n8⟩ := put_good hf h2 l5 l4 hv
      have hsz : i * esz + o + uv.cells.toList.length ≤ c.size := by
        have : c.toList.length = A.length + ux.cells.toList.length + B.length := by rw [l1]; simp; omega
        simp at this ⊢; omega
      obtain ⟨w', c', q1, q2, q3, q4, q5, q6⟩ := run_storeCells (P := P) uv.cells.toList 0 (i * esz + o) w c k2 (by simpa using hsz) n8
      have hc' : c'.toList = A ++ u'.cells.toList ++ B := by
        rw [q3, l1, n5, Nat.add_zero, ← l2]
        exact spliceV_mid (by simp; omega)
      have hro : realOf E b (.rows esz es) = some r := k1
      refine ⟨_, w', n1, ?_, ?_⟩
      · simp only [Instr.storeAt, Instr.sureAddr, storeVar, Sem.run_bind, Sem.run_pure, Result.andThen_ok, run_sizeOf hs]
        rw [if_neg (by simp; omega)]
        simpa using q1
      · refine H.update hb (.refl E) (fun _ _ => rfl) (fun _ _ _ => rfl) (by omega) (fun k hk hr => q4 k (fun e => hr (by rw [hro, e]))) (fun z hz => .inl (by simpa [realOf] using hz)) ?_ ?_ (fun _ _ _ _ => rfl) ?_ ?_ q6
        · exact ⟨r, c', t', k1, q2, by rw [hc']; exact l6 x' u' n2 (by omega) n4⟩
        · intro r' o' v' hv'
          have hne : r' ≠ r := fun e => by
            have := H.sep b _ r hb hro (fun _ _ e => by cases e) o'
            rw [← e, hv'] at this; cases this
          simp only [World.cell?]
          rw [q4 r' hne]
          exact H.fz r' o' v' hv'
        · intro z hz _ off
          have : z = r := by have : E.ρ b = some z := hz; rw [k1] at this; cases this; rfl
          subst this
          exact H.sep b _ z hb hro (fun _ _ e => by cases e) off
        · intro n x hx
          obtain ⟨_, ho, hn⟩ := H.domt b n x hx
          rw [hb] at ho; cases ho
          simpa only [TauOK, List.length_set] using hn
    · exact absurd h2 hf
  · exact absurd h hf
end store

end Go.Ai
