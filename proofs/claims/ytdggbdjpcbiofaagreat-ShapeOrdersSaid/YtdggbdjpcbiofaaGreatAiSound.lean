/- Every operation but a call is sound. -/
import Derived.Test.YtdggbdjpcbiofaaGreatAiStep
namespace Go.Ai

theorem tzOk_ok {tz : List (Nat × Nat)} (h : tzOk tz = true) : ∀ p ∈ tz, 0 < p.2 := by
  simpa [tzOk] using h

theorem optOk_rel {x : Option Operand} {y : Option Arg} (h : optOk x y = true) {E : Env} {st : St} {a : Act} (T : TRel E st.tmps a.tmps) :
    (∀ v, y.map st.ev = some v → ∃ u, x.map a.eval = some u ∧ VRel v E u) ∧ (y.map st.ev = none → x.map a.eval = none) := by
  unfold optOk at h
  split at h
  · simp
  · refine ⟨fun v hv => ?_, fun hv => by simp at hv⟩
    simp at hv; subst hv
    exact ⟨_, rfl, argOk_rel h T⟩
  · cases h

theorem mkV {α : Type} {good : α → Prop} {P : Program} {w : World} {CR : Code → ACode → Prop} {E : Env} {heap : List AObj} {K : AVal → List AObj → α} {s : Sem Value} (H : HRel CR E heap w)
    (h : ∃ z r, good (K z heap) ∧ s.run P w = .ok r w ∧ VRel z E r) : OpOK good CR K E heap w ((do pure (Next.value (← s)) : Sem Next).run P w) := by
  obtain ⟨z, r, h1, h2, h3⟩ := h
  exact .quiet H h1 h3 (run_v h2)

theorem wrap_small {n : Int} (h0 : 0 ≤ n) (h : n ≤ 1048576) : IntKind.i64.wrap n = n := by
  have e1 : n % (18446744073709551616 : Int) = n := Int.emod_eq_of_lt h0 (by omega)
  have e2 : ¬ (n ≥ (9223372036854775808 : Int)) := by omega
  show (if (true && decide (n % (18446744073709551616 : Int) ≥ (9223372036854775808 : Int))) = true then n % (18446744073709551616 : Int) - (18446744073709551616 : Int) else n % (18446744073709551616 : Int)) = n
  simp only [e1, decide_eq_false e2, Bool.and_false, Bool.false_eq_true, if_false]

section
variable {α : Type} {good : α → Prop} {P : Program} {w : World} {CR : Code → ACode → Prop} {E : Env}

theorem zeroCells_flat (v : Value) (n : Nat) : (Builtin.zeroCells v.cells n).toList = flatC (List.replicate n v) := by
  have this : ∀ m : Nat, (List.range (m * v.cells.size)).map (fun x => v.cells[x % v.cells.size]!) = flatC (List.replicate m v) := by
    intro m
    induction m with
    | zero => simp [flatC]
    | succ m ih =>
      rw [Nat.succ_mul, List.range_add, List.map_append, ih, List.replicate_succ', flatC_append]
      congr 1
      simp only [flatC, List.flatMap_cons, List.flatMap_nil, List.append_nil, List.map_map]
      refine List.ext_getElem (by simp) fun j hj1 hj2 => ?_
      have hj : j < v.cells.size := by simpa using hj1
      simp only [List.getElem_map, List.getElem_range, Function.comp]
      have e2 : (m * v.cells.size + j) % v.cells.size = j := by rw [Nat.mul_comm, Nat.mul_add_mod, Nat.mod_eq_of_lt hj]
      rw [e2, getElem!_pos v.cells j (by omega)]
      simp
  simpa [Builtin.zeroCells] using this n

theorem clear_good {fail : α} (hf : ¬ good fail) {heap : List AObj} {ty : TypeId} {esz : Nat} {z x : AVal} {K : AVal → List AObj → α} (h : good (match x with
    | .nils => K (.tuple []) heap
    | .emp => K (.tuple []) heap
    | .fs _ [] _ => K (.tuple []) heap
    | .hs b esz1 i len => match heap[b]? with
      | some (.rows esz' es) => cond (esz1 == esz' && esz1 == esz && Nat.ble (i + len) es.length) (K (.tuple []) (heap.set b (.rows esz' (es.take i ++ List.replicate len z ++ es.drop (i + len))))) fail
      | _ => fail
    | _ => fail)) {u : Value} (hx : VRel x E u) (H : HRel CR E heap w) {t e : TypeId} (he : P.underlying t = some (.slice e)) {v : Value} (hz : ∀ W : World, (zeroValue e).run P W = .ok v W) (hv : VRel z E v ∧ oneC v) (hs : v.cells.size = esz) :
    ∃ h' w', good (K (.tuple []) h') ∧ (Builtin.clear_ #[t] ty #[u]).run P w = .ok (.tuple #[]) w' ∧ HRel CR E h' w' ∧ Step E heap w E h' w' := by
  have hu := run_underlying' (w := w) he
  have hnil : ∀ {a : Option Addr} {c : Nat}, u = .slice a 0 c → (Builtin.clear_ #[t] ty #[u]).run P w = .ok (.tuple #[]) w := by
    intro a c e
    subst e
    cases a <;> simp [Builtin.clear_, hu]
  split at h
  · simp only [VRel] at hx; exact ⟨_, w, h, hnil hx, H, .refl _ _ _⟩
  · simp only [VRel] at hx; obtain ⟨a, hx⟩ := hx; exact ⟨_, w, h, hnil hx, H, .refl _ _ _⟩
  · simp only [VRel] at hx; obtain ⟨a, cap, hx, _⟩ := hx; exact ⟨_, w, h, hnil hx, H, .refl _ _ _⟩
  · rename_i b esz1 i len
    split at h
    · rename_i esz' es hb
      obtain ⟨h1, h2⟩ := need_good hf h
      simp only [Bool.and_eq_true, beq_iff_eq, Nat.ble_eq] at h1
      obtain ⟨⟨e1, e2⟩, hlen⟩ := h1
      subst e1; subst e2
      simp only [VRel] at hx
      obtain ⟨r, a, cap, m1, rfl, m2, m3⟩ := hx
      by_cases h0 : len = 0
      · subst h0
        have hsame : es.take i ++ List.replicate 0 z ++ es.drop (i + 0) = es := by simp
        rw [hsame] at h2
        have hset : heap.set b (.rows esz1 es) = heap := by
          apply List.ext_getElem?
          intro k
          rw [List.getElem?_set]
          split
          · rename_i e; subst e
            split
            · exact hb.symm
            · rename_i hlt; rw [List.getElem?_eq_none (by omega)]
          · rfl
        rw [hset] at h2
        exact ⟨_, w, h2, hnil rfl, H, .refl _ _ _⟩
      · have hobj := H.obj b _ hb
        obtain ⟨r', c, t', k1, k2, k3⟩ := hobj
        rw [k1] at m1; cases m1
        obtain ⟨us, rest, l1, l2, l3⟩ := k3.vals
        have hul := l1.length
        have ha := m3 (by omega)
        have hz1 : Sized esz1 (List.replicate len v) := fun y hy => by rw [List.eq_of_mem_replicate hy]; exact ⟨hs, hv.2⟩
        have hfl := flatC_length hz1
        rw [List.length_replicate] at hfl
        have hcl : c.toList.length = us.length * esz1 + rest.length := by rw [l3, List.length_append, flatC_length l2]
        have hmul : (i + len) * esz1 ≤ us.length * esz1 := Nat.mul_le_mul_right _ (by omega)
        rw [Nat.add_mul] at hmul
        have hone : ∀ y ∈ flatC (List.replicate len v), y.oneCell' = true := flatC_one hz1
        obtain ⟨w', c', q1, q2, q3, q4, q5, q6⟩ := run_storeCells (P := P) (flatC (List.replicate len v)) 0 (i * esz1) w c k2 (by simp at hcl; omega) hone
        rw [Nat.add_zero] at q3
        have htk : (flatC (us.take i)).length = i * esz1 := by
          rw [flatC_length (l2.take i), List.length_take, Nat.min_eq_left (by omega)]
        have hc' : c'.toList = flatC (us.take i ++ List.replicate len v ++ us.drop (i + len)) ++ rest := by
          rw [q3, l3]
          have hsp : flatC us ++ rest = flatC (us.take i) ++ (flatC ((us.drop i).take len) ++ (flatC (us.drop (i + len)) ++ rest)) := by
            rw [← List.append_assoc (flatC ((us.drop i).take len)), ← List.append_assoc (flatC (us.take i)), ← flatC_append, ← flatC_append]
            congr 2
            rw [← List.drop_drop, List.take_append_drop, List.take_append_drop]
          have hml : (flatC ((us.drop i).take len)).length = len * esz1 := by
            rw [flatC_length ((l2.drop i).take len), List.length_take, List.length_drop, Nat.min_eq_left (by omega)]
          rw [hsp]
          have := spliceV_mid (A := flatC (us.take i)) (M := flatC ((us.drop i).take len)) (B := flatC (us.drop (i + len)) ++ rest) (o := 0) (vs := flatC (List.replicate len v)) (by omega)
          rw [Nat.add_zero, htk] at this
          rw [← List.append_assoc, this]
          simp only [spliceV, List.take_zero, List.nil_append, Nat.zero_add, flatC_append, List.append_assoc]
          rw [List.drop_eq_nil_of_le (by omega)]
          simp
        have hro : realOf E b (.rows esz1 es) = some r := k1
        refine ⟨_, w', h2, ?_, ?_⟩
        · subst ha
          have hz' := hz w
          have hzc := zeroCells_flat v len
          have hlen0 : len ≠ 0 := h0
          cases len with
          | zero => exact absurd rfl hlen0
          | succ n =>
            simp only [Builtin.clear_, List.getElem?_toArray, List.getElem?_cons_zero, Sem.run_bind, hu, Result.andThen_ok, hz', Sem.run_pure, hzc, q1]
        · refine H.update hb (.refl E) (fun _ _ => rfl) (fun _ _ _ => rfl) (by omega) (fun k hk hr => q4 k (fun e => hr (by rw [hro, e]))) (fun y hy => .inl (by simpa [realOf] using hy)) ?_ ?_ (fun _ _ _ _ => rfl) ?_ ?_ q6
          · refine ⟨r, c', t', k1, q2, ?_⟩
            rw [hc']
            refine rows_of rest ?_ ?_
            · refine ((l1.take i).append ?_).append (l1.drop (i + len))
              clear h2 hfl hone q1 q3 hc' hz1
              induction len with
              | zero => simp [VRels]
              | succ n ih =>
                simp only [List.replicate_succ, VRels]
                exact ⟨v, _, rfl, hv.1, by
                  have : ∀ m : Nat, VRels (List.replicate m z) E (List.replicate m v) := by
                    intro m
                    induction m with
                    | zero => simp [VRels]
                    | succ m im => simp only [List.replicate_succ, VRels]; exact ⟨v, _, rfl, hv.1, im⟩
                  exact this n⟩
            · exact ((l2.take i).append hz1).append (l2.drop (i + len))
          · intro r' o' v' hv'
            have hne : r' ≠ r := fun e => by
              have := H.sep b _ r hb hro (fun _ _ e => by cases e) o'
              rw [← e, hv'] at this; cases this
            simp only [World.cell?]
            rw [q4 r' hne]
            exact H.fz r' o' v' hv'
          · intro y hy _ off
            have : y = r := by have : E.ρ b = some y := hy; rw [k1] at this; cases this; rfl
            subst this
            exact H.sep b _ y hb hro (fun _ _ e => by cases e) off
          · intro n y hy
            obtain ⟨_, ho, hn⟩ := H.domt b n y hy
            rw [hb] at ho; cases ho
            refine ⟨?_, fun e => hn.2 ?_⟩
            · have := hn.1; simp at this ⊢; omega
            · simp at e ⊢; omega
    · exact absurd h hf
  · exact absurd h hf

set_option maxHeartbeats 1000000 in
theorem op_sound {C : Cfg α} (hf : ¬ good C.fail) {eqs : List TypeId} (EQ : ∀ t, eqs.contains t = true → EqPlain P t) {o : Oper} {ao : AOp} {st : St} {a : Act} (hk : chkOp P eqs o ao = true) (T : TRel E st.tmps a.tmps) (H : HRel CR E st.heap w)
    {K : AVal → List AObj → α} (h : good (opA C ao st K)) : OpOK good CR K E st.heap w ((execOp a.eval o).run P w) := by
  unfold chkOp at hk
  split at hk <;> dsimp only [opA] at h
  · -- move
    rename_i x y heq
    simp only [execOp, heq, Sem.run_pure]
    exact .quiet H h (argOk_rel hk T) rfl
  · rename_i x y heq
    simp only [execOp, heq, Sem.run_pure]
    exact .quiet H h (argOk_rel hk T) rfl
  · rename_i x esz y heq
    simp only [Bool.and_eq_true, decide_eq_true_eq] at hk
    simp only [execOp, heq, Sem.run_pure]
    obtain ⟨v', h', E', k1, k2, k3, k4, _⟩ := tokV_good hf (tz := [(0, esz)]) (by simpa using hk.1) h H (argOk_rel hk.2 T)
    exact ⟨v', _, h', E', w, k1, .inl rfl, k2, k3, k4⟩
  · rename_i x esz y heq
    simp only [Bool.and_eq_true, decide_eq_true_eq] at hk
    simp only [execOp, heq, Sem.run_pure]
    obtain ⟨v', h', E', k1, k2, k3, k4, _⟩ := tokV_good hf (tz := [(0, esz)]) (by simpa using hk.1) h H (argOk_rel hk.2 T)
    exact ⟨v', _, h', E', w, k1, .inl rfl, k2, k3, k4⟩
  · -- pick
    rename_i c x y c' x' y' heq
    simp only [Bool.and_eq_true] at hk
    obtain ⟨t, ht, h⟩ := asB_good hf h
    have hc := argOk_rel hk.1.1 T
    rw [ht] at hc
    simp only [VRel] at hc
    simp only [execOp, heq, hc, asBool, Sem.run_bind, Sem.run_pure, Result.andThen_ok]
    cases t with
    | true => exact .quiet H h (argOk_rel hk.1.2 T) rfl
    | false => exact .quiet H h (argOk_rel hk.2 T) rfl
  · -- alloc
    rename_i t esz z tz heq
    simp only [Bool.and_eq_true] at hk
    obtain ⟨v, k1, k2, k3, k4⟩ := zeroOk_ok hk.1
    have hv := vEq_rel k2 E
    obtain ⟨z', h', E', m1, m2, m3, m4, _⟩ := tokV_good hf (tzOk_ok hk.2) h H hv.1
    obtain ⟨n1, n2⟩ := push_rows m3 (esz := esz) (es := [z']) (c := v.cells) (t := t) ⟨v, [], m2, k3, hv.2, by simp, trivial⟩
    refine ⟨_, .pointer (some ⟨w.heap.size, 0, none⟩), _, _, _, m1, .inl ?_, ?_, n1, m4.trans n2⟩
    · simp only [execOp, heq]
      refine run_v ?_
      simp only [Instr.alloc, Sem.run_bind, k1, Result.andThen_ok, newVar, newRow, run_newObj, Sem.run_pure]
      rfl
    · simp only [VRel]
      exact ⟨w.heap.size, by simp [Env.add], by simp⟩
  · -- box
    rename_i t x y tz heq
    simp only [Bool.and_eq_true] at hk
    obtain ⟨hs, h⟩ := need_good hf h
    have hv := argOk_rel hk.1 T
    obtain ⟨z', h', E', m1, m2, m3, m4, m5⟩ := tokV_good hf (tzOk_ok hk.2) h H hv
    have hl : (a.eval x).cells.size = (st.ev y).cells.length := by have := (hv.cells hs).length; simpa using this
    obtain ⟨n1, n2⟩ := push_rows m3 (esz := (st.ev y).cells.length) (es := [z']) (c := (a.eval x).cells) (t := t) ⟨a.eval x, [], m2, hl, storable_one hv hs, by simp, trivial⟩
    refine ⟨_, .pointer (some ⟨w.heap.size, 0, none⟩), _, _, _, m1, .inl ?_, ?_, n1, m4.trans n2⟩
    · simp only [execOp, heq]
      refine run_v ?_
      simp only [Instr.box, newVar, newRow, Sem.run_bind, run_newObj, Result.andThen_ok, Sem.run_pure]
      rfl
    · simp only [VRel]
      exact ⟨w.heap.size, by simp [Env.add], by simp⟩
  · -- build
    rename_i t parts z qs heq
    simp only [Bool.and_eq_true] at hk
    obtain ⟨v, k1, k2⟩ := zeroV_ok hk.1
    have hk2 := hk.2
    split at hk2
    · rename_i fs cs hfs
      simp only [Bool.and_eq_true] at hk2
      have ht := structT_ok hfs
      have hv := vEq_rel k2 E
      have hagg : ∃ c, v = .agg c := by
        have := hv.1; simp only [VRel] at this; obtain ⟨c, e, _⟩ := this; exact ⟨c, e⟩
      obtain ⟨c, rfl⟩ := hagg
      have hsz : ∀ f ∈ fs.toList, ∃ n, sizeT P f.type = some n := by
        intro f hfm
        have := List.all_eq_true.1 hk2.1 f hfm
        exact Option.isSome_iff_exists.1 this
      have hmap : ∀ W : World, ∃ places : Array (Nat × Nat), ((fs.mapM fun (f : Field) => do pure (f.offset, ← sizeOf f.type)) : Sem (Array (Nat × Nat))).run P W = .ok places W ∧ ∀ (i : Nat) (f : Field) (sz : Nat), fs[i]? = some f → sizeT P f.type = some sz → places[i]? = some (f.offset, sz) := by
        intro W
        have key : ∀ (l : List Field) (_ : ∀ f ∈ l, ∃ n, sizeT P f.type = some n), ∃ ps : List (Nat × Nat), ((l.mapM fun (f : Field) => do pure (f.offset, ← sizeOf f.type)) : Sem (List (Nat × Nat))).run P W = .ok ps W ∧ ∀ (i : Nat) (f : Field) (sz : Nat), l[i]? = some f → sizeT P f.type = some sz → ps[i]? = some (f.offset, sz) := by
          intro l
          induction l with
          | nil => intro _; exact ⟨[], by simp, by simp⟩
          | cons f l ih =>
            intro hl
            obtain ⟨n, hn⟩ := hl f (by simp)
            obtain ⟨ps, p1, p2⟩ := ih (fun g hg => hl g (by simp [hg]))
            refine ⟨(f.offset, n) :: ps, by simp only [List.mapM_cons, Sem.run_bind, run_sizeOf hn, p1, Result.andThen_ok, Sem.run_pure], ?_⟩
            intro i g sz hi hg
            cases i with
            | zero => simp at hi; subst hi; rw [hn] at hg; cases hg; rfl
            | succ i => simpa using p2 i g sz (by simpa using hi) hg
        obtain ⟨ps, p1, p2⟩ := key fs.toList hsz
        refine ⟨ps.toArray, ?_, fun i f sz hi hs => by simpa using p2 i f sz (by simpa using hi) hs⟩
        rw [← Array.toArray_toList (xs := fs), List.mapM_toArray]
        simp only [Sem.run_map, p1, Result.andThen_ok]
      obtain ⟨places, p1, p2⟩ := hmap w
      obtain ⟨v', c', q1, q2, q3⟩ := fill_good hf (P := P) T (fun i => places[i]?) p2 hk2.2 h (c := c) hv.1 (fun v hv' => hv.2 v (by simpa [Value.cells] using hv'))
      refine .quiet H q1 q3 ?_
      simp only [execOp, heq]
      refine run_v ?_
      have hps : ((parts.map fun (p : Nat × Operand) => (p.1, a.eval p.2))).toList = parts.toList.map fun p => (p.1, a.eval p.2) := by simp
      simp only [Instr.build, Sem.run_bind, k1, Result.andThen_ok, run_underlying' ht, p1, hps, Value.cells, q2, Sem.run_pure]
    · simp at hk2
  · -- lit
    rename_i t len parts esz ys heq
    obtain ⟨hp, h⟩ := need_good hf h
    obtain ⟨e0, z0, l1, l2, l3, l4, l5, l6, l7, l8⟩ := litOk_ok hk
    have hv := argsOk_rel l5 T
    have hz := parts_sized hv hp
    obtain ⟨e, k1, k2⟩ := run_lit (w := w) hk (a := a) (us := (parts.toList.map (·.2)).map a.eval) (by simp) hz
    have hrun : (execOp a.eval o).run P w = .ok (.value (.slice (some ⟨w.heap.size, 0, none⟩) len len)) (w.alloc (.cells (flatC ((parts.toList.map (·.2)).map a.eval)).toArray e)) := by
      simp only [execOp, heq]
      refine run_v ?_
      have hps : (parts.map fun (p : Nat × Operand) => (p.1, a.eval p.2)) = (parts.toList.map fun p => (p.1, a.eval p.2)).toArray := by
        apply Array.ext'; simp
      rw [hps]; exact k1
    have hlen := hv.length
    simp only [List.length_map] at hlen
    have hpl : parts.toList.length = len := by simpa using k2
    split at h
    · -- the empty literal
      have hl0 : len = 0 := by rw [← hpl]; simp at hlen ⊢; exact hlen
      obtain ⟨H', S⟩ := H.grow (f := E.fz) (w' := w.alloc (.cells (flatC ((parts.toList.map (·.2)).map a.eval)).toArray e)) (by simp) (alloc_old w _) (fun _ _ _ h => h) (fun _ _ _ => rfl) (fun r o v hr hv => by have := H.fz_lt hv; omega)
      refine ⟨_, _, _, _, _, h, .inl hrun, ?_, H', S⟩
      simp only [VRel]; exact ⟨_, by rw [hl0]⟩
    · rename_i hne
      have hc : (flatC ((parts.toList.map (·.2)).map a.eval)).toArray.toList = flatC ((parts.toList.map (·.2)).map a.eval) := rfl
      obtain ⟨H', S⟩ := H.grow (f := frz E w.heap.size (flatC ((parts.toList.map (·.2)).map a.eval)) (len * esz)) (w' := w.alloc (.cells (flatC ((parts.toList.map (·.2)).map a.eval)).toArray e)) (by simp) (alloc_old w _)
        (frz_le H _ _) (fun r o hr => by simp only [frz]; rw [if_neg (by omega)])
        (fun r o v hr hv' => by
          simp only [frz] at hv'
          split at hv'
          · rename_i e1
            split at hv'
            · rw [e1, World.cell?_alloc_new]; simpa using hv'
            · cases hv'
          · have := H.fz_lt hv'; omega)
      refine ⟨_, _, _, _, _, h, .inl hrun, ?_, H', S⟩
      have hkl : (killL 0 (ys.map st.ev)).length = len := by rw [killL_eq, List.length_map, List.length_map, ← hlen]; simpa using hpl
      have hel : Elems (killL 0 (ys.map st.ev)) (Env.bare ⟨E.ρ, E.τ, frz E w.heap.size (flatC ((parts.toList.map (·.2)).map a.eval)) (len * esz)⟩) esz w.heap.size 0 := by
        have hv0 := hv.kill 0
        rw [Env.cut_zero] at hv0
        refine elems_new (c := flatC ((parts.toList.map (·.2)).map a.eval)) (rest := []) hv0 (Env.le.bare S.le) hz (by simp) (fun o ho => ?_)
        simp only [Env.bare, frz, if_true]
        rw [if_pos (by simpa [hpl] using ho)]
      simp only [VRel]
      exact ⟨_, len, by rw [hkl], by rw [hkl]; exact Nat.le_refl _, fun _ => ⟨_, _, rfl, hel⟩, fun b hb => by cases hb⟩
  · -- litOwn
    rename_i t len parts esz ys heq
    obtain ⟨hp, h⟩ := need_good hf h
    obtain ⟨e0, z0, l1, l2, l3, l4, l5, l6, l7, l8⟩ := litOk_ok hk
    have hv := argsOk_rel l5 T
    have hz := parts_sized hv hp
    obtain ⟨e, k1, k2⟩ := run_lit (w := w) hk (a := a) (us := (parts.toList.map (·.2)).map a.eval) (by simp) hz
    have hrun : (execOp a.eval o).run P w = .ok (.value (.slice (some ⟨w.heap.size, 0, none⟩) len len)) (w.alloc (.cells (flatC ((parts.toList.map (·.2)).map a.eval)).toArray e)) := by
      simp only [execOp, heq]
      refine run_v ?_
      have hps : (parts.map fun (p : Nat × Operand) => (p.1, a.eval p.2)) = (parts.toList.map fun p => (p.1, a.eval p.2)).toArray := by
        apply Array.ext'; simp
      rw [hps]; exact k1
    have hlen := hv.length
    simp only [List.length_map] at hlen
    have hpl : parts.toList.length = len := by simpa using k2
    split at h
    · have hl0 : len = 0 := by rw [← hpl]; simp at hlen ⊢; exact hlen
      obtain ⟨H', S⟩ := H.grow (f := E.fz) (w' := w.alloc (.cells (flatC ((parts.toList.map (·.2)).map a.eval)).toArray e)) (by simp) (alloc_old w _) (fun _ _ _ h => h) (fun _ _ _ => rfl) (fun r o v hr hv => by have := H.fz_lt hv; omega)
      refine ⟨_, _, _, _, _, h, .inl hrun, ?_, H', S⟩
      simp only [VRel]; exact ⟨_, by rw [hl0]⟩
    · rename_i hne
      obtain ⟨H', S⟩ := push_rows H (esz := esz) (es := ys.map st.ev) (c := (flatC ((parts.toList.map (·.2)).map a.eval)).toArray) (t := e) (by simpa using rows_of [] hv hz)
      refine ⟨_, _, _, _, _, h, .inl hrun, ?_, H', S⟩
      have : ys.length = len := by rw [← hpl]; simpa using hlen.symm
      simp only [VRel]
      exact ⟨w.heap.size, ⟨w.heap.size, 0, none⟩, len, by simp [Env.add], by rw [this], by omega, fun _ => by simp⟩
  · -- litTok
    rename_i t len parts esz ys heq
    obtain ⟨hp, h⟩ := need_good hf h
    obtain ⟨e0, z0, l1, l2, l3, l4, l5, l6, l7, l8⟩ := litOk_ok hk
    have hv := argsOk_rel l5 T
    have hz := parts_sized hv hp
    obtain ⟨e, k1, k2⟩ := run_lit (w := w) hk (a := a) (us := (parts.toList.map (·.2)).map a.eval) (by simp) hz
    have hrun : (execOp a.eval o).run P w = .ok (.value (.slice (some ⟨w.heap.size, 0, none⟩) len len)) (w.alloc (.cells (flatC ((parts.toList.map (·.2)).map a.eval)).toArray e)) := by
      simp only [execOp, heq]
      refine run_v ?_
      have hps : (parts.map fun (p : Nat × Operand) => (p.1, a.eval p.2)) = (parts.toList.map fun p => (p.1, a.eval p.2)).toArray := by
        apply Array.ext'; simp
      rw [hps]; exact k1
    have hlen := hv.length
    simp only [List.length_map] at hlen
    have hpl : parts.toList.length = len := by simpa using k2
    split at h
    · exact absurd h hf
    · rename_i hne
      have hn0 : ¬ len = 0 := fun e => hne (List.eq_nil_of_length_eq_zero (by rw [← hlen]; simpa [hpl] using e))
      have hyl : ys.length = len := by rw [← hlen]; simpa using hpl
      generalize hus : (parts.toList.map (·.2)).map a.eval = us at hrun hz k1 hv
      have hul : us.length = len := by rw [← hus]; simpa using hpl
      have hle := frz_le H (flatC us) (len * esz)
      have hle' := H.add_le (r := none) (t := fun k => if k = len then some (w.heap.size, len) else none) hle
      obtain ⟨H', S⟩ := H.push (o := .tok esz len) (r := none) (t := fun k => if k = len then some (w.heap.size, len) else none) (f := frz E w.heap.size (flatC us) (len * esz)) (w' := w.alloc (.cells (flatC us).toArray e))
        (by simp) (alloc_old w _) hle (fun r o hr => by simp only [frz]; rw [if_neg (by omega)])
        (fun r o v hr hv' => by
          simp only [frz] at hv'
          split at hv'
          · rename_i e1
            split at hv'
            · rw [e1, World.cell?_alloc_new]; simpa using hv'
            · cases hv'
          · have := H.fz_lt hv'; omega)
        (fun r' hr' => by
          simp only [realOf, Env.add, if_true, hn0, if_false, Option.map_some] at hr'
          cases hr'
          exact ⟨Nat.le_refl _, fun h => absurd rfl (h esz len)⟩)
        ⟨l3, fun _ => ⟨w.heap.size, len, _, e, by simp [Env.add], alloc_new w _, by simp [flatC_length hz, hul], Nat.le_refl _, fun o ho => by simp only [Env.add, frz, if_true]; rw [if_neg (by omega)]⟩⟩
        (fun n x hx => by
          split at hx
          · rename_i e; (show n ≤ len; omega)
          · cases hx)
      rw [hyl] at h
      refine ⟨_, _, _, _, _, h, .inl hrun, ?_, H', S⟩
      have hkl : (killL 0 (ys.map st.ev)).length = len := by rw [killL_eq, List.length_map, List.length_map]; exact hyl
      have hel : Elems (killL 0 (ys.map st.ev)) (E.add st.heap.length none (fun k => if k = len then some (w.heap.size, len) else none) (frz E w.heap.size (flatC us) (len * esz))).bare esz w.heap.size 0 := by
        have hv0 := hv.kill 0
        rw [Env.cut_zero] at hv0
        refine elems_new (c := flatC us) (rest := []) hv0 hle'.bare hz (by simp) (fun o ho => ?_)
        simp only [Env.bare, Env.add, frz, if_true]
        rw [if_pos (by simpa [hul] using ho)]
      simp only [VRel]
      exact ⟨_, len, by rw [hkl], by rw [hkl]; exact Nat.le_refl _, fun _ => ⟨_, _, rfl, hel⟩, fun b hb => ⟨fun h => absurd (by rw [← hkl, h]; rfl) hn0, fun _ => ⟨w.heap.size, by cases hb; rw [hkl]; simp [Env.add], rfl⟩⟩⟩
  · -- load
    rename_i t p agg size q heq
    simp only [Bool.and_eq_true, decide_eq_true_eq] at hk
    obtain ⟨v, u, k1, k2, k3⟩ := load_good hf (w := w) h (argOk_rel hk.2 T) H hk.1.1 hk.1.2
    exact .quiet H k1 k3 (by simp only [execOp, heq]; exact run_v k2)
  · -- store
    rename_i t p v size q z tz heq
    simp only [Bool.and_eq_true, decide_eq_true_eq] at hk
    obtain ⟨z', h', E', m1, m2, m3, m4, _⟩ := tokV_good hf (tzOk_ok hk.2) h H (argOk_rel hk.1.2 T)
    obtain ⟨h'', w', n1, n2, n3, n4⟩ := store_good hf m1 ((argOk_rel hk.1.1.2 T).mono _ m4.le) m2 m3 hk.1.1.1
    exact ⟨_, undef, h'', E', w', n1, .inr ⟨by simp only [execOp, heq]; exact run_u n2, rfl⟩, by simp [VRel], n3, m4.trans n4⟩
  · -- nilCheck
    rename_i x y heq
    have hv := argOk_rel hk T
    simp only [execOp, heq]
    split at h
    · rename_i b esz i o' hy
      rw [hy] at hv
      have hv' := hv
      simp only [VRel] at hv
      obtain ⟨r, _, e⟩ := hv
      rw [e] at hv' ⊢
      exact .quiet H h hv' rfl
    · rename_i esz xs i o' hy
      rw [hy] at hv
      have hv' := hv
      simp only [VRel] at hv
      obtain ⟨r, off, e, _⟩ := hv
      rw [e] at hv' ⊢
      exact .quiet H h hv' rfl
    · exact absurd h hf
  · -- binOp
    rename_i op t x y ty op' ek x' y' heq
    simp only [Bool.and_eq_true, decide_eq_true_eq, Bool.or_eq_true, beq_iff_eq] at hk
    obtain ⟨⟨⟨rfl, hk1⟩, hk2⟩, hk3⟩ := hk
    simp only [execOp, heq]
    exact mkV H (bin_good hf h (hk1.imp id fun ⟨⟨e, hz⟩, ht⟩ => ⟨ek - 6, by have := Nat.le_of_ble_eq_true e; omega, hz, EQ t ht⟩) (argOk_rel hk2 T) (argOk_rel hk3 T) x y)
  · -- unOp
    rename_i op t x op' x' heq
    simp only [Bool.and_eq_true, decide_eq_true_eq] at hk
    obtain ⟨rfl, hk1⟩ := hk
    simp only [execOp, heq]
    exact mkV H (un_good hf h (argOk_rel hk1 T))
  · -- convert
    rename_i src dst x k y heq
    simp only [Bool.and_eq_true, decide_eq_true_eq] at hk
    obtain ⟨⟨hk1, hk2⟩, hk3⟩ := hk
    obtain ⟨ks, hks⟩ := Option.isSome_iff_exists.1 hk2
    obtain ⟨k', n, he, h⟩ := asI_good hf h
    have hv := argOk_rel hk3 T
    rw [he] at hv
    simp only [VRel] at hv
    simp only [execOp, heq, hv]
    refine mkV H (mkR h (by simp only [VRel]; rfl) ?_)
    simp [convert, run_underlying' (intT_ok hks), run_underlying' (intT_ok hk1), Conv.intToInt]
  · -- makeFunc
    rename_i f first caps f' first' caps' heq
    simp only [Bool.and_eq_true, beq_iff_eq] at hk
    obtain ⟨⟨rfl, hk1⟩, hk2⟩ := hk
    simp only [execOp, heq]
    refine mkV H (mkR h (by simp only [VRel]; exact ⟨first.map a.eval, caps.map a.eval, rfl, by simpa using argsOk_rel hk1 T, by simpa using argsOk_rel hk2 T⟩) ?_)
    simp [Instr.makeFunc]
  · -- makeMap
    rename_i t heq
    obtain ⟨H', S⟩ := push_map H
    refine ⟨_, .map (some w.heap.size), _, _, _, h, .inl ?_, ?_, H', S⟩
    · simp only [execOp, heq]
      refine run_v ?_
      simp only [Instr.makeMap, Option.map_none, Sem.run_bind, run_newObj, Result.andThen_ok, Sem.run_pure]
      rfl
    · simp only [VRel]
      exact ⟨w.heap.size, by simp [Env.add], rfl⟩
  · -- makeSlice
    rename_i t l c esz z l' c' heq
    simp only [Bool.and_eq_true] at hk
    obtain ⟨⟨hk1, hk2⟩, hk3⟩ := hk
    split at hk1
    · rename_i e he
      simp only [Bool.and_eq_true, decide_eq_true_eq] at hk1
      obtain ⟨⟨hz0, h0⟩, hb⟩ := hk1
      split at hb
      · rename_i i hi
        obtain ⟨v, q1, q2, q3, q4⟩ := zeroOk_ok hz0
        obtain ⟨k1, n1, e1, h⟩ := asI_good hf h
        obtain ⟨k2, n2, e2, h⟩ := asI_good hf h
        obtain ⟨h1, h'⟩ := need_good hf h
        clear h
        simp only [Bool.and_eq_true, decide_eq_true_eq] at h1
        obtain ⟨⟨p1, rfl⟩, p2⟩ := h1
        have hb := of_decide_eq_true hb
        have r1 := argOk_rel hk2 T
        have r2 := argOk_rel hk3 T
        rw [e1] at r1; rw [e2] at r2
        simp only [VRel] at r1 r2
        have hvq := vEq_rel q2 E
        have hwrap : IntKind.i64.wrap n1 = n1 := wrap_small p1 p2
        have hti : (typeInfo e).run P w = .ok i w := by simp [typeInfo, hi]
        have hcells : ((Array.range (n1.toNat * esz)).map fun x => v.cells[x % v.cells.size]!).toList = flatC (List.replicate n1.toNat v) := by
          have : ∀ m : Nat, (List.range (m * esz)).map (fun x => v.cells[x % v.cells.size]!) = flatC (List.replicate m v) := by
            intro m
            induction m with
            | zero => simp [flatC]
            | succ m ih =>
              rw [Nat.succ_mul, List.range_add, List.map_append, ih, List.replicate_succ', flatC_append]
              congr 1
              simp only [flatC, List.flatMap_cons, List.flatMap_nil, List.append_nil, List.map_map]
              refine List.ext_getElem (by simp [q3]) fun j hj1 hj2 => ?_
              have hj : j < esz := by simpa using hj1
              simp only [List.getElem_map, List.getElem_range, Function.comp]
              have e2 : (m * esz + j) % v.cells.size = j := by rw [q3, Nat.mul_comm, Nat.mul_add_mod, Nat.mod_eq_of_lt hj]
              rw [e2, getElem!_pos v.cells j (by omega)]
              simp
          simpa using this n1.toNat
        have hrows : RowsRel E esz (List.replicate n1.toNat z) (((Array.range (n1.toNat * esz)).map fun x => v.cells[x % v.cells.size]!).toList) := by
          rw [hcells]
          have hvr : ∀ m, VRels (List.replicate m z) E (List.replicate m v) := by
            intro m; induction m with
            | zero => simp [VRels]
            | succ m ih => simp only [List.replicate_succ, VRels]; exact ⟨v, _, rfl, hvq.1, ih⟩
          have := rows_of [] (hvr n1.toNat) (esz := esz) (fun u hu => by rw [List.eq_of_mem_replicate hu]; exact ⟨q3, hvq.2⟩)
          simpa using this
        obtain ⟨H', S⟩ := push_rows H (t := e) hrows
        refine ⟨_, .slice (some ⟨w.heap.size, 0, none⟩) n1.toNat n1.toNat, _, _, _, h', .inl ?_, ?_, H', S⟩
        · simp only [execOp, heq, r1, r2]
          refine run_v ?_
          have hbig : ¬ ((i.bytes : Int) * n1 > 2 ^ 48) := by
            have h1 : (i.bytes : Int) * n1 ≤ 1048576 * 1048576 := by
              have := Int.mul_le_mul (show (i.bytes : Int) ≤ 1048576 by omega) p2 p1 (by omega)
              omega
            omega
          have hneg : ¬ (n1 < 0) := by omega
          have hgt : ¬ (n1 > n1) := by omega
          simp only [Instr.makeSlice, Sem.run_bind, run_underlying' (sliceElem_ok he), Result.andThen_ok, asInt, asIntOf, Sem.run_pure, hti, hwrap, decide_eq_false hneg, decide_eq_false hbig, decide_eq_false hgt, Bool.or_false, Bool.false_eq_true, if_false, run_askRoom, run_sizeOf q4]
          by_cases hz : n1.toNat * esz = 0
          · rw [if_pos hz]
            simp only [Sem.run_pure, Result.andThen_ok, newRow, Sem.run_bind, run_newObj]
            rw [hz, Array.range_zero', Array.map_empty, Array.map_empty]; rfl
          · rw [if_neg hz]
            simp only [Sem.run_bind, q1, Sem.run_pure, Result.andThen_ok, newRow, run_newObj]
            rfl
        · simp only [VRel]
          exact ⟨w.heap.size, ⟨w.heap.size, 0, none⟩, n1.toNat, by simp [Env.add], rfl, Nat.le_refl _, fun _ => by simp⟩
      · simp at hb
    · simp at hk1
  · -- slice
    rename_i t x lo hi esz y lo' hi' heq
    simp only [Bool.and_eq_true] at hk
    obtain ⟨⟨⟨hk1, hk2⟩, hk3⟩, hk4⟩ := hk
    split at hk1
    · rename_i e he
      have hk1 := of_decide_eq_true hk1
      simp only [execOp, heq]
      exact mkV H (slice_good hf (optOk_rel hk3 T).1 (optOk_rel hk3 T).2 (optOk_rel hk4 T).1 (optOk_rel hk4 T).2 h (argOk_rel hk2 T) (sliceElem_ok he) hk1)
    · cases hk1
  · rename_i t x lo hi y lo' hi' heq
    simp only [Bool.and_eq_true] at hk
    obtain ⟨⟨⟨hk1, hk2⟩, hk3⟩, hk4⟩ := hk
    simp only [execOp, heq]
    exact mkV H (sliceStr_good hf (optOk_rel hk3 T).1 (optOk_rel hk3 T).2 (optOk_rel hk4 T).1 (optOk_rel hk4 T).2 h (argOk_rel hk2 T) (strT_ok hk1))
  · -- fieldAddr
    rename_i s x f o' y heq
    simp only [Bool.and_eq_true] at hk
    obtain ⟨hk1, hk2⟩ := hk
    split at hk1
    · rename_i fd hfd
      simp only [Bool.and_eq_true, decide_eq_true_eq] at hk1
      obtain ⟨rfl, hk1⟩ := hk1
      split at hk1
      · rename_i n hn
        have h0 := of_decide_eq_true hk1
        obtain ⟨fs, hfs1, hfs2⟩ := fieldAtT_ok hfd
        obtain ⟨z, ad, k1, k2, k3⟩ := addOff_good hf h (argOk_rel hk2 T)
        simp only [execOp, heq, k2]
        refine mkV H ⟨z, _, k1, ?_, k3⟩
        have hne : ¬ n = 0 := by omega
        simp [Instr.fieldAt, run_underlying' hfs1, hfs2, Instr.sureAddr, fieldPlace, run_sizeOf hn, hne]
      · simp at hk1
    · simp at hk1
  · -- field
    rename_i s x f agg size o' y heq
    simp only [Bool.and_eq_true] at hk
    obtain ⟨⟨hk1, hk3⟩, hk2⟩ := hk
    split at hk1
    · rename_i fd hfd
      simp only [Bool.and_eq_true, decide_eq_true_eq] at hk1
      obtain ⟨⟨rfl, ha⟩, hs⟩ := hk1
      obtain ⟨fs, hfs1, hfs2⟩ := fieldAtT_ok hfd
      have hv := argOk_rel hk2 T
      simp only [execOp, heq]
      obtain ⟨cs, hy, h'⟩ := aggA_good hf h
      rw [hy] at hv
      have hv' := hv
      simp only [VRel] at hv
      obtain ⟨vs, e, _, hone⟩ := hv
      rw [e] at hv' ⊢
      obtain ⟨z, k1, k2, k3⟩ := partOf_good hf h' hv' (fun v hv => hone v (by simpa [Value.cells] using hv))
      cases agg with
      | true =>
        obtain ⟨k4, k5⟩ := k2 rfl
        refine mkV H ⟨z, _, k1, ?_, k5⟩
        simp [Instr.field, run_underlying' hfs1, hfs2, asAgg, part, run_isAgg ha, run_sizeOf hs, Value.cells]
      | false =>
        obtain ⟨c, k4, k5⟩ := k3 rfl
        refine mkV H ⟨z, c, k1, ?_, k5⟩
        have k4' : vs[fd.offset]? = some c := by simpa [Value.cells] using k4
        simp [Instr.field, run_underlying' hfs1, hfs2, asAgg, part, run_isAgg ha, k4']
    · simp at hk1
  · -- idx
    rename_i t x i esz y j heq
    simp only [Bool.and_eq_true] at hk
    obtain ⟨⟨hk1, hk2⟩, hk3⟩ := hk
    split at hk1
    · rename_i e he
      have hk1 := of_decide_eq_true hk1
      simp only [execOp, heq]
      exact mkV H (index_good hf h (argOk_rel hk2 T) (argOk_rel hk3 T) (sliceElem_ok he) hk1)
    · cases hk1
  · -- idxArr
    rename_i t x i len esz y j heq
    simp only [Bool.and_eq_true] at hk
    obtain ⟨⟨hk1, hk2⟩, hk3⟩ := hk
    split at hk1
    · rename_i n e he
      simp only [Bool.and_eq_true, decide_eq_true_eq] at hk1
      obtain ⟨rfl, hk1⟩ := hk1
      simp only [execOp, heq]
      exact mkV H (indexArr_good hf h (argOk_rel hk2 T) (argOk_rel hk3 T) (arrT_ok he) hk1)
    · cases hk1
  · -- index
    rename_i t x i len esz agg y j heq
    simp only [Bool.and_eq_true] at hk
    obtain ⟨⟨hk1, hk2⟩, hk3⟩ := hk
    split at hk1
    · rename_i n e he
      simp only [Bool.and_eq_true, decide_eq_true_eq] at hk1
      obtain ⟨⟨rfl, hs⟩, ha⟩ := hk1
      obtain ⟨k0, m, e0, h1⟩ := asI_good hf h
      obtain ⟨h2, h3⟩ := need_good hf h1
      obtain ⟨cs, hy, h'⟩ := aggA_good hf h3
      have hv := argOk_rel hk2 T
      have hi := argOk_rel hk3 T
      rw [hy] at hv
      rw [e0] at hi
      simp only [VRel] at hi
      have hv' := hv
      simp only [VRel] at hv
      obtain ⟨vs, e1, _, hone⟩ := hv
      simp only [execOp, heq]
      rw [e1] at hv' ⊢
      obtain ⟨z, k1, k2, k3⟩ := partOf_good hf h' hv' (fun v hv => hone v (by simpa [Value.cells] using hv))
      simp only [inB, Bool.and_eq_true, decide_eq_true_eq] at h2
      cases agg with
      | true =>
        obtain ⟨k4, k5⟩ := k2 rfl
        refine mkV H ⟨z, _, k1, ?_, k5⟩
        simp [Instr.index, hi, asIntOf, run_underlying' (arrT_ok he), h2, part, run_isAgg ha, run_sizeOf hs, Value.cells]
      | false =>
        obtain ⟨c, k4, k5⟩ := k3 rfl
        refine mkV H ⟨z, c, k1, ?_, k5⟩
        have k4' : vs[m.toNat * esz]? = some c := by simpa [Value.cells] using k4
        simp [Instr.index, hi, asIntOf, run_underlying' (arrT_ok he), h2, part, run_isAgg ha, run_sizeOf hs, k4']
    · cases hk1
  · -- indexStr
    rename_i t x i y j heq
    simp only [Bool.and_eq_true] at hk
    obtain ⟨⟨hk1, hk2⟩, hk3⟩ := hk
    obtain ⟨k0, m, e0, h1⟩ := asI_good hf h
    split at h1
    · rename_i s hy
      obtain ⟨h2, h3⟩ := need_good hf h1
      have hv := argOk_rel hk2 T
      have hi := argOk_rel hk3 T
      rw [hy] at hv
      rw [e0] at hi
      simp only [VRel] at hi hv
      simp only [execOp, heq]
      simp only [inB, Bool.and_eq_true, decide_eq_true_eq] at h2
      refine mkV H (mkR h3 (by simp only [VRel]; rfl) ?_)
      have hlt : m.toNat < s.size := by omega
      have hg : s[m.toNat]? = some s[m.toNat] := by simp [hlt]
      simp only [Instr.index, hi, hv, asIntOf, Sem.run_bind, Sem.run_pure, Result.andThen_ok, run_underlying' (strT_ok hk1), h2.1, if_true, hg]
      congr 3
      have hlt' : m.toNat < s.data.toList.length := by rw [Array.length_toList]; exact hlt
      rw [List.getD, List.getElem?_eq_getElem hlt']
      rfl
    · exact absurd h1 hf
  · -- lookup
    rename_i t m k ok zero ok' m' k' heq
    simp only [Bool.and_eq_true, beq_iff_eq] at hk
    obtain ⟨⟨⟨hk1, rfl⟩, hk2⟩, hk3⟩ := hk
    split at hk1
    · rename_i key e he
      simp only [Bool.and_eq_true] at hk1
      obtain ⟨q, hq⟩ := Option.isSome_iff_exists.1 hk1.1
      obtain ⟨z, z1, z2⟩ := zeroV_ok hk1.2
      simp only [execOp, heq]
      obtain ⟨v, r, k1, k2, k3⟩ := lookup_good hf h (argOk_rel hk2 T) (argOk_rel hk3 T) H (mapT_ok he) (intT_ok hq) z1 (vEq_rel z2 E).1
      exact mkV H ⟨v, r, k1, k2, k3⟩
    · cases hk1
  · -- mapUpdate
    rename_i t m k v m' k' v' heq
    simp only [Bool.and_eq_true] at hk
    obtain ⟨⟨⟨hk1, hk2⟩, hk3⟩, hk4⟩ := hk
    split at hk1
    · rename_i key e he
      obtain ⟨q, hq⟩ := Option.isSome_iff_exists.1 hk1
      simp only [execOp, heq]
      obtain ⟨h', w', k1, k2, k3, k4⟩ := mapset_good hf h (argOk_rel hk2 T) (argOk_rel hk3 T) (argOk_rel hk4 T) H (mapT_ok he) (intT_ok hq)
      exact ⟨_, undef, h', E, w', k1, .inr ⟨run_u k2, rfl⟩, by simp only [VRel], k3, k4⟩
    · cases hk1
  · rename_i t m k v m' k' v' heq
    simp only [Bool.and_eq_true] at hk
    obtain ⟨⟨⟨hk1, hk2⟩, hk3⟩, hk4⟩ := hk
    split at hk1
    · rename_i key e he
      obtain ⟨q, hq⟩ := Option.isSome_iff_exists.1 hk1
      simp only [execOp, heq]
      obtain ⟨h', w', k1, k2, k3, k4⟩ := mapset_good hf h (argOk_rel hk2 T) (argOk_rel hk3 T) (argOk_rel hk4 T) H (mapT_ok he) (intT_ok hq)
      exact ⟨_, undef, h', E, w', k1, .inr ⟨run_u k2, rfl⟩, by simp only [VRel], k3, k4⟩
    · cases hk1
  · -- extract
    rename_i x i i' y heq
    simp only [Bool.and_eq_true, beq_iff_eq] at hk
    obtain ⟨rfl, hk⟩ := hk
    have hv := argOk_rel hk T
    simp only [execOp, heq]
    split at h
    · rename_i vs hy
      split at h
      · rename_i v hvi
        rw [hy] at hv
        simp only [VRel] at hv
        obtain ⟨us, e, hus⟩ := hv
        obtain ⟨u, hu1, hu2⟩ := hus.get hvi
        refine mkV H (mkR h hu2 ?_)
        have hu1' : us[i]? = some u := by simpa using hu1
        simp [Instr.extract, e, hu1']
      · exact absurd h hf
    · exact absurd h hf
  · -- len
    rename_i as ts lk y heq
    split at hk
    · rename_i x t hx ht
      simp only [Bool.and_eq_true] at hk
      obtain ⟨hk1, hk2⟩ := hk
      obtain ⟨n, k1, k2⟩ := len_good hf (ty := o.type) h (argOk_rel hk2 T) H hk1
      have e1 : as = #[x] := Array.ext' hx
      have e2 : ts = #[t] := Array.ext' ht
      subst e1; subst e2
      simp only [execOp, heq, resolve, Sem.run_bind, Sem.run_pure, Result.andThen_ok, invoke, builtin, List.map_toArray, List.map_cons, List.map_nil]
      exact .quiet H k1 (u := .int .i64 n) (by simp only [VRel]) (by simp [k2])
    · cases hk
  · -- append
    rename_i as ts own esz d s heq
    split at hk
    · rename_i x y t t' hx ht
      simp only [Bool.and_eq_true] at hk
      obtain ⟨⟨hk1, hk2⟩, hk3⟩ := hk
      have e1 : as = #[x, y] := Array.ext' hx
      have e2 : ts = #[t, t'] := Array.ext' ht
      subst e1; subst e2
      obtain ⟨ys, us, xa, xc, k1, k2, k3, k4, k5, k6⟩ := elems_good hf h (argOk_rel hk3 T) H (P := P)
      rw [k5] at k6
      obtain ⟨v, u, h', E', w', m1, m2, m3, m4, m5⟩ := append_good hf (appTy_ok hk1) (ty := o.type) k1 (argOk_rel hk2 T) H k2 k3 k4 k6
      refine ⟨v, u, h', E', w', m1, .inl ?_, m3, m4, m5⟩
      simp only [execOp, heq, resolve, Sem.run_bind, Sem.run_pure, Result.andThen_ok, invoke, builtin, List.map_toArray, List.map_cons, List.map_nil, k5, m2]
    · cases hk
  · -- delete
    rename_i as ts m k heq
    split at hk
    · rename_i x y t t' hx ht
      simp only [Bool.and_eq_true] at hk
      obtain ⟨⟨hk1, hk2⟩, hk3⟩ := hk
      have e1 : as = #[x, y] := Array.ext' hx
      have e2 : ts = #[t, t'] := Array.ext' ht
      subst e1; subst e2
      split at hk1
      · rename_i key e he
        obtain ⟨q, hq⟩ := Option.isSome_iff_exists.1 hk1
        obtain ⟨h', w', k1, k2, k3, k4⟩ := mapdel_good hf (ts := #[t, t']) (ty := o.type) h (argOk_rel hk2 T) (argOk_rel hk3 T) H rfl (mapT_ok he) (intT_ok hq)
        refine ⟨_, .tuple #[], h', E, w', k1, .inl ?_, ?_, k3, k4⟩
        · simp only [execOp, heq, resolve, Sem.run_bind, Sem.run_pure, Result.andThen_ok, invoke, builtin, List.map_toArray, List.map_cons, List.map_nil, k2]
        · simp only [VRel]; exact ⟨#[], rfl, by simp [VRels]⟩
      · cases hk1
    · cases hk
  · -- min
    rename_i as ts x' y' heq
    split at hk
    · rename_i x y hx
      simp only [Bool.and_eq_true] at hk
      have e1 : as = #[x, y] := Array.ext' hx
      subst e1
      obtain ⟨z, r, k1, k2, k3⟩ := minmax_good hf h (argOk_rel hk.1 T) (argOk_rel hk.2 T) (w := w) (P := P) ts o.type
      refine .quiet H k1 k3 ?_
      simp only [execOp, heq, resolve, Sem.run_bind, Sem.run_pure, Result.andThen_ok, invoke, builtin, List.map_toArray, List.map_cons, List.map_nil] at k2 ⊢
      simp [k2]
    · cases hk
  · -- max
    rename_i as ts x' y' heq
    split at hk
    · rename_i x y hx
      simp only [Bool.and_eq_true] at hk
      have e1 : as = #[x, y] := Array.ext' hx
      subst e1
      obtain ⟨z, r, k1, k2, k3⟩ := minmax_good hf h (argOk_rel hk.1 T) (argOk_rel hk.2 T) (w := w) (P := P) ts o.type
      refine .quiet H k1 k3 ?_
      simp only [execOp, heq, resolve, Sem.run_bind, Sem.run_pure, Result.andThen_ok, invoke, builtin, List.map_toArray, List.map_cons, List.map_nil] at k2 ⊢
      simp [k2]
    · cases hk
  · rename_i x y heq
    simp only [execOp, heq, Sem.run_pure]
    exact .quiet H h (argOk_rel hk T) rfl
  · -- clear
    rename_i as ts esz z y heq
    split at hk
    · rename_i x t hx ht
      split at hk
      · rename_i e he
        simp only [Bool.and_eq_true] at hk
        have e1 : as = #[x] := Array.ext' hx
        have e2 : ts = #[t] := Array.ext' ht
        subst e1; subst e2
        obtain ⟨v, q1, q2, q3, q4⟩ := zeroOk_ok hk.1
        obtain ⟨h', w', k1, k2, k3, k4⟩ := clear_good hf (ty := o.type) h (argOk_rel hk.2 T) H (sliceElem_ok he) q1 (vEq_rel q2 E) q3
        refine ⟨_, .tuple #[], h', E, w', k1, .inl ?_, ?_, k3, k4⟩
        · simp only [execOp, heq, resolve, Sem.run_bind, Sem.run_pure, Result.andThen_ok, invoke, builtin, List.map_toArray, List.map_cons, List.map_nil, k2]
        · simp only [VRel]; exact ⟨#[], rfl, by simp [VRels]⟩
      · cases hk
    · cases hk
  · rename_i x y heq
    simp only [execOp, heq, Sem.run_pure]
    obtain ⟨v', h', E', k1, k2, k3, k4⟩ := thaw_good hf h (argOk_rel hk T) H
    exact ⟨v', _, h', E', w, k1, .inl rfl, k2, k3, k4⟩
  · rename_i x y heq
    simp only [execOp, heq, Sem.run_pure]
    obtain ⟨v', h', E', k1, k2, k3, k4⟩ := thaw_good hf h (argOk_rel hk T) H
    exact ⟨v', _, h', E', w, k1, .inl rfl, k2, k3, k4⟩
  · rename_i x y heq
    simp only [execOp, heq, Sem.run_pure]
    obtain ⟨v', h', E', k1, k2, k3, k4⟩ := freeze_good hf h (argOk_rel hk T) H
    exact ⟨v', _, h', E', w, k1, .inl rfl, k2, k3, k4⟩
  · rename_i x y heq
    simp only [execOp, heq, Sem.run_pure]
    obtain ⟨v', h', E', k1, k2, k3, k4⟩ := freeze_good hf h (argOk_rel hk T) H
    exact ⟨v', _, h', E', w, k1, .inl rfl, k2, k3, k4⟩
  · rename_i t p q heq
    simp only [Bool.and_eq_true, decide_eq_true_eq] at hk
    obtain ⟨v, u, k1, k2, k3⟩ := load_good hf (w := w) h (argOk_rel hk.2 T) H hk.1.1 hk.1.2
    obtain ⟨v', h', E', m1, m2, m3, m4⟩ := thaw_good hf k1 k3 H
    exact ⟨v', u, h', E', w, m1, .inl (by simp only [execOp, heq]; exact run_v k2), m2, m3, m4⟩
  · cases hk
end
end Go.Ai
