/- Regions whose order is open: what an operation looks at; that it gives the same in another order. -/
import Derived.Test.YtdggbdjpcbiofaaGreatAiSound
import Derived.OrdersIn
namespace Go.Ai

def Arg.tmp : Arg → List Tmp
  | .t n => [n]
  | .c _ => []

def AOp.args : AOp → List Arg
  | .mv x => [x]
  | .set x => [x]
  | .tokz _ x => [x]
  | .pick c a b => [c, a, b]
  | .alloc .. => []
  | .pend _ => []
  | .box x _ => [x]
  | .build _ parts => parts.map (·.2)
  | .lit _ parts => parts
  | .litOwn _ parts => parts
  | .litTok _ parts => parts
  | .load _ _ p => [p]
  | .store _ p v _ => [p, v]
  | .pstore _ _ v => [v]
  | .nilc x => [x]
  | .bin _ _ x y => [x, y]
  | .un _ x => [x]
  | .conv _ x => [x]
  | .mkf _ first caps => first ++ caps
  | .mkmap => []
  | .mkslice _ _ l c => [l, c]
  | .slice _ x lo hi => x :: (lo.toList ++ hi.toList)
  | .sliceStr x lo hi => x :: (lo.toList ++ hi.toList)
  | .addo _ x => [x]
  | .field _ _ _ x => [x]
  | .idx _ x i => [x, i]
  | .idxArr _ _ x i => [x, i]
  | .index _ _ _ x i => [x, i]
  | .indexStr x i => [x, i]
  | .lookup _ _ m k => [m, k]
  | .mapset m k v => [m, k, v]
  | .mapdel m k => [m, k]
  | .ext _ x => [x]
  | .call f args => f :: args
  | .len _ x => [x]
  | .append _ _ d s => [d, s]
  | .minmax _ a b => [a, b]
  | .clear _ _ x => [x]
  | .thaw x => [x]
  | .thawLoad p => [p]
  | .freeze x => [x]

/-- What an operation looks at. -/
def AOper.looks (o : AOper) : List Tmp :=
  o.op.args.flatMap Arg.tmp ++ (match o.guard with | some (t, _) => [t] | none => [])

def AOper.writes (o : AOper) : List Tmp :=
  o.dst.toList ++ (match o.op with | .pstore _ d _ => [d] | _ => [])

theorem optMap_congr {α β : Type} {f g : α → β} : ∀ (o : Option α), (∀ x ∈ o.toList, f x = g x) → o.map f = o.map g
  | none, _ => rfl
  | some x, h => by simp [h x (by simp)]

theorem opA_congr {α : Type} (C : Cfg α) (op : AOp) {T T' : List AVal} {h : List AObj} (K : AVal → List AObj → α) (hx : ∀ x ∈ op.args, St.ev ⟨T, h⟩ x = St.ev ⟨T', h⟩ x) : opA C op ⟨T, h⟩ K = opA C op ⟨T', h⟩ K := by
  cases op <;> simp only [AOp.args, List.mem_cons, List.not_mem_nil, or_false, forall_eq_or_imp, forall_eq] at hx <;> simp only [opA]
  case build z parts =>
    rw [show (parts.map fun p => (p.1, St.ev ⟨T, h⟩ p.2)) = parts.map fun p => (p.1, St.ev ⟨T', h⟩ p.2) from List.map_congr_left fun p hp => by rw [hx p.2 (List.mem_map_of_mem hp)]]
  case lit esz parts => rw [List.map_congr_left hx]
  case litOwn esz parts => rw [List.map_congr_left hx]
  case litTok esz parts => rw [List.map_congr_left hx]
  case mkf f first caps =>
    rw [List.map_congr_left fun x hm => hx x (List.mem_append_left _ hm), List.map_congr_left fun x hm => hx x (List.mem_append_right _ hm)]
  case slice esz x lo hi =>
    rw [hx.1, optMap_congr lo fun x hm => hx.2 x (List.mem_append_left _ hm), optMap_congr hi fun x hm => hx.2 x (List.mem_append_right _ hm)]
  case sliceStr x lo hi =>
    rw [hx.1, optMap_congr lo fun x hm => hx.2 x (List.mem_append_left _ hm), optMap_congr hi fun x hm => hx.2 x (List.mem_append_right _ hm)]
  case call f args => rw [hx.1, List.map_congr_left hx.2]
  all_goals first | rfl | (simp only [hx]) | (simp only [hx.1, hx.2])

theorem ev_of_getD {T T' : List AVal} {h h' : List AObj} {x : Arg} (hx : ∀ t ∈ x.tmp, T.getD t .undef = T'.getD t .undef) : St.ev ⟨T, h⟩ x = St.ev ⟨T', h'⟩ x := by
  cases x with
  | t n => exact hx n (by simp [Arg.tmp])
  | c v => rfl

/-- Without effect, what lies in memory stays. -/
theorem opA_still {α : Type} (C : Cfg α) (op : AOp) (he : op.effect = false) (st : St) (K : AVal → List AObj → α) : opA C op st K = opA C op st fun v _ => K v st.heap := by
  cases op <;> first | (simp [AOp.effect] at he; done) | skip
  all_goals (simp only [opA])

/-- Without a look at memory, memory does not matter. -/
theorem opA_blind {α : Type} (C : Cfg α) (op : AOp) (he : op.effect = false) (hr : op.reads = false) (T : List AVal) (h h' : List AObj) (k : AVal → α) : opA C op ⟨T, h⟩ (fun v _ => k v) = opA C op ⟨T, h'⟩ fun v _ => k v := by
  have hev : ∀ x, St.ev ⟨T, h⟩ x = St.ev ⟨T, h'⟩ x := fun x => by cases x <;> rfl
  have hm : St.ev ⟨T, h⟩ = St.ev ⟨T, h'⟩ := funext hev
  cases op <;> first | (simp [AOp.effect] at he; done) | (simp [AOp.reads] at hr; done) | skip
  all_goals (simp only [opA, hm])

theorem guardA_congr {α : Type} {fail : α} {o : AOper} {T T' : List AVal} (hx : ∀ t b, o.guard = some (t, b) → T.getD t .undef = T'.getD t .undef) (x y : α) : guardA fail o T x y = guardA fail o T' x y := by
  unfold guardA
  cases hg : o.guard with
  | none => rfl
  | some p => obtain ⟨t, b⟩ := p; simp only [hx t b hg]

theorem evalG_congr {o : AOper} {T T' : List AVal} {h : List AObj} (hx : ∀ t ∈ o.looks, T.getD t .undef = T'.getD t .undef) : evalG o ⟨T, h⟩ = evalG o ⟨T', h⟩ := by
  unfold evalG
  rw [guardA_congr (T' := T') fun t b hg => hx t (by simp [AOper.looks, hg])]
  congr 1
  exact opA_congr _ _ _ fun x hm => ev_of_getD fun t ht => hx t (by simp only [AOper.looks, List.mem_append, List.mem_flatMap]; exact .inl ⟨x, hm, ht⟩)

theorem evalG_blind {o : AOper} {T : List AVal} {h h' : List AObj} (he : o.op.effect = false) (hr : o.op.reads = false) : evalG o ⟨T, h⟩ = evalG o ⟨T, h'⟩ := by
  unfold evalG evalA
  rw [opA_blind _ _ he hr T h h' some]

end Go.Ai
