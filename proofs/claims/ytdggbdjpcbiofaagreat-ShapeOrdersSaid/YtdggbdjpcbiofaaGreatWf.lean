/- What is right: expressions, conditions, statements; what stands in a list of statements. -/
import Derived.Test.YtdggbdjpcbiofaaGreatData
namespace Go.Par

def E0 : E := .mk 0 0 0 []
def C0 : C := .mk 0 [] []

/-- Expressions, at most so deep. -/
def WfE (vars narr : Int) : Nat → E → Prop
  | 0, _ => False
  | h + 1, e => (e.op = 1 ∧ e.n = 0 ∧ e.a = [] ∧ -2147483648 ≤ e.v ∧ e.v ≤ 2147483647) ∨
    (e.op = 2 ∧ e.v = 0 ∧ e.a = [] ∧ 0 ≤ e.n ∧ e.n < vars) ∨
    (e.op = 3 ∧ e.v = 0 ∧ e.a = [] ∧ 0 ≤ e.n ∧ e.n < narr) ∨
    (4 ≤ e.op ∧ e.op ≤ 10 ∧ e.n = 0 ∧ e.v = 0 ∧ ∃ x y, e.a = [x, y] ∧ WfE vars narr h x ∧ WfE vars narr h y)

theorem WfE.up {vars narr : Int} : ∀ {h : Nat} {e : E}, WfE vars narr h e → WfE vars narr (h + 1) e
  | 0, _, w => w.elim
  | h + 1, e, w => by
    rcases w with w | w | w | ⟨a, b, c, d, x, y, e1, e2, e3⟩
    · exact .inl w
    · exact .inr (.inl w)
    · exact .inr (.inr (.inl w))
    · exact .inr (.inr (.inr ⟨a, b, c, d, x, y, e1, e2.up, e3.up⟩))

theorem WfE.le {vars narr : Int} {h k : Nat} {e : E} (w : WfE vars narr h e) (hk : h ≤ k) : WfE vars narr k e := by
  induction hk with
  | refl => exact w
  | step _ ih => exact ih.up

/-- Conditions, at most so deep, over expressions of depth 2. -/
def WfC (vars narr : Int) : Nat → C → Prop
  | 0, _ => False
  | h + 1, c => (2 ≤ c.op ∧ c.op ≤ 4 ∧ c.c = [] ∧ ∃ x y, c.a = [x, y] ∧ WfE vars narr 2 x ∧ WfE vars narr 2 y) ∨
    (c.op = 5 ∧ c.a = [] ∧ ∃ x, c.c = [x] ∧ WfC vars narr h x) ∨
    (6 ≤ c.op ∧ c.op ≤ 7 ∧ c.a = [] ∧ ∃ x y, c.c = [x, y] ∧ WfC vars narr h x ∧ WfC vars narr h y)

theorem WfC.up {vars narr : Int} : ∀ {h : Nat} {e : C}, WfC vars narr h e → WfC vars narr (h + 1) e
  | 0, _, w => w.elim
  | h + 1, e, w => by
    rcases w with w | ⟨a, b, x, e1, e2⟩ | ⟨a, b, c, x, y, e1, e2, e3⟩
    · exact .inl w
    · exact .inr (.inl ⟨a, b, x, e1, e2.up⟩)
    · exact .inr (.inr ⟨a, b, c, x, y, e1, e2.up, e3.up⟩)

/-- What a number of a statement means. -/
inductive W where
  | nothing | target | result | refer | array | global | cls | queue | sink | lock | part | callee | bound | code
  deriving DecidableEq

structure Fl where
  n : W := .nothing
  m : W := .nothing
  v : W := .nothing
  x : Bool := false
  y : Bool := false
  c : Bool := false
  call : Bool := false
  body : Bool := false
  rest : Bool := false
  deriving DecidableEq

/-- What the kinds of statements have. -/
def flOf (op : Int) : Option Fl :=
  if op = 1 then some { n := .target, x := true }
  else if op = 2 then some { n := .target, m := .array, x := true }
  else if op = 3 then some { m := .array, x := true, y := true }
  else if op = 4 then some { n := .target, m := .global }
  else if op = 20 then some { n := .target, m := .cls }
  else if op = 19 then some { n := .target, m := .queue }
  else if op = 5 then some { m := .global, x := true }
  else if op = 18 then some { m := .queue, x := true }
  else if op = 21 then some { m := .sink, x := true }
  else if op = 6 then some { n := .refer }
  else if op = 7 then some { n := .refer }
  else if op = 8 then some { n := .refer, m := .refer }
  else if op = 9 then some { n := .refer, x := true }
  else if op = 10 then some { n := .target, m := .refer }
  else if op = 11 then some { c := true, body := true, rest := true }
  else if op = 12 then some { v := .bound, c := true, body := true }
  else if op = 13 then some { n := .result, m := .callee, call := true }
  else if op = 14 then some { v := .code }
  else if op = 15 then some { n := .target, body := true, rest := true }
  else if op = 16 then some { m := .lock }
  else if op = 17 then some { m := .lock }
  else if op = 22 then some { m := .part }
  else if op = 23 then some { c := true }
  else if op = 24 then some { x := true }
  else none

/-- What a statement may name. -/
structure Cx where
  np : Int
  vars : Int
  refs : Int
  narr : Int
  globals : Int
  classes : Int
  queues : Int
  sinks : Int
  locks : Int
  parts : Int

def okN (cx : Cx) (w : W) (n : Int) : Prop :=
  match w with
  | .nothing => n = 0
  | .target => cx.np ≤ n ∧ n < cx.vars
  | .result => n = -1 ∨ cx.np ≤ n ∧ n < cx.vars
  | .refer => 0 ≤ n ∧ n < cx.refs
  | .array => 0 ≤ n ∧ n < cx.narr
  | .global => 0 ≤ n ∧ n < cx.globals
  | .cls => 0 ≤ n ∧ n < cx.classes
  | .queue => 0 ≤ n ∧ n < cx.queues
  | .sink => 0 ≤ n ∧ n < cx.sinks
  | .lock => 0 ≤ n ∧ n < cx.locks
  | .part => 0 ≤ n ∧ n < cx.parts
  | .callee => 1 ≤ n ∧ n ≤ 1073741824
  | .bound => 1 ≤ n ∧ n ≤ 16
  | .code => 1 ≤ n ∧ n ≤ 31

/-- A statement, but for what is in it; the heads that it may call. -/
structure Wf1 (cx : Cx) (hs : List Hd) (s : S) : Prop where
  fl : ∃ f, flOf s.op = some f ∧ okN cx f.n s.n ∧ okN cx f.m s.m ∧ okN cx f.v s.v ∧
    (if f.x then WfE cx.vars cx.narr 3 s.x else s.x = E0) ∧ (if f.y then WfE cx.vars cx.narr 3 s.y else s.y = E0) ∧ (if f.c then WfC cx.vars cx.narr 2 s.c else s.c = C0) ∧
    (if f.call then (∀ e ∈ s.args, WfE cx.vars cx.narr 3 e) ∧ (∀ p ∈ s.ptrs, 0 ≤ p ∧ p < cx.refs) ∧ s.args.length ≤ 12 ∧ s.ptrs.length ≤ 4 ∧ (∃ h ∈ hs, h.id = s.m ∧ h.params.length = s.args.length ∧ h.given.length = s.ptrs.length) else s.args = [] ∧ s.ptrs = []) ∧
    (f.body = false → s.body = []) ∧ (f.rest = false → s.els = [])
  s1 : 1 ≤ s.site
  s2 : s.site ≤ 1073741824

/-- Lists of statements, at most so deep. -/
def WfL (cx : Cx) (hs : List Hd) : Nat → List S → Prop
  | 0, l => l = []
  | d + 1, l => ∀ s ∈ l, Wf1 cx hs s ∧ WfL cx hs d s.body ∧ WfL cx hs d s.els

theorem WfL.nil {cx : Cx} {hs : List Hd} : ∀ {d : Nat}, WfL cx hs d []
  | 0 => rfl
  | _ + 1 => fun _ h => by cases h
theorem WfL.append {cx : Cx} {hs : List Hd} : ∀ {d : Nat} {l l' : List S}, WfL cx hs d l → WfL cx hs d l' → WfL cx hs d (l ++ l')
  | 0, l, l', h, h' => by rw [WfL] at h h' ⊢; simp [h, h']
  | d + 1, l, l', h, h' => fun s hs => (List.mem_append.1 hs).elim (h s) (h' s)

/-- All statements, each ahead of those in it. -/
def flatS : S → List S
  | .mk site op n m v x y c args ptrs body els => .mk site op n m v x y c args ptrs body els :: ((body.attach.flatMap fun ⟨s, _⟩ => flatS s) ++ (els.attach.flatMap fun ⟨s, _⟩ => flatS s))
def flatL (l : List S) : List S := l.flatMap flatS

theorem flatS_eq (s : S) : flatS s = s :: (flatL s.body ++ flatL s.els) := by
  cases s
  rw [flatS]
  simp only [flatL, S.body, S.els, List.flatMap_subtype, List.unattach_attach]
theorem flatL_nil : flatL [] = [] := rfl
theorem flatL_cons (s : S) (l : List S) : flatL (s :: l) = flatS s ++ flatL l := by simp [flatL]
theorem flatL_append (l l' : List S) : flatL (l ++ l') = flatL l ++ flatL l' := by simp [flatL]

def sitesL (l : List S) : List Int := (flatL l).map S.site

/-- Increasing, above the one bound, up to the other. -/
structure Inc (a b : Int) (l : List Int) : Prop where
  le : a ≤ b
  inc : l.Pairwise (· < ·)
  mem : ∀ x ∈ l, a < x ∧ x ≤ b

theorem Inc.nil {a b : Int} (h : a ≤ b) : Inc a b [] := ⟨h, .nil, fun _ h => by cases h⟩
theorem Inc.append {a b c : Int} {l l' : List Int} (h : Inc a b l) (k : Inc b c l') : Inc a c (l ++ l') := by
  refine ⟨by have := h.le; have := k.le; omega, List.pairwise_append.2 ⟨h.inc, k.inc, fun x hx y hy => ?_⟩, fun x hx => ?_⟩
  · have := (h.mem x hx).2; have := (k.mem y hy).1; omega
  · rcases List.mem_append.1 hx with hx | hx
    · have := h.mem x hx; have := k.le; omega
    · have := k.mem x hx; have := h.le; omega
theorem Inc.one {a b : Int} (h : a < b) : Inc a b [b] := ⟨by omega, List.pairwise_singleton _ _, fun x hx => by simp at hx; omega⟩
theorem Inc.up {a b c : Int} {l : List Int} (h : Inc a b l) (hc : b ≤ c) : Inc a c l := ⟨by have := h.le; omega, h.inc, fun x hx => by have := h.mem x hx; omega⟩
theorem Inc.lower {a b c : Int} {l : List Int} (h : Inc a b l) (hc : c ≤ a) : Inc c b l := ⟨by have := h.le; omega, h.inc, fun x hx => by have := h.mem x hx; omega⟩
theorem Inc.nodup {a b : Int} {l : List Int} (h : Inc a b l) : l.Nodup := h.inc.imp fun h => by omega
theorem Inc.length {a b : Int} : ∀ {l : List Int}, Inc a b l → (l.length : Int) ≤ b - a
  | [], h => by have := h.le; simp; omega
  | x :: l, h => by
    have hx := h.mem x (by simp)
    obtain ⟨h1, h2⟩ := List.pairwise_cons.1 h.inc
    have : Inc x b l := ⟨by omega, h2, fun y hy => ⟨h1 y hy, (h.mem y (by simp [hy])).2⟩⟩
    have := this.length
    simp only [List.length_cons]; omega

theorem sitesL_append (l l' : List S) : sitesL (l ++ l') = sitesL l ++ sitesL l' := by simp [sitesL, flatL_append]
theorem sitesL_cons (s : S) (l : List S) : sitesL (s :: l) = s.site :: (sitesL s.body ++ sitesL s.els) ++ sitesL l := by simp [sitesL, flatL_cons, flatS_eq]
theorem sitesL_nil : sitesL [] = [] := rfl

/-- The calls in the order of the text; how many there are. -/
def callsT (l : List S) : List Int := (l.filter fun s => s.op = 13).map S.m
def nC (l : List S) : Nat := (callsT (flatL l)).length
theorem callsT_append (l l' : List S) : callsT (l ++ l') = callsT l ++ callsT l' := by simp [callsT]
theorem nC_nil : nC [] = 0 := rfl
theorem nC_append (l l' : List S) : nC (l ++ l') = nC l + nC l' := by simp [nC, flatL_append, callsT_append]
theorem nC_one (s : S) : nC [s] = (if s.op = 13 then 1 else 0) + nC s.body + nC s.els := by
  rw [nC, flatL_cons, flatL_nil, List.append_nil, flatS_eq, nC, nC, ← List.singleton_append, callsT_append, callsT_append]
  simp only [List.length_append, callsT]
  by_cases h : s.op = 13 <;> simp [h] <;> omega
theorem nC_cons (s : S) (l : List S) : nC (s :: l) = (if s.op = 13 then 1 else 0) + nC s.body + nC s.els + nC l := by
  rw [← List.singleton_append, nC_append, nC_one]
theorem nC_flat {s : S} (hb : s.body = []) (he : s.els = []) : nC [s] ≤ 1 := by
  rw [nC_one, hb, he, nC_nil]; split <;> omega
end Go.Par
