/- The data of the statements (programs, definitions, statements, expressions) as plain Lean, and how the interpreter sees them. -/
import Derived.Test.YtdggbdjpcbiofaaGreatAiWalkD
set_option linter.unusedSimpArgs false
set_option linter.unusedVariables false
namespace Go.Par
open Go.Ai

inductive E where
  | mk (op n v : Int) (a : List E)
inductive C where
  | mk (op : Int) (a : List E) (c : List C)
structure Rg where
  lo : Int
  hi : Int
  mask : Int
  deriving DecidableEq
inductive S where
  | mk (site op n m v : Int) (x y : E) (c : C) (args : List E) (ptrs : List Int) (body els : List S)
structure Ar where
  len : Int
  of : Int
  deriving DecidableEq
structure D where
  id : Int
  site : Int
  name : ByteArray
  firm : Int
  part : Int
  params : List Rg
  given : List Rg
  vars : Int
  refs : Int
  arrays : List Ar
  budget : Int
  body : List S
structure Hd where
  id : Int
  firm : Int
  part : Int
  params : List Rg
  given : List Rg
structure Qu where
  cap : Int
  r : Rg
structure Dc where
  globals : List Rg
  classes : List Rg
  queues : List Qu
  sinks : List Int
  locks : Int
  parts : Int
  firms : Int
structure Pg where
  d : Dc
  heads : List Hd
  defs : List D
  threads : List Int

def E.op : E → Int | .mk op _ _ _ => op
def E.n : E → Int | .mk _ n _ _ => n
def E.v : E → Int | .mk _ _ v _ => v
def E.a : E → List E | .mk _ _ _ a => a
def C.op : C → Int | .mk op _ _ => op
def C.a : C → List E | .mk _ a _ => a
def C.c : C → List C | .mk _ _ c => c
def S.site : S → Int | .mk s _ _ _ _ _ _ _ _ _ _ _ => s
def S.op : S → Int | .mk _ o _ _ _ _ _ _ _ _ _ _ => o
def S.n : S → Int | .mk _ _ n _ _ _ _ _ _ _ _ _ => n
def S.m : S → Int | .mk _ _ _ m _ _ _ _ _ _ _ _ => m
def S.v : S → Int | .mk _ _ _ _ v _ _ _ _ _ _ _ => v
def S.x : S → E | .mk _ _ _ _ _ x _ _ _ _ _ _ => x
def S.y : S → E | .mk _ _ _ _ _ _ y _ _ _ _ _ => y
def S.c : S → C | .mk _ _ _ _ _ _ _ c _ _ _ _ => c
def S.args : S → List E | .mk _ _ _ _ _ _ _ _ a _ _ _ => a
def S.ptrs : S → List Int | .mk _ _ _ _ _ _ _ _ _ p _ _ => p
def S.body : S → List S | .mk _ _ _ _ _ _ _ _ _ _ b _ => b
def S.els : S → List S | .mk _ _ _ _ _ _ _ _ _ _ _ e => e

mutual
def encE : E → AVal
  | .mk op n v a => .agg [.int .i64 op, .int .i64 n, .int .i64 v, .fs 4 (encEs a) none]
def encEs : List E → List AVal
  | [] => []
  | e :: l => encE e :: encEs l
end
theorem encEs_eq : ∀ l, encEs l = l.map encE
  | [] => by rw [encEs, List.map_nil]
  | e :: l => by rw [encEs, encEs_eq l, List.map_cons]
def cellsE (e : E) : List AVal := [.int .i64 e.op, .int .i64 e.n, .int .i64 e.v, .fs 4 (e.a.map encE) none]
theorem encE_eq (e : E) : encE e = .agg (cellsE e) := by
  cases e; simp only [encE, encEs_eq, cellsE, E.op, E.n, E.v, E.a]

mutual
def encC : C → AVal
  | .mk op a c => .agg [.int .i64 op, .fs 4 (a.map encE) none, .fs 3 (encCs c) none]
def encCs : List C → List AVal
  | [] => []
  | e :: l => encC e :: encCs l
end
theorem encCs_eq : ∀ l, encCs l = l.map encC
  | [] => by rw [encCs, List.map_nil]
  | e :: l => by rw [encCs, encCs_eq l, List.map_cons]
def cellsC (c : C) : List AVal := [.int .i64 c.op, .fs 4 (c.a.map encE) none, .fs 3 (c.c.map encC) none]
theorem encC_eq (c : C) : encC c = .agg (cellsC c) := by
  cases c; simp only [encC, encCs_eq, cellsC, C.op, C.a, C.c]

mutual
def encS : S → AVal
  | .mk site op n m v x y c args ptrs body els => .agg ([.int .i64 site, .int .i64 op, .int .i64 n, .int .i64 m, .int .i64 v] ++ cellsE x ++ cellsE y ++ cellsC c ++
      [.fs 4 (args.map encE) none, .fs 1 (ptrs.map (AVal.int .i64)) none, .fs 20 (encSs body) none, .fs 20 (encSs els) none])
def encSs : List S → List AVal
  | [] => []
  | e :: l => encS e :: encSs l
end
theorem encSs_eq : ∀ l, encSs l = l.map encS
  | [] => by rw [encSs, List.map_nil]
  | e :: l => by rw [encSs, encSs_eq l, List.map_cons]
def cellsS (s : S) : List AVal := [.int .i64 s.site, .int .i64 s.op, .int .i64 s.n, .int .i64 s.m, .int .i64 s.v] ++ cellsE s.x ++ cellsE s.y ++ cellsC s.c ++
      [.fs 4 (s.args.map encE) none, .fs 1 (s.ptrs.map (AVal.int .i64)) none, .fs 20 (s.body.map encS) none, .fs 20 (s.els.map encS) none]
theorem encS_eq (s : S) : encS s = .agg (cellsS s) := by
  cases s; simp only [encS, encSs_eq, cellsS, S.site, S.op, S.n, S.m, S.v, S.x, S.y, S.c, S.args, S.ptrs, S.body, S.els]

def cellsRg (r : Rg) : List AVal := [.int .i64 r.lo, .int .i64 r.hi, .int .i64 r.mask]
def encRg (r : Rg) : AVal := .agg (cellsRg r)
def cellsAr (r : Ar) : List AVal := [.int .i64 r.len, .int .i64 r.of]
def encAr (r : Ar) : AVal := .agg (cellsAr r)
def cellsD (d : D) : List AVal := [.int .i64 d.id, .int .i64 d.site, .str d.name, .int .i64 d.firm, .int .i64 d.part, .fs 3 (d.params.map encRg) none, .fs 3 (d.given.map encRg) none, .int .i64 d.vars, .int .i64 d.refs, .fs 2 (d.arrays.map encAr) none, .int .i64 d.budget, .fs 20 (d.body.map encS) none]
def encD (d : D) : AVal := .agg (cellsD d)
def cellsHd (h : Hd) : List AVal := [.int .i64 h.id, .int .i64 h.firm, .int .i64 h.part, .fs 3 (h.params.map encRg) none, .fs 3 (h.given.map encRg) none]
def encHd (h : Hd) : AVal := .agg (cellsHd h)
def cellsQu (q : Qu) : List AVal := .int .i64 q.cap :: cellsRg q.r
def encQu (q : Qu) : AVal := .agg (cellsQu q)
def cellsDc (d : Dc) : List AVal := [.fs 3 (d.globals.map encRg) none, .fs 3 (d.classes.map encRg) none, .fs 4 (d.queues.map encQu) none, .fs 1 (d.sinks.map (AVal.int .i64)) none, .int .i64 d.locks, .int .i64 d.parts, .int .i64 d.firms]
def encDc (d : Dc) : AVal := .agg (cellsDc d)
def cellsPg (p : Pg) : List AVal := cellsDc p.d ++ [.fs 5 (p.heads.map encHd) none, .fs 12 (p.defs.map encD) none, .fs 1 (p.threads.map (AVal.int .i64)) none]
def encPg (p : Pg) : AVal := .agg (cellsPg p)

theorem encRg_eq (r : Rg) : encRg r = .agg (cellsRg r) := rfl
theorem encAr_eq (r : Ar) : encAr r = .agg (cellsAr r) := rfl
theorem encD_eq (r : D) : encD r = .agg (cellsD r) := rfl
theorem encHd_eq (r : Hd) : encHd r = .agg (cellsHd r) := rfl
theorem encQu_eq (r : Qu) : encQu r = .agg (cellsQu r) := rfl
theorem encDc_eq (r : Dc) : encDc r = .agg (cellsDc r) := rfl
theorem encPg_eq (r : Pg) : encPg r = .agg (cellsPg r) := rfl

@[go_sem] theorem mk_E_op {op1 : Int} {n1 : Int} {v1 : Int} {a1 : List E} : E.op (.mk op1 n1 v1 a1) = op1 := rfl
@[go_sem] theorem mk_E_n {op1 : Int} {n1 : Int} {v1 : Int} {a1 : List E} : E.n (.mk op1 n1 v1 a1) = n1 := rfl
@[go_sem] theorem mk_E_v {op1 : Int} {n1 : Int} {v1 : Int} {a1 : List E} : E.v (.mk op1 n1 v1 a1) = v1 := rfl
@[go_sem] theorem mk_E_a {op1 : Int} {n1 : Int} {v1 : Int} {a1 : List E} : E.a (.mk op1 n1 v1 a1) = a1 := rfl
@[go_sem] theorem mk_C_op {op1 : Int} {a1 : List E} {c1 : List C} : C.op (.mk op1 a1 c1) = op1 := rfl
@[go_sem] theorem mk_C_a {op1 : Int} {a1 : List E} {c1 : List C} : C.a (.mk op1 a1 c1) = a1 := rfl
@[go_sem] theorem mk_C_c {op1 : Int} {a1 : List E} {c1 : List C} : C.c (.mk op1 a1 c1) = c1 := rfl
@[go_sem] theorem mk_S_site {site1 : Int} {op1 : Int} {n1 : Int} {m1 : Int} {v1 : Int} {x1 : E} {y1 : E} {c1 : C} {args1 : List E} {ptrs1 : List Int} {body1 : List S} {els1 : List S} : S.site (.mk site1 op1 n1 m1 v1 x1 y1 c1 args1 ptrs1 body1 els1) = site1 := rfl
@[go_sem] theorem mk_S_op {site1 : Int} {op1 : Int} {n1 : Int} {m1 : Int} {v1 : Int} {x1 : E} {y1 : E} {c1 : C} {args1 : List E} {ptrs1 : List Int} {body1 : List S} {els1 : List S} : S.op (.mk site1 op1 n1 m1 v1 x1 y1 c1 args1 ptrs1 body1 els1) = op1 := rfl
@[go_sem] theorem mk_S_n {site1 : Int} {op1 : Int} {n1 : Int} {m1 : Int} {v1 : Int} {x1 : E} {y1 : E} {c1 : C} {args1 : List E} {ptrs1 : List Int} {body1 : List S} {els1 : List S} : S.n (.mk site1 op1 n1 m1 v1 x1 y1 c1 args1 ptrs1 body1 els1) = n1 := rfl
@[go_sem] theorem mk_S_m {site1 : Int} {op1 : Int} {n1 : Int} {m1 : Int} {v1 : Int} {x1 : E} {y1 : E} {c1 : C} {args1 : List E} {ptrs1 : List Int} {body1 : List S} {els1 : List S} : S.m (.mk site1 op1 n1 m1 v1 x1 y1 c1 args1 ptrs1 body1 els1) = m1 := rfl
@[go_sem] theorem mk_S_v {site1 : Int} {op1 : Int} {n1 : Int} {m1 : Int} {v1 : Int} {x1 : E} {y1 : E} {c1 : C} {args1 : List E} {ptrs1 : List Int} {body1 : List S} {els1 : List S} : S.v (.mk site1 op1 n1 m1 v1 x1 y1 c1 args1 ptrs1 body1 els1) = v1 := rfl
@[go_sem] theorem mk_S_x {site1 : Int} {op1 : Int} {n1 : Int} {m1 : Int} {v1 : Int} {x1 : E} {y1 : E} {c1 : C} {args1 : List E} {ptrs1 : List Int} {body1 : List S} {els1 : List S} : S.x (.mk site1 op1 n1 m1 v1 x1 y1 c1 args1 ptrs1 body1 els1) = x1 := rfl
@[go_sem] theorem mk_S_y {site1 : Int} {op1 : Int} {n1 : Int} {m1 : Int} {v1 : Int} {x1 : E} {y1 : E} {c1 : C} {args1 : List E} {ptrs1 : List Int} {body1 : List S} {els1 : List S} : S.y (.mk site1 op1 n1 m1 v1 x1 y1 c1 args1 ptrs1 body1 els1) = y1 := rfl
@[go_sem] theorem mk_S_c {site1 : Int} {op1 : Int} {n1 : Int} {m1 : Int} {v1 : Int} {x1 : E} {y1 : E} {c1 : C} {args1 : List E} {ptrs1 : List Int} {body1 : List S} {els1 : List S} : S.c (.mk site1 op1 n1 m1 v1 x1 y1 c1 args1 ptrs1 body1 els1) = c1 := rfl
@[go_sem] theorem mk_S_args {site1 : Int} {op1 : Int} {n1 : Int} {m1 : Int} {v1 : Int} {x1 : E} {y1 : E} {c1 : C} {args1 : List E} {ptrs1 : List Int} {body1 : List S} {els1 : List S} : S.args (.mk site1 op1 n1 m1 v1 x1 y1 c1 args1 ptrs1 body1 els1) = args1 := rfl
@[go_sem] theorem mk_S_ptrs {site1 : Int} {op1 : Int} {n1 : Int} {m1 : Int} {v1 : Int} {x1 : E} {y1 : E} {c1 : C} {args1 : List E} {ptrs1 : List Int} {body1 : List S} {els1 : List S} : S.ptrs (.mk site1 op1 n1 m1 v1 x1 y1 c1 args1 ptrs1 body1 els1) = ptrs1 := rfl
@[go_sem] theorem mk_S_body {site1 : Int} {op1 : Int} {n1 : Int} {m1 : Int} {v1 : Int} {x1 : E} {y1 : E} {c1 : C} {args1 : List E} {ptrs1 : List Int} {body1 : List S} {els1 : List S} : S.body (.mk site1 op1 n1 m1 v1 x1 y1 c1 args1 ptrs1 body1 els1) = body1 := rfl
@[go_sem] theorem mk_S_els {site1 : Int} {op1 : Int} {n1 : Int} {m1 : Int} {v1 : Int} {x1 : E} {y1 : E} {c1 : C} {args1 : List E} {ptrs1 : List Int} {body1 : List S} {els1 : List S} : S.els (.mk site1 op1 n1 m1 v1 x1 y1 c1 args1 ptrs1 body1 els1) = els1 := rfl

section
variable {fail : Prop}
@[go_sem] theorem lenE (x : E) : (cellsE x).length = 4 := rfl
theorem partOf_E {n o : Nat} {x : E} {K : AVal → Prop} : partOf fail false n (encE x) o K = optK fail (cellsE x)[o]? K := by rw [encE_eq, partOf_cell]
theorem partOfA_E {n o : Nat} {x : E} {K : AVal → Prop} : partOf fail true n (encE x) o K = ifP (decide (o + n ≤ 4)) (K (.agg (((cellsE x).drop o).take n))) fail := by rw [encE_eq, partOf_agg, ble_eq, lenE]
@[go_sem] theorem aggA_E {x : E} {K : List AVal → Prop} : aggA fail (encE x) K = K (cellsE x) := by rw [encE_eq, aggA_agg]
@[go_sem] theorem putPart_E {n o : Nat} {x : E} {v : AVal} {K : AVal → Prop} : putPart fail n (encE x) o v K = putPart fail n (.agg (cellsE x)) o v K := by rw [encE_eq]
@[go_sem] theorem stor_E {x : E} : storable (encE x) = true := by rw [encE_eq, stor_agg]
@[go_sem] theorem cellsOf_E {x : E} : AVal.cells (encE x) = cellsE x := by rw [encE_eq, cells_agg]
@[go_sem] theorem kill_E {n : Nat} {x : E} : killA n (encE x) = encE x := by rw [encE_eq, kill_agg]; congr 1
@[go_sem] theorem lenC (x : C) : (cellsC x).length = 3 := rfl
theorem partOf_C {n o : Nat} {x : C} {K : AVal → Prop} : partOf fail false n (encC x) o K = optK fail (cellsC x)[o]? K := by rw [encC_eq, partOf_cell]
theorem partOfA_C {n o : Nat} {x : C} {K : AVal → Prop} : partOf fail true n (encC x) o K = ifP (decide (o + n ≤ 3)) (K (.agg (((cellsC x).drop o).take n))) fail := by rw [encC_eq, partOf_agg, ble_eq, lenC]
@[go_sem] theorem aggA_C {x : C} {K : List AVal → Prop} : aggA fail (encC x) K = K (cellsC x) := by rw [encC_eq, aggA_agg]
@[go_sem] theorem putPart_C {n o : Nat} {x : C} {v : AVal} {K : AVal → Prop} : putPart fail n (encC x) o v K = putPart fail n (.agg (cellsC x)) o v K := by rw [encC_eq]
@[go_sem] theorem stor_C {x : C} : storable (encC x) = true := by rw [encC_eq, stor_agg]
@[go_sem] theorem cellsOf_C {x : C} : AVal.cells (encC x) = cellsC x := by rw [encC_eq, cells_agg]
@[go_sem] theorem kill_C {n : Nat} {x : C} : killA n (encC x) = encC x := by rw [encC_eq, kill_agg]; congr 1
@[go_sem] theorem lenS (x : S) : (cellsS x).length = 20 := rfl
theorem partOf_S {n o : Nat} {x : S} {K : AVal → Prop} : partOf fail false n (encS x) o K = optK fail (cellsS x)[o]? K := by rw [encS_eq, partOf_cell]
theorem partOfA_S {n o : Nat} {x : S} {K : AVal → Prop} : partOf fail true n (encS x) o K = ifP (decide (o + n ≤ 20)) (K (.agg (((cellsS x).drop o).take n))) fail := by rw [encS_eq, partOf_agg, ble_eq, lenS]
@[go_sem] theorem aggA_S {x : S} {K : List AVal → Prop} : aggA fail (encS x) K = K (cellsS x) := by rw [encS_eq, aggA_agg]
@[go_sem] theorem putPart_S {n o : Nat} {x : S} {v : AVal} {K : AVal → Prop} : putPart fail n (encS x) o v K = putPart fail n (.agg (cellsS x)) o v K := by rw [encS_eq]
@[go_sem] theorem stor_S {x : S} : storable (encS x) = true := by rw [encS_eq, stor_agg]
@[go_sem] theorem cellsOf_S {x : S} : AVal.cells (encS x) = cellsS x := by rw [encS_eq, cells_agg]
@[go_sem] theorem kill_S {n : Nat} {x : S} : killA n (encS x) = encS x := by rw [encS_eq, kill_agg]; congr 1
@[go_sem] theorem lenRg (x : Rg) : (cellsRg x).length = 3 := rfl
theorem partOf_Rg {n o : Nat} {x : Rg} {K : AVal → Prop} : partOf fail false n (encRg x) o K = optK fail (cellsRg x)[o]? K := by rw [encRg_eq, partOf_cell]
theorem partOfA_Rg {n o : Nat} {x : Rg} {K : AVal → Prop} : partOf fail true n (encRg x) o K = ifP (decide (o + n ≤ 3)) (K (.agg (((cellsRg x).drop o).take n))) fail := by rw [encRg_eq, partOf_agg, ble_eq, lenRg]
@[go_sem] theorem aggA_Rg {x : Rg} {K : List AVal → Prop} : aggA fail (encRg x) K = K (cellsRg x) := by rw [encRg_eq, aggA_agg]
@[go_sem] theorem putPart_Rg {n o : Nat} {x : Rg} {v : AVal} {K : AVal → Prop} : putPart fail n (encRg x) o v K = putPart fail n (.agg (cellsRg x)) o v K := by rw [encRg_eq]
@[go_sem] theorem stor_Rg {x : Rg} : storable (encRg x) = true := by rw [encRg_eq, stor_agg]
@[go_sem] theorem cellsOf_Rg {x : Rg} : AVal.cells (encRg x) = cellsRg x := by rw [encRg_eq, cells_agg]
@[go_sem] theorem kill_Rg {n : Nat} {x : Rg} : killA n (encRg x) = encRg x := by rw [encRg_eq, kill_agg]; congr 1
@[go_sem] theorem lenAr (x : Ar) : (cellsAr x).length = 2 := rfl
theorem partOf_Ar {n o : Nat} {x : Ar} {K : AVal → Prop} : partOf fail false n (encAr x) o K = optK fail (cellsAr x)[o]? K := by rw [encAr_eq, partOf_cell]
theorem partOfA_Ar {n o : Nat} {x : Ar} {K : AVal → Prop} : partOf fail true n (encAr x) o K = ifP (decide (o + n ≤ 2)) (K (.agg (((cellsAr x).drop o).take n))) fail := by rw [encAr_eq, partOf_agg, ble_eq, lenAr]
@[go_sem] theorem aggA_Ar {x : Ar} {K : List AVal → Prop} : aggA fail (encAr x) K = K (cellsAr x) := by rw [encAr_eq, aggA_agg]
@[go_sem] theorem putPart_Ar {n o : Nat} {x : Ar} {v : AVal} {K : AVal → Prop} : putPart fail n (encAr x) o v K = putPart fail n (.agg (cellsAr x)) o v K := by rw [encAr_eq]
@[go_sem] theorem stor_Ar {x : Ar} : storable (encAr x) = true := by rw [encAr_eq, stor_agg]
@[go_sem] theorem cellsOf_Ar {x : Ar} : AVal.cells (encAr x) = cellsAr x := by rw [encAr_eq, cells_agg]
@[go_sem] theorem kill_Ar {n : Nat} {x : Ar} : killA n (encAr x) = encAr x := by rw [encAr_eq, kill_agg]; congr 1
@[go_sem] theorem lenD (x : D) : (cellsD x).length = 12 := rfl
theorem partOf_D {n o : Nat} {x : D} {K : AVal → Prop} : partOf fail false n (encD x) o K = optK fail (cellsD x)[o]? K := by rw [encD_eq, partOf_cell]
theorem partOfA_D {n o : Nat} {x : D} {K : AVal → Prop} : partOf fail true n (encD x) o K = ifP (decide (o + n ≤ 12)) (K (.agg (((cellsD x).drop o).take n))) fail := by rw [encD_eq, partOf_agg, ble_eq, lenD]
@[go_sem] theorem aggA_D {x : D} {K : List AVal → Prop} : aggA fail (encD x) K = K (cellsD x) := by rw [encD_eq, aggA_agg]
@[go_sem] theorem putPart_D {n o : Nat} {x : D} {v : AVal} {K : AVal → Prop} : putPart fail n (encD x) o v K = putPart fail n (.agg (cellsD x)) o v K := by rw [encD_eq]
@[go_sem] theorem stor_D {x : D} : storable (encD x) = true := by rw [encD_eq, stor_agg]
@[go_sem] theorem cellsOf_D {x : D} : AVal.cells (encD x) = cellsD x := by rw [encD_eq, cells_agg]
@[go_sem] theorem kill_D {n : Nat} {x : D} : killA n (encD x) = encD x := by rw [encD_eq, kill_agg]; congr 1
@[go_sem] theorem lenHd (x : Hd) : (cellsHd x).length = 5 := rfl
theorem partOf_Hd {n o : Nat} {x : Hd} {K : AVal → Prop} : partOf fail false n (encHd x) o K = optK fail (cellsHd x)[o]? K := by rw [encHd_eq, partOf_cell]
theorem partOfA_Hd {n o : Nat} {x : Hd} {K : AVal → Prop} : partOf fail true n (encHd x) o K = ifP (decide (o + n ≤ 5)) (K (.agg (((cellsHd x).drop o).take n))) fail := by rw [encHd_eq, partOf_agg, ble_eq, lenHd]
@[go_sem] theorem aggA_Hd {x : Hd} {K : List AVal → Prop} : aggA fail (encHd x) K = K (cellsHd x) := by rw [encHd_eq, aggA_agg]
@[go_sem] theorem putPart_Hd {n o : Nat} {x : Hd} {v : AVal} {K : AVal → Prop} : putPart fail n (encHd x) o v K = putPart fail n (.agg (cellsHd x)) o v K := by rw [encHd_eq]
@[go_sem] theorem stor_Hd {x : Hd} : storable (encHd x) = true := by rw [encHd_eq, stor_agg]
@[go_sem] theorem cellsOf_Hd {x : Hd} : AVal.cells (encHd x) = cellsHd x := by rw [encHd_eq, cells_agg]
@[go_sem] theorem kill_Hd {n : Nat} {x : Hd} : killA n (encHd x) = encHd x := by rw [encHd_eq, kill_agg]; congr 1
@[go_sem] theorem lenQu (x : Qu) : (cellsQu x).length = 4 := rfl
theorem partOf_Qu {n o : Nat} {x : Qu} {K : AVal → Prop} : partOf fail false n (encQu x) o K = optK fail (cellsQu x)[o]? K := by rw [encQu_eq, partOf_cell]
theorem partOfA_Qu {n o : Nat} {x : Qu} {K : AVal → Prop} : partOf fail true n (encQu x) o K = ifP (decide (o + n ≤ 4)) (K (.agg (((cellsQu x).drop o).take n))) fail := by rw [encQu_eq, partOf_agg, ble_eq, lenQu]
@[go_sem] theorem aggA_Qu {x : Qu} {K : List AVal → Prop} : aggA fail (encQu x) K = K (cellsQu x) := by rw [encQu_eq, aggA_agg]
@[go_sem] theorem putPart_Qu {n o : Nat} {x : Qu} {v : AVal} {K : AVal → Prop} : putPart fail n (encQu x) o v K = putPart fail n (.agg (cellsQu x)) o v K := by rw [encQu_eq]
@[go_sem] theorem stor_Qu {x : Qu} : storable (encQu x) = true := by rw [encQu_eq, stor_agg]
@[go_sem] theorem cellsOf_Qu {x : Qu} : AVal.cells (encQu x) = cellsQu x := by rw [encQu_eq, cells_agg]
@[go_sem] theorem kill_Qu {n : Nat} {x : Qu} : killA n (encQu x) = encQu x := by rw [encQu_eq, kill_agg]; congr 1
@[go_sem] theorem lenDc (x : Dc) : (cellsDc x).length = 7 := rfl
theorem partOf_Dc {n o : Nat} {x : Dc} {K : AVal → Prop} : partOf fail false n (encDc x) o K = optK fail (cellsDc x)[o]? K := by rw [encDc_eq, partOf_cell]
theorem partOfA_Dc {n o : Nat} {x : Dc} {K : AVal → Prop} : partOf fail true n (encDc x) o K = ifP (decide (o + n ≤ 7)) (K (.agg (((cellsDc x).drop o).take n))) fail := by rw [encDc_eq, partOf_agg, ble_eq, lenDc]
@[go_sem] theorem aggA_Dc {x : Dc} {K : List AVal → Prop} : aggA fail (encDc x) K = K (cellsDc x) := by rw [encDc_eq, aggA_agg]
@[go_sem] theorem putPart_Dc {n o : Nat} {x : Dc} {v : AVal} {K : AVal → Prop} : putPart fail n (encDc x) o v K = putPart fail n (.agg (cellsDc x)) o v K := by rw [encDc_eq]
@[go_sem] theorem stor_Dc {x : Dc} : storable (encDc x) = true := by rw [encDc_eq, stor_agg]
@[go_sem] theorem cellsOf_Dc {x : Dc} : AVal.cells (encDc x) = cellsDc x := by rw [encDc_eq, cells_agg]
@[go_sem] theorem kill_Dc {n : Nat} {x : Dc} : killA n (encDc x) = encDc x := by rw [encDc_eq, kill_agg]; congr 1
@[go_sem] theorem lenPg (x : Pg) : (cellsPg x).length = 10 := rfl
theorem partOf_Pg {n o : Nat} {x : Pg} {K : AVal → Prop} : partOf fail false n (encPg x) o K = optK fail (cellsPg x)[o]? K := by rw [encPg_eq, partOf_cell]
theorem partOfA_Pg {n o : Nat} {x : Pg} {K : AVal → Prop} : partOf fail true n (encPg x) o K = ifP (decide (o + n ≤ 10)) (K (.agg (((cellsPg x).drop o).take n))) fail := by rw [encPg_eq, partOf_agg, ble_eq, lenPg]
@[go_sem] theorem aggA_Pg {x : Pg} {K : List AVal → Prop} : aggA fail (encPg x) K = K (cellsPg x) := by rw [encPg_eq, aggA_agg]
@[go_sem] theorem putPart_Pg {n o : Nat} {x : Pg} {v : AVal} {K : AVal → Prop} : putPart fail n (encPg x) o v K = putPart fail n (.agg (cellsPg x)) o v K := by rw [encPg_eq]
@[go_sem] theorem stor_Pg {x : Pg} : storable (encPg x) = true := by rw [encPg_eq, stor_agg]
@[go_sem] theorem cellsOf_Pg {x : Pg} : AVal.cells (encPg x) = cellsPg x := by rw [encPg_eq, cells_agg]
@[go_sem] theorem kill_Pg {n : Nat} {x : Pg} : killA n (encPg x) = encPg x := by rw [encPg_eq, kill_agg]; congr 1
@[go_sem] theorem fold_E {x : E} : AVal.agg [.int .i64 x.op, .int .i64 x.n, .int .i64 x.v, .fs 4 (x.a.map encE) none] = encE x := by rw [encE_eq]; rfl
@[go_sem] theorem fold_C {x : C} : AVal.agg [.int .i64 x.op, .fs 4 (x.a.map encE) none, .fs 3 (x.c.map encC) none] = encC x := by rw [encC_eq]; rfl
@[go_sem] theorem fold_Rg {x : Rg} : AVal.agg [.int .i64 x.lo, .int .i64 x.hi, .int .i64 x.mask] = encRg x := by rw [encRg_eq]; rfl
@[go_sem] theorem fold_Ar {x : Ar} : AVal.agg [.int .i64 x.len, .int .i64 x.of] = encAr x := by rw [encAr_eq]; rfl
@[go_sem] theorem fold_S {x : S} : AVal.agg [.int .i64 x.site, .int .i64 x.op, .int .i64 x.n, .int .i64 x.m, .int .i64 x.v, .int .i64 x.x.op, .int .i64 x.x.n, .int .i64 x.x.v, .fs 4 (x.x.a.map encE) none, .int .i64 x.y.op, .int .i64 x.y.n, .int .i64 x.y.v, .fs 4 (x.y.a.map encE) none, .int .i64 x.c.op, .fs 4 (x.c.a.map encE) none, .fs 3 (x.c.c.map encC) none, .fs 4 (x.args.map encE) none, .fs 1 (x.ptrs.map (AVal.int .i64)) none, .fs 20 (x.body.map encS) none, .fs 20 (x.els.map encS) none] = encS x := by rw [encS_eq]; rfl
@[go_sem] theorem fold_D {x : D} : AVal.agg [.int .i64 x.id, .int .i64 x.site, .str x.name, .int .i64 x.firm, .int .i64 x.part, .fs 3 (x.params.map encRg) none, .fs 3 (x.given.map encRg) none, .int .i64 x.vars, .int .i64 x.refs, .fs 2 (x.arrays.map encAr) none, .int .i64 x.budget, .fs 20 (x.body.map encS) none] = encD x := by rw [encD_eq]; rfl
@[go_sem] theorem fold_Hd {x : Hd} : AVal.agg [.int .i64 x.id, .int .i64 x.firm, .int .i64 x.part, .fs 3 (x.params.map encRg) none, .fs 3 (x.given.map encRg) none] = encHd x := by rw [encHd_eq]; rfl
@[go_sem] theorem fold_Qu {x : Qu} : AVal.agg [.int .i64 x.cap, .int .i64 x.r.lo, .int .i64 x.r.hi, .int .i64 x.r.mask] = encQu x := by rw [encQu_eq]; rfl
@[go_sem] theorem fold_Dc {x : Dc} : AVal.agg [.fs 3 (x.globals.map encRg) none, .fs 3 (x.classes.map encRg) none, .fs 4 (x.queues.map encQu) none, .fs 1 (x.sinks.map (AVal.int .i64)) none, .int .i64 x.locks, .int .i64 x.parts, .int .i64 x.firms] = encDc x := by rw [encDc_eq]; rfl
@[go_sem] theorem fold_Pg {x : Pg} : AVal.agg [.fs 3 (x.d.globals.map encRg) none, .fs 3 (x.d.classes.map encRg) none, .fs 4 (x.d.queues.map encQu) none, .fs 1 (x.d.sinks.map (AVal.int .i64)) none, .int .i64 x.d.locks, .int .i64 x.d.parts, .int .i64 x.d.firms, .fs 5 (x.heads.map encHd) none, .fs 12 (x.defs.map encD) none, .fs 1 (x.threads.map (AVal.int .i64)) none] = encPg x := by rw [encPg_eq]; rfl
@[go_sem] theorem get_E_0 {x : E} {K : AVal → Prop} : partOf fail false 1 (encE x) 0 K = K (.int .i64 x.op) := by rw [encE_eq]; rfl
@[go_sem] theorem get_E_1 {x : E} {K : AVal → Prop} : partOf fail false 1 (encE x) 1 K = K (.int .i64 x.n) := by rw [encE_eq]; rfl
@[go_sem] theorem get_E_2 {x : E} {K : AVal → Prop} : partOf fail false 1 (encE x) 2 K = K (.int .i64 x.v) := by rw [encE_eq]; rfl
@[go_sem] theorem get_E_3 {x : E} {K : AVal → Prop} : partOf fail false 1 (encE x) 3 K = K (.fs 4 (x.a.map encE) none) := by rw [encE_eq]; rfl
@[go_sem] theorem getA_E_0_4 {x : E} {K : AVal → Prop} : partOf fail true 4 (encE x) 0 K = K (encE x) := by rw [encE_eq, partOf_agg]; (try simp only [encE_eq, encC_eq, encRg_eq, encDc_eq]); rfl
@[go_sem] theorem get_C_0 {x : C} {K : AVal → Prop} : partOf fail false 1 (encC x) 0 K = K (.int .i64 x.op) := by rw [encC_eq]; rfl
@[go_sem] theorem get_C_1 {x : C} {K : AVal → Prop} : partOf fail false 1 (encC x) 1 K = K (.fs 4 (x.a.map encE) none) := by rw [encC_eq]; rfl
@[go_sem] theorem get_C_2 {x : C} {K : AVal → Prop} : partOf fail false 1 (encC x) 2 K = K (.fs 3 (x.c.map encC) none) := by rw [encC_eq]; rfl
@[go_sem] theorem getA_C_0_3 {x : C} {K : AVal → Prop} : partOf fail true 3 (encC x) 0 K = K (encC x) := by rw [encC_eq, partOf_agg]; (try simp only [encE_eq, encC_eq, encRg_eq, encDc_eq]); rfl
@[go_sem] theorem get_Rg_0 {x : Rg} {K : AVal → Prop} : partOf fail false 1 (encRg x) 0 K = K (.int .i64 x.lo) := by rw [encRg_eq]; rfl
@[go_sem] theorem get_Rg_1 {x : Rg} {K : AVal → Prop} : partOf fail false 1 (encRg x) 1 K = K (.int .i64 x.hi) := by rw [encRg_eq]; rfl
@[go_sem] theorem get_Rg_2 {x : Rg} {K : AVal → Prop} : partOf fail false 1 (encRg x) 2 K = K (.int .i64 x.mask) := by rw [encRg_eq]; rfl
@[go_sem] theorem getA_Rg_0_3 {x : Rg} {K : AVal → Prop} : partOf fail true 3 (encRg x) 0 K = K (encRg x) := by rw [encRg_eq, partOf_agg]; (try simp only [encE_eq, encC_eq, encRg_eq, encDc_eq]); rfl
@[go_sem] theorem get_Ar_0 {x : Ar} {K : AVal → Prop} : partOf fail false 1 (encAr x) 0 K = K (.int .i64 x.len) := by rw [encAr_eq]; rfl
@[go_sem] theorem get_Ar_1 {x : Ar} {K : AVal → Prop} : partOf fail false 1 (encAr x) 1 K = K (.int .i64 x.of) := by rw [encAr_eq]; rfl
@[go_sem] theorem getA_Ar_0_2 {x : Ar} {K : AVal → Prop} : partOf fail true 2 (encAr x) 0 K = K (encAr x) := by rw [encAr_eq, partOf_agg]; (try simp only [encE_eq, encC_eq, encRg_eq, encDc_eq]); rfl
@[go_sem] theorem get_S_0 {x : S} {K : AVal → Prop} : partOf fail false 1 (encS x) 0 K = K (.int .i64 x.site) := by rw [encS_eq]; rfl
@[go_sem] theorem get_S_1 {x : S} {K : AVal → Prop} : partOf fail false 1 (encS x) 1 K = K (.int .i64 x.op) := by rw [encS_eq]; rfl
@[go_sem] theorem get_S_2 {x : S} {K : AVal → Prop} : partOf fail false 1 (encS x) 2 K = K (.int .i64 x.n) := by rw [encS_eq]; rfl
@[go_sem] theorem get_S_3 {x : S} {K : AVal → Prop} : partOf fail false 1 (encS x) 3 K = K (.int .i64 x.m) := by rw [encS_eq]; rfl
@[go_sem] theorem get_S_4 {x : S} {K : AVal → Prop} : partOf fail false 1 (encS x) 4 K = K (.int .i64 x.v) := by rw [encS_eq]; rfl
@[go_sem] theorem get_S_5 {x : S} {K : AVal → Prop} : partOf fail false 1 (encS x) 5 K = K (.int .i64 x.x.op) := by rw [encS_eq]; rfl
@[go_sem] theorem get_S_6 {x : S} {K : AVal → Prop} : partOf fail false 1 (encS x) 6 K = K (.int .i64 x.x.n) := by rw [encS_eq]; rfl
@[go_sem] theorem get_S_7 {x : S} {K : AVal → Prop} : partOf fail false 1 (encS x) 7 K = K (.int .i64 x.x.v) := by rw [encS_eq]; rfl
@[go_sem] theorem get_S_8 {x : S} {K : AVal → Prop} : partOf fail false 1 (encS x) 8 K = K (.fs 4 (x.x.a.map encE) none) := by rw [encS_eq]; rfl
@[go_sem] theorem get_S_9 {x : S} {K : AVal → Prop} : partOf fail false 1 (encS x) 9 K = K (.int .i64 x.y.op) := by rw [encS_eq]; rfl
@[go_sem] theorem get_S_10 {x : S} {K : AVal → Prop} : partOf fail false 1 (encS x) 10 K = K (.int .i64 x.y.n) := by rw [encS_eq]; rfl
@[go_sem] theorem get_S_11 {x : S} {K : AVal → Prop} : partOf fail false 1 (encS x) 11 K = K (.int .i64 x.y.v) := by rw [encS_eq]; rfl
@[go_sem] theorem get_S_12 {x : S} {K : AVal → Prop} : partOf fail false 1 (encS x) 12 K = K (.fs 4 (x.y.a.map encE) none) := by rw [encS_eq]; rfl
@[go_sem] theorem get_S_13 {x : S} {K : AVal → Prop} : partOf fail false 1 (encS x) 13 K = K (.int .i64 x.c.op) := by rw [encS_eq]; rfl
@[go_sem] theorem get_S_14 {x : S} {K : AVal → Prop} : partOf fail false 1 (encS x) 14 K = K (.fs 4 (x.c.a.map encE) none) := by rw [encS_eq]; rfl
@[go_sem] theorem get_S_15 {x : S} {K : AVal → Prop} : partOf fail false 1 (encS x) 15 K = K (.fs 3 (x.c.c.map encC) none) := by rw [encS_eq]; rfl
@[go_sem] theorem get_S_16 {x : S} {K : AVal → Prop} : partOf fail false 1 (encS x) 16 K = K (.fs 4 (x.args.map encE) none) := by rw [encS_eq]; rfl
@[go_sem] theorem get_S_17 {x : S} {K : AVal → Prop} : partOf fail false 1 (encS x) 17 K = K (.fs 1 (x.ptrs.map (AVal.int .i64)) none) := by rw [encS_eq]; rfl
@[go_sem] theorem get_S_18 {x : S} {K : AVal → Prop} : partOf fail false 1 (encS x) 18 K = K (.fs 20 (x.body.map encS) none) := by rw [encS_eq]; rfl
@[go_sem] theorem get_S_19 {x : S} {K : AVal → Prop} : partOf fail false 1 (encS x) 19 K = K (.fs 20 (x.els.map encS) none) := by rw [encS_eq]; rfl
@[go_sem] theorem getA_S_5_4 {x : S} {K : AVal → Prop} : partOf fail true 4 (encS x) 5 K = K (encE x.x) := by rw [encS_eq, partOf_agg]; (try simp only [encE_eq, encC_eq, encRg_eq, encDc_eq]); rfl
@[go_sem] theorem getA_S_9_4 {x : S} {K : AVal → Prop} : partOf fail true 4 (encS x) 9 K = K (encE x.y) := by rw [encS_eq, partOf_agg]; (try simp only [encE_eq, encC_eq, encRg_eq, encDc_eq]); rfl
@[go_sem] theorem getA_S_13_3 {x : S} {K : AVal → Prop} : partOf fail true 3 (encS x) 13 K = K (encC x.c) := by rw [encS_eq, partOf_agg]; (try simp only [encE_eq, encC_eq, encRg_eq, encDc_eq]); rfl
@[go_sem] theorem getA_S_0_20 {x : S} {K : AVal → Prop} : partOf fail true 20 (encS x) 0 K = K (encS x) := by rw [encS_eq, partOf_agg]; (try simp only [encE_eq, encC_eq, encRg_eq, encDc_eq]); rfl
@[go_sem] theorem get_D_0 {x : D} {K : AVal → Prop} : partOf fail false 1 (encD x) 0 K = K (.int .i64 x.id) := by rw [encD_eq]; rfl
@[go_sem] theorem get_D_1 {x : D} {K : AVal → Prop} : partOf fail false 1 (encD x) 1 K = K (.int .i64 x.site) := by rw [encD_eq]; rfl
@[go_sem] theorem get_D_2 {x : D} {K : AVal → Prop} : partOf fail false 1 (encD x) 2 K = K (.str x.name) := by rw [encD_eq]; rfl
@[go_sem] theorem get_D_3 {x : D} {K : AVal → Prop} : partOf fail false 1 (encD x) 3 K = K (.int .i64 x.firm) := by rw [encD_eq]; rfl
@[go_sem] theorem get_D_4 {x : D} {K : AVal → Prop} : partOf fail false 1 (encD x) 4 K = K (.int .i64 x.part) := by rw [encD_eq]; rfl
@[go_sem] theorem get_D_5 {x : D} {K : AVal → Prop} : partOf fail false 1 (encD x) 5 K = K (.fs 3 (x.params.map encRg) none) := by rw [encD_eq]; rfl
@[go_sem] theorem get_D_6 {x : D} {K : AVal → Prop} : partOf fail false 1 (encD x) 6 K = K (.fs 3 (x.given.map encRg) none) := by rw [encD_eq]; rfl
@[go_sem] theorem get_D_7 {x : D} {K : AVal → Prop} : partOf fail false 1 (encD x) 7 K = K (.int .i64 x.vars) := by rw [encD_eq]; rfl
@[go_sem] theorem get_D_8 {x : D} {K : AVal → Prop} : partOf fail false 1 (encD x) 8 K = K (.int .i64 x.refs) := by rw [encD_eq]; rfl
@[go_sem] theorem get_D_9 {x : D} {K : AVal → Prop} : partOf fail false 1 (encD x) 9 K = K (.fs 2 (x.arrays.map encAr) none) := by rw [encD_eq]; rfl
@[go_sem] theorem get_D_10 {x : D} {K : AVal → Prop} : partOf fail false 1 (encD x) 10 K = K (.int .i64 x.budget) := by rw [encD_eq]; rfl
@[go_sem] theorem get_D_11 {x : D} {K : AVal → Prop} : partOf fail false 1 (encD x) 11 K = K (.fs 20 (x.body.map encS) none) := by rw [encD_eq]; rfl
@[go_sem] theorem getA_D_0_12 {x : D} {K : AVal → Prop} : partOf fail true 12 (encD x) 0 K = K (encD x) := by rw [encD_eq, partOf_agg]; (try simp only [encE_eq, encC_eq, encRg_eq, encDc_eq]); rfl
@[go_sem] theorem get_Hd_0 {x : Hd} {K : AVal → Prop} : partOf fail false 1 (encHd x) 0 K = K (.int .i64 x.id) := by rw [encHd_eq]; rfl
@[go_sem] theorem get_Hd_1 {x : Hd} {K : AVal → Prop} : partOf fail false 1 (encHd x) 1 K = K (.int .i64 x.firm) := by rw [encHd_eq]; rfl
@[go_sem] theorem get_Hd_2 {x : Hd} {K : AVal → Prop} : partOf fail false 1 (encHd x) 2 K = K (.int .i64 x.part) := by rw [encHd_eq]; rfl
@[go_sem] theorem get_Hd_3 {x : Hd} {K : AVal → Prop} : partOf fail false 1 (encHd x) 3 K = K (.fs 3 (x.params.map encRg) none) := by rw [encHd_eq]; rfl
@[go_sem] theorem get_Hd_4 {x : Hd} {K : AVal → Prop} : partOf fail false 1 (encHd x) 4 K = K (.fs 3 (x.given.map encRg) none) := by rw [encHd_eq]; rfl
@[go_sem] theorem getA_Hd_0_5 {x : Hd} {K : AVal → Prop} : partOf fail true 5 (encHd x) 0 K = K (encHd x) := by rw [encHd_eq, partOf_agg]; (try simp only [encE_eq, encC_eq, encRg_eq, encDc_eq]); rfl
@[go_sem] theorem get_Qu_0 {x : Qu} {K : AVal → Prop} : partOf fail false 1 (encQu x) 0 K = K (.int .i64 x.cap) := by rw [encQu_eq]; rfl
@[go_sem] theorem get_Qu_1 {x : Qu} {K : AVal → Prop} : partOf fail false 1 (encQu x) 1 K = K (.int .i64 x.r.lo) := by rw [encQu_eq]; rfl
@[go_sem] theorem get_Qu_2 {x : Qu} {K : AVal → Prop} : partOf fail false 1 (encQu x) 2 K = K (.int .i64 x.r.hi) := by rw [encQu_eq]; rfl
@[go_sem] theorem get_Qu_3 {x : Qu} {K : AVal → Prop} : partOf fail false 1 (encQu x) 3 K = K (.int .i64 x.r.mask) := by rw [encQu_eq]; rfl
@[go_sem] theorem getA_Qu_1_3 {x : Qu} {K : AVal → Prop} : partOf fail true 3 (encQu x) 1 K = K (encRg x.r) := by rw [encQu_eq, partOf_agg]; (try simp only [encE_eq, encC_eq, encRg_eq, encDc_eq]); rfl
@[go_sem] theorem getA_Qu_0_4 {x : Qu} {K : AVal → Prop} : partOf fail true 4 (encQu x) 0 K = K (encQu x) := by rw [encQu_eq, partOf_agg]; (try simp only [encE_eq, encC_eq, encRg_eq, encDc_eq]); rfl
@[go_sem] theorem get_Dc_0 {x : Dc} {K : AVal → Prop} : partOf fail false 1 (encDc x) 0 K = K (.fs 3 (x.globals.map encRg) none) := by rw [encDc_eq]; rfl
@[go_sem] theorem get_Dc_1 {x : Dc} {K : AVal → Prop} : partOf fail false 1 (encDc x) 1 K = K (.fs 3 (x.classes.map encRg) none) := by rw [encDc_eq]; rfl
@[go_sem] theorem get_Dc_2 {x : Dc} {K : AVal → Prop} : partOf fail false 1 (encDc x) 2 K = K (.fs 4 (x.queues.map encQu) none) := by rw [encDc_eq]; rfl
@[go_sem] theorem get_Dc_3 {x : Dc} {K : AVal → Prop} : partOf fail false 1 (encDc x) 3 K = K (.fs 1 (x.sinks.map (AVal.int .i64)) none) := by rw [encDc_eq]; rfl
@[go_sem] theorem get_Dc_4 {x : Dc} {K : AVal → Prop} : partOf fail false 1 (encDc x) 4 K = K (.int .i64 x.locks) := by rw [encDc_eq]; rfl
@[go_sem] theorem get_Dc_5 {x : Dc} {K : AVal → Prop} : partOf fail false 1 (encDc x) 5 K = K (.int .i64 x.parts) := by rw [encDc_eq]; rfl
@[go_sem] theorem get_Dc_6 {x : Dc} {K : AVal → Prop} : partOf fail false 1 (encDc x) 6 K = K (.int .i64 x.firms) := by rw [encDc_eq]; rfl
@[go_sem] theorem getA_Dc_0_7 {x : Dc} {K : AVal → Prop} : partOf fail true 7 (encDc x) 0 K = K (encDc x) := by rw [encDc_eq, partOf_agg]; (try simp only [encE_eq, encC_eq, encRg_eq, encDc_eq]); rfl
@[go_sem] theorem get_Pg_0 {x : Pg} {K : AVal → Prop} : partOf fail false 1 (encPg x) 0 K = K (.fs 3 (x.d.globals.map encRg) none) := by rw [encPg_eq]; rfl
@[go_sem] theorem get_Pg_1 {x : Pg} {K : AVal → Prop} : partOf fail false 1 (encPg x) 1 K = K (.fs 3 (x.d.classes.map encRg) none) := by rw [encPg_eq]; rfl
@[go_sem] theorem get_Pg_2 {x : Pg} {K : AVal → Prop} : partOf fail false 1 (encPg x) 2 K = K (.fs 4 (x.d.queues.map encQu) none) := by rw [encPg_eq]; rfl
@[go_sem] theorem get_Pg_3 {x : Pg} {K : AVal → Prop} : partOf fail false 1 (encPg x) 3 K = K (.fs 1 (x.d.sinks.map (AVal.int .i64)) none) := by rw [encPg_eq]; rfl
@[go_sem] theorem get_Pg_4 {x : Pg} {K : AVal → Prop} : partOf fail false 1 (encPg x) 4 K = K (.int .i64 x.d.locks) := by rw [encPg_eq]; rfl
@[go_sem] theorem get_Pg_5 {x : Pg} {K : AVal → Prop} : partOf fail false 1 (encPg x) 5 K = K (.int .i64 x.d.parts) := by rw [encPg_eq]; rfl
@[go_sem] theorem get_Pg_6 {x : Pg} {K : AVal → Prop} : partOf fail false 1 (encPg x) 6 K = K (.int .i64 x.d.firms) := by rw [encPg_eq]; rfl
@[go_sem] theorem get_Pg_7 {x : Pg} {K : AVal → Prop} : partOf fail false 1 (encPg x) 7 K = K (.fs 5 (x.heads.map encHd) none) := by rw [encPg_eq]; rfl
@[go_sem] theorem get_Pg_8 {x : Pg} {K : AVal → Prop} : partOf fail false 1 (encPg x) 8 K = K (.fs 12 (x.defs.map encD) none) := by rw [encPg_eq]; rfl
@[go_sem] theorem get_Pg_9 {x : Pg} {K : AVal → Prop} : partOf fail false 1 (encPg x) 9 K = K (.fs 1 (x.threads.map (AVal.int .i64)) none) := by rw [encPg_eq]; rfl
@[go_sem] theorem getA_Pg_0_7 {x : Pg} {K : AVal → Prop} : partOf fail true 7 (encPg x) 0 K = K (encDc x.d) := by rw [encPg_eq, partOf_agg]; (try simp only [encE_eq, encC_eq, encRg_eq, encDc_eq]); rfl
@[go_sem] theorem getA_Pg_0_10 {x : Pg} {K : AVal → Prop} : partOf fail true 10 (encPg x) 0 K = K (encPg x) := by rw [encPg_eq, partOf_agg]; (try simp only [encE_eq, encC_eq, encRg_eq, encDc_eq]); rfl
@[go_sem] theorem foldc_E {x : E} : AVal.agg (cellsE x) = encE x := (encE_eq x).symm
@[go_sem] theorem foldc_C {x : C} : AVal.agg (cellsC x) = encC x := (encC_eq x).symm
@[go_sem] theorem foldc_S {x : S} : AVal.agg (cellsS x) = encS x := (encS_eq x).symm
@[go_sem] theorem foldc_Rg {x : Rg} : AVal.agg (cellsRg x) = encRg x := (encRg_eq x).symm
@[go_sem] theorem foldc_Ar {x : Ar} : AVal.agg (cellsAr x) = encAr x := (encAr_eq x).symm
@[go_sem] theorem foldc_D {x : D} : AVal.agg (cellsD x) = encD x := (encD_eq x).symm
@[go_sem] theorem foldc_Hd {x : Hd} : AVal.agg (cellsHd x) = encHd x := (encHd_eq x).symm
@[go_sem] theorem foldc_Qu {x : Qu} : AVal.agg (cellsQu x) = encQu x := (encQu_eq x).symm
@[go_sem] theorem foldc_Dc {x : Dc} : AVal.agg (cellsDc x) = encDc x := (encDc_eq x).symm
@[go_sem] theorem foldc_Pg {x : Pg} : AVal.agg (cellsPg x) = encPg x := (encPg_eq x).symm
end

end Go.Par
