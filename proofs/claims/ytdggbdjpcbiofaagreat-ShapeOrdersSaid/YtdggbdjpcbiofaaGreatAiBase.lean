/- The abstract interpreter: values, heap, operations, code. Nothing is claimed in this text; the later texts prove that what it computes is what the model does. -/
import Derived.RangeFuncIn
namespace Go.Ai

/-- Abstract values. Slices bear their contents; only what is shared and changed lies in the abstract heap. -/
inductive AVal where
  | undef
  | bool (b : Bool)
  | int (k : IntKind) (n : Int)
  | str (s : ByteArray)
  | nilp
  | hp (b esz i o : Nat)
  | fp (esz : Nat) (xs : List AVal) (i o : Nat)
  | nils
  | emp
  | fs (esz : Nat) (xs : List AVal) (tok : Option Nat)
  | hs (b esz i len : Nat)
  | gs (b esz n : Nat)
  | nilm
  | map (b : Nat)
  | nilf
  | func (f : FuncId) (first caps : List AVal)
  | yield (l : Nat)
  | agg (cs : List AVal)
  | tuple (vs : List AVal)
  deriving Inhabited

def AVal.cells : AVal → List AVal
  | .agg cs => cs
  | v => [v]

inductive Arg where
  | t (n : Tmp)
  | c (v : AVal)
  deriving Inhabited

/-- An operation with its types' numbers resolved. -/
inductive AOp where
  | mv (x : Arg)
  | set (x : Arg)
  | tokz (esz : Nat) (x : Arg)
  | pick (c a b : Arg)
  | alloc (esz : Nat) (zero : AVal) (tz : List (Nat × Nat))
  | pend (size : Nat)
  | box (x : Arg) (tz : List (Nat × Nat))
  | build (zero : AVal) (parts : List ((Nat × Nat) × Arg))
  | lit (esz : Nat) (parts : List Arg)
  | litOwn (esz : Nat) (parts : List Arg)
  | litTok (esz : Nat) (parts : List Arg)
  | load (agg : Bool) (size : Nat) (p : Arg)
  | store (size : Nat) (p v : Arg) (tz : List (Nat × Nat))
  | pstore (size : Nat) (d : Tmp) (v : Arg)
  | nilc (x : Arg)
  | bin (op : BinOp) (ek : Nat) (x y : Arg)
  | un (op : UnOp) (x : Arg)
  | conv (k : IntKind) (x : Arg)
  | mkf (f : FuncId) (first caps : List Arg)
  | mkmap
  | mkslice (esz : Nat) (zero : AVal) (l c : Arg)
  | slice (esz : Nat) (x : Arg) (lo hi : Option Arg)
  | sliceStr (x : Arg) (lo hi : Option Arg)
  | addo (o : Nat) (x : Arg)
  | field (agg : Bool) (size o : Nat) (x : Arg)
  | idx (esz : Nat) (x i : Arg)
  | idxArr (len esz : Nat) (x i : Arg)
  | index (len esz : Nat) (agg : Bool) (x i : Arg)
  | indexStr (x i : Arg)
  | lookup (zero : AVal) (ok : Bool) (m k : Arg)
  | mapset (m k v : Arg)
  | mapdel (m k : Arg)
  | ext (i : Nat) (x : Arg)
  | call (f : Arg) (args : List Arg)
  | len (lk : Nat) (x : Arg)
  | append (own : Bool) (esz : Nat) (d s : Arg)
  | minmax (mx : Bool) (a b : Arg)
  | clear (esz : Nat) (zero : AVal) (x : Arg)
  | thaw (x : Arg)
  | thawLoad (p : Arg)
  | freeze (x : Arg)
  deriving Inhabited

structure AOper where
  dst : Option Tmp
  op : AOp
  guard : Option (Tmp × Bool)
  deriving Inhabited

/-- An operation of a region whose order is open: its place in the text; the reads to be looked at again behind it. -/
structure AItem where
  idx : Nat
  o : AOper
  late : List Nat
  deriving Inhabited

/-- Code with its operations resolved; 'draw' bears its operations in an order of its own (whatever may come early comes early), and for each place what must come before it. -/
inductive ACode where
  | skip
  | region (ops : List AOper)
  | draw (items : List AItem) (pre : List (List Nat))
  | seq (a b : ACode)
  | cond (c : Arg) (thn els : ACode)
  | block (id : Nat) (body : ACode)
  | loop (keep : List Tmp) (body : ACode)
  | rangeFunc (f : Arg) (params : List Tmp) (assign body : ACode)
  | exit (id : Nat)
  | label
  | ret
  deriving Inhabited

inductive AExit where
  | normal
  | exit (id : Nat)
  | ret
  deriving DecidableEq

inductive AObj where
  | rows (esz : Nat) (elems : List AVal)
  | tok (esz used : Nat)
  | grow (esz : Nat) (es : List AVal)
  | map (es : List (Int × AVal))
  | loop (ready : Bool) (pending : Option AExit) (tmps : List AVal) (params : List Tmp) (assign body : ACode)
  | dead
  deriving Inhabited

structure St where
  tmps : List AVal
  heap : List AObj

structure AFunc where
  ntmps : Nat
  body : ACode
  results : List (Tmp × Option (Bool × Nat))
  hold : Bool

/-- What the interpreter is run with: the answer of a failure; what a call of a function value does; whether two values are equal; the rounds of a loop. -/
structure Cfg (α : Type) where
  fail : α
  H : AVal → List AVal → List AObj → (AVal → List AObj → α) → α
  same : AVal → AVal → α → α
  N : Nat

mutual
def killA (n : Nat) : AVal → AVal
  | .hp b esz i o => cond (Nat.blt b n) (.hp b esz i o) .undef
  | .fs esz xs (some b) => cond (Nat.blt b n) (.fs esz xs (some b)) (.fs esz xs none)
  | .hs b esz i len => cond (Nat.blt b n) (.hs b esz i len) .undef
  | .gs b esz m => cond (Nat.blt b n) (.gs b esz m) .undef
  | .map b => cond (Nat.blt b n) (.map b) .undef
  | .yield b => cond (Nat.blt b n) (.yield b) .undef
  | .func f a c => .func f (killL n a) (killL n c)
  | .agg cs => .agg (killL n cs)
  | .tuple cs => .tuple (killL n cs)
  | v => v
def killL (n : Nat) : List AVal → List AVal
  | [] => []
  | v :: l => killA n v :: killL n l
end

def killO (n : Nat) : AObj → AObj
  | .rows esz es => .rows esz (killL n es)
  | .tok esz u => .tok esz u
  | .grow esz es => .grow esz (killL n es)
  | .map es => .map (es.map fun p => (p.1, killA n p.2))
  | .loop r pe ts ps a b => .loop r pe (killL n ts) ps a b
  | .dead => .dead

def ofConst : Value → AVal
  | .bool b => .bool b
  | .int k n => .int k n
  | .string s => .str s
  | .pointer none => .nilp
  | .slice none 0 0 => .nils
  | .map none => .nilm
  | .nilFunc => .nilf
  | _ => .undef

def St.ev (st : St) : Arg → AVal
  | .t n => st.tmps.getD n .undef
  | .c v => v

def putL (tmps : List AVal) : Option Tmp → AVal → List AVal
  | some d, v => tmps.set d v
  | none, _ => tmps

section ops
variable {α : Type} (fail : α)

def asI (v : AVal) (K : IntKind → Int → α) : α := match v with | .int k n => K k n | _ => fail
def asB (v : AVal) (K : Bool → α) : α := match v with | .bool b => K b | _ => fail
def need (b : Bool) (k : α) : α := cond b k fail

/-- Only an aggregate. -/
def aggA (x : AVal) (k : List AVal → α) : α := match x with | .agg cs => k cs | _ => fail

/-- The value at an offset of an element. -/
def partOf (agg : Bool) (size : Nat) (x : AVal) (o : Nat) (K : AVal → α) : α :=
  match agg with
  | true => match x with
    | .agg cs => cond (Nat.ble (o + size) cs.length) (K (.agg ((cs.drop o).take size))) fail
    | _ => fail
  | false => match x with
    | .agg cs => match cs[o]? with
      | some v => K v
      | none => fail
    | .undef => fail
    | .tuple _ => fail
    | v => cond (o == 0) (K v) fail

def loadA (agg : Bool) (size : Nat) (p : AVal) (heap : List AObj) (K : AVal → α) : α :=
  match p with
  | .hp b esz i o => match heap[b]? with
    | some (.rows esz' es) => cond (esz == esz') (match es[i]? with
      | some x => partOf fail agg size x o K
      | none => fail) fail
    | _ => fail
  | .fp _ xs i o => match xs[i]? with
    | some x => partOf fail agg size x o K
    | none => fail
  | _ => fail

def spliceL (cs : List AVal) (o : Nat) (vs : List AVal) : List AVal := cs.take o ++ vs ++ cs.drop (o + vs.length)

def storable : AVal → Bool
  | .undef => false
  | .tuple _ => false
  | _ => true

/-- The element after a store into it. -/
def putPart (size : Nat) (x : AVal) (o : Nat) (v : AVal) (K : AVal → α) : α :=
  cond (storable v && v.cells.length == size) (
  match x with
  | .agg cs => cond (Nat.ble (o + size) cs.length) (K (.agg (spliceL cs o v.cells))) fail
  | .undef => fail
  | _ => cond (o == 0 && size == 1) (K v) fail) fail

def storeA (size : Nat) (p v : AVal) (heap : List AObj) (K : List AObj → α) : α :=
  match p with
  | .hp b esz i o => match heap[b]? with
    | some (.rows esz' es) => cond (esz == esz') (match es[i]? with
      | some x => putPart fail size x o v fun x' => K (heap.set b (.rows esz' (es.set i x')))
      | none => fail) fail
    | _ => fail
  | _ => fail

def addOff (p : AVal) (o' : Nat) (K : AVal → α) : α :=
  match p with
  | .hp b esz i o => K (.hp b esz i (o + o'))
  | .fp esz xs i o => K (.fp esz xs i (o + o'))
  | _ => fail

def inB (n : Int) (len : Nat) : Bool := decide (0 ≤ n) && decide (n < (len : Int))

def indexA (esz : Nat) (x ix : AVal) (K : AVal → α) : α :=
  asI fail ix fun _ n =>
  match x with
  | .fs e xs _ => cond (e == esz && inB n xs.length) (K (.fp e xs n.toNat 0)) fail
  | .hs b e i len => cond (e == esz && inB n len) (K (.hp b e (i + n.toNat) 0)) fail
  | _ => fail

def indexArrA (len sz : Nat) (x ix : AVal) (K : AVal → α) : α :=
  asI fail ix fun _ n =>
  match x with
  | .hp b esz i o => cond (inB n len) (K (.hp b esz i (o + n.toNat * sz))) fail
  | .fp esz xs i o => cond (inB n len) (K (.fp esz xs i (o + n.toNat * sz))) fail
  | _ => fail

/-- len at a slice (0), a string (1), a map (2) -/
def lenA (lk : Nat) (x : AVal) (heap : List AObj) (K : Nat → α) : α :=
  match lk, x with
  | 0, .fs _ xs _ => K xs.length
  | 0, .nils => K 0
  | 0, .emp => K 0
  | 0, .hs _ _ _ len => K len
  | 0, .gs _ _ n => K n
  | 1, .str s => K s.size
  | 2, .nilm => K 0
  | 2, .map b => match heap[b]? with
    | some (.map es) => K es.length
    | _ => fail
  | _, _ => fail

/-- The elements of a slice. -/
def elemsA (esz : Nat) (x : AVal) (heap : List AObj) (K : List AVal → α) : α :=
  match x with
  | .fs e xs _ => cond (e == esz) (K xs) fail
  | .nils => K []
  | .emp => K []
  | .hs b e0 i len => match heap[b]? with
    | some (.rows e es) => cond (e0 == esz && e == esz && Nat.ble (i + len) es.length) (K (killL 0 ((es.drop i).take len))) fail
    | _ => fail
  | _ => fail

def appLim : Nat := 1048576

/-- append: onto nil or an empty literal; onto a slice that bears a token. -/
def appendA (own : Bool) (esz : Nat) (d : AVal) (ys : List AVal) (heap : List AObj) (K : AVal → List AObj → α) : α :=
  let fresh : α := cond (Nat.ble ys.length appLim) (cond own
    (cond (Nat.ble 1 ys.length) (K (.hs heap.length esz 0 ys.length) (heap ++ [.rows esz ys])) (K d heap))
    (K (.fs esz ys (some heap.length)) (heap ++ [.tok esz ys.length]))) fail
  match d with
  | .nils => fresh
  | .emp => fresh
  | .fs e xs (some b) => cond (e == esz) (match heap[b]? with
    | some (.tok esz' used) => cond (esz' == esz && used == xs.length && Nat.ble (xs.length + ys.length) appLim)
        (K (.fs e (xs ++ ys) (some b)) (heap.set b (.tok esz' (xs.length + ys.length)))) fail
    | _ => fail) fail
  | .gs b e n => cond (e == esz) (match heap[b]? with
    | some (.grow esz' es) => cond (esz' == esz && es.length == n && Nat.ble (n + ys.length) appLim)
        (K (.gs b e (n + ys.length)) (heap.set b (.grow esz' (es ++ ys)))) fail
    | _ => fail) fail
  | _ => fail

/-- A slice that grew, to be changed in place from here on. -/
def thawA (v : AVal) (heap : List AObj) (K : AVal → List AObj → α) : α :=
  match v with
  | .gs _ e 0 => K (.fs e [] none) heap
  | .gs b e (n + 1) => match heap[b]? with
    | some (.grow e' es) => cond (e' == e && es.length == n + 1) (K (.hs b e 0 (n + 1)) (heap.set b (.rows e es))) fail
    | some (.rows e' es) => cond (e' == e && es.length == n + 1) (K (.hs b e 0 (n + 1)) heap) fail
    | _ => fail
  | .fs e xs none => K (.fs e xs none) heap
  | .nils => K .nils heap
  | .emp => K .emp heap
  | _ => fail

/-- A slice that is changed no more. -/
def freezeA (v : AVal) (heap : List AObj) (K : AVal → List AObj → α) : α :=
  match v with
  | .hs b e i len => match heap[b]? with
    | some (.rows e' es) => cond (e' == e && Nat.ble (i + len) es.length) (K (.fs e (killL 0 ((es.drop i).take len)) none) (heap.set b .dead)) fail
    | _ => fail
  | .gs b e n => match heap[b]? with
    | some (.grow e' es) => cond (e' == e && es.length == n) (K (.fs e (killL 0 es) none) (heap.set b .dead)) fail
    | _ => fail
  | .fs e xs none => K (.fs e xs none) heap
  | .nils => K .nils heap
  | .emp => K .emp heap
  | _ => fail

/-- s[lo:hi] -/
def boundA (v : Option AVal) (dflt : Nat) (k : Nat → α) : α :=
  match v with
  | none => k dflt
  | some (.int _ n) => cond (decide (0 ≤ n)) (k n.toNat) fail
  | _ => fail

def sliceA (esz : Nat) (x : AVal) (lo hi : Option AVal) (K : AVal → α) : α :=
  match x with
  | .fs e xs _ => boundA fail lo 0 fun l => boundA fail hi xs.length fun h => cond (e == esz && Nat.ble l h && Nat.ble h xs.length) (K (.fs e ((xs.take h).drop l) none)) fail
  | .nils => boundA fail lo 0 fun l => boundA fail hi 0 fun h => cond (l == 0 && h == 0) (K .nils) fail
  | .emp => boundA fail lo 0 fun l => boundA fail hi 0 fun h => cond (l == 0 && h == 0) (K .emp) fail
  | .hs b e i len => boundA fail lo 0 fun l => boundA fail hi len fun h => cond (e == esz && Nat.ble l h && Nat.ble h len) (K (.hs b e (i + l) (h - l))) fail
  | _ => fail

def sliceStrA (x : AVal) (lo hi : Option AVal) (K : AVal → α) : α :=
  match x with
  | .str s => boundA fail lo 0 fun l => boundA fail hi s.size fun h => cond (Nat.ble l h && Nat.ble h s.size) (K (.str (s.extract l h))) fail
  | _ => fail

/-- Are two values of plain kinds equal? -/
def plainEq : AVal → AVal → Option Bool
  | .int j a, .int k b => match decide (j = k) with | true => some (decide (a = b)) | false => none
  | .bool a, .bool b => some (a == b)
  | _, _ => none

/-- The kinds of plain cells, as a number. -/
def codeOf : List AVal → Nat
  | [] => 0
  | .int _ _ :: l => 3 * codeOf l + 1
  | .bool _ :: l => 3 * codeOf l + 2
  | _ :: l => 3 * codeOf l

def plainEqs : List AVal → List AVal → Option Bool
  | [], [] => some true
  | x :: xs, y :: ys => match plainEq x y with
    | some a => match plainEqs xs ys with
      | some b => some (a && b)
      | none => none
    | none => none
  | _, _ => none

/-- Equality at a type of a kind: 1 bool, 2 pointer, 3 slice, 4 map, 5 function, 6 struct. -/
def eqlA (ek : Nat) (x y : AVal) (K : Bool → α) : α :=
  match ek, x, y with
  | 1, .bool a, .bool b => K (a == b)
  | 2, .nilp, .nilp => K true
  | 2, .nilp, .hp .. => K false
  | 2, .nilp, .fp .. => K false
  | 2, .hp .., .nilp => K false
  | 2, .fp .., .nilp => K false
  | 3, .nils, .nils => K true
  | 3, .emp, .nils => K false
  | 3, .hs .., .nils => K false
  | 3, .fs _ (_ :: _) _, .nils => K false
  | 4, .nilm, .nilm => K true
  | 4, .map _, .nilm => K false
  | 5, .nilf, .nilf => K true
  | 5, .func .., .nilf => K false
  | 5, .yield _, .nilf => K false
  | n + 6, .agg xs, .agg ys => cond (codeOf xs == n) (match plainEqs xs ys with
    | some b => K b
    | none => fail) fail
  | _, _, _ => fail

def strLt (x y : ByteArray) : Bool := Op.bytesLess x.toList y.toList
def strEq (x y : ByteArray) : Bool := x.toList == y.toList

def binA (op : BinOp) (ek : Nat) (x y : AVal) (K : AVal → α) : α :=
  match x, y with
  | .int k a, .int k' b => match op with
    | .shl => cond (decide (0 ≤ b)) (K (.int k (k.wrap (a * 2 ^ (min b.toNat k.bits))))) fail
    | .shr => cond (decide (0 ≤ b)) (K (.int k (a.fdiv (2 ^ (min b.toNat k.bits))))) fail
    | .add => cond (decide (k = k')) (K (.int k (k.wrap (a + b)))) fail
    | .sub => cond (decide (k = k')) (K (.int k (k.wrap (a - b)))) fail
    | .mul => cond (decide (k = k')) (K (.int k (k.wrap (a * b)))) fail
    | .quo => cond (decide (k = k') && !decide (b = 0)) (K (.int k (k.wrap (a.tdiv b)))) fail
    | .rem => cond (decide (k = k') && !decide (b = 0)) (K (.int k (a.tmod b))) fail
    | .and => cond (decide (k = k')) (K (.int k (k.wrap (BitVec.ofInt k.bits a &&& BitVec.ofInt k.bits b).toNat))) fail
    | .or => cond (decide (k = k')) (K (.int k (k.wrap (BitVec.ofInt k.bits a ||| BitVec.ofInt k.bits b).toNat))) fail
    | .xor => cond (decide (k = k')) (K (.int k (k.wrap (BitVec.ofInt k.bits a ^^^ BitVec.ofInt k.bits b).toNat))) fail
    | .andNot => cond (decide (k = k')) (K (.int k (k.wrap (BitVec.ofInt k.bits a &&& ~~~(BitVec.ofInt k.bits b)).toNat))) fail
    | .eql => cond (decide (k = k')) (K (.bool (decide (a = b)))) fail
    | .neq => cond (decide (k = k')) (K (.bool (!decide (a = b)))) fail
    | .lss => cond (decide (k = k')) (K (.bool (decide (a < b)))) fail
    | .leq => cond (decide (k = k')) (K (.bool (decide (a ≤ b)))) fail
    | .gtr => cond (decide (k = k')) (K (.bool (decide (a > b)))) fail
    | .geq => cond (decide (k = k')) (K (.bool (decide (a ≥ b)))) fail
  | .str a, .str b => match op with
    | .eql => K (.bool (strEq a b))
    | .neq => K (.bool (!strEq a b))
    | .lss => K (.bool (strLt a b))
    | .leq => K (.bool (strLt a b || strEq a b))
    | .gtr => K (.bool (!(strLt a b || strEq a b)))
    | .geq => K (.bool (!strLt a b))
    | _ => fail
  | x, y => match op with
    | .eql => eqlA fail ek x y fun b => K (.bool b)
    | .neq => eqlA fail ek x y fun b => K (.bool (!b))
    | _ => fail

def unA (op : UnOp) (x : AVal) (K : AVal → α) : α :=
  match op, x with
  | .not, .bool b => K (.bool (!b))
  | .neg, .int k n => K (.int k (k.wrap (0 - n)))
  | _, _ => fail

/-- The value of a struct of given parts. -/
def buildA : List ((Nat × Nat) × AVal) → AVal → (AVal → α) → α
  | [], z, K => K z
  | (p, v) :: rest, .agg cs, K => cond (storable v && v.cells.length == p.2 && Nat.ble (p.1 + p.2) cs.length) (buildA rest (.agg (spliceL cs p.1 v.cells)) K) fail
  | _, _, _ => fail

def findA (k : Int) : List (Int × AVal) → Option AVal
  | [] => none
  | (k', v) :: l => cond (decide (k = k')) (some v) (findA k l)

def updA (k : Int) (v : AVal) : List (Int × AVal) → List (Int × AVal)
  | [] => [(k, v)]
  | (k', v') :: l => cond (decide (k = k')) ((k', v) :: l) ((k', v') :: updA k v l)

def delA (k : Int) : List (Int × AVal) → List (Int × AVal)
  | [] => []
  | (k', v') :: l => cond (decide (k = k')) l ((k', v') :: delA k l)

def withMap (m : AVal) (heap : List AObj) (K : Nat → List (Int × AVal) → α) : α :=
  match m with
  | .map b => match heap[b]? with
    | some (.map es) => K b es
    | _ => fail
  | _ => fail

def minmaxA (mx : Bool) (x y : AVal) (K : AVal → α) : α :=
  match x, y with
  | .int k a, .int k' b => cond (decide (k = k')) (K (.int k (cond mx (cond (decide (b > a)) b a) (cond (decide (b < a)) b a)))) fail
  | _, _ => fail

/-- Sizes from here on mean slices that are changed in place behind their growth. -/
def growLim : Nat := 1048576
def newV (esz : Nat) (n : Nat) : AVal := cond (Nat.blt esz growLim) (.fs esz [] (some n)) (.gs n (esz - growLim) 0)
def newO (esz : Nat) : AObj := cond (Nat.blt esz growLim) (.tok esz 0) (.grow (esz - growLim) [])

/-- nil and the empty literal, with a token of their own. -/
def tokC : List (Nat × Nat) → List AVal → List AObj → (List AVal → List AObj → α) → α
  | [], cs, h, K => K cs h
  | (o, esz) :: l, cs, h, K => match cs[o]? with
    | some .nils => tokC l (cs.set o (newV esz h.length)) (h ++ [newO esz]) K
    | some .emp => tokC l (cs.set o (newV esz h.length)) (h ++ [newO esz]) K
    | _ => fail

def tokV (tz : List (Nat × Nat)) (v : AVal) (h : List AObj) (K : AVal → List AObj → α) : α :=
  match tz with
  | [] => K v h
  | tz => match v with
    | .agg cs => tokC fail tz cs h fun cs' h' => K (.agg cs') h'
    | .nils => match tz with
      | [(0, esz)] => K (newV esz h.length) (h ++ [newO esz])
      | _ => fail
    | .emp => match tz with
      | [(0, esz)] => K (newV esz h.length) (h ++ [newO esz])
      | _ => fail
    | _ => fail

def partsOk (esz : Nat) : List AVal → Bool
  | [] => true
  | v :: rest => storable v && v.cells.length == esz && partsOk esz rest

end ops

/-- One operation. -/
def opA {α : Type} (C : Cfg α) (o : AOp) (st : St) (K : AVal → List AObj → α) : α :=
  match o with
  | .mv x => K (st.ev x) st.heap
  | .set x => K (st.ev x) st.heap
  | .tokz esz x => tokV C.fail [(0, esz)] (st.ev x) st.heap K
  | .pick c a b => asB C.fail (st.ev c) fun t => cond t (K (st.ev a) st.heap) (K (st.ev b) st.heap)
  | .alloc esz zero tz => tokV C.fail tz zero st.heap fun z h => K (.hp h.length esz 0 0) (h ++ [.rows esz [z]])
  | .pend _ => K .undef st.heap
  | .box x tz => cond (storable (st.ev x)) (tokV C.fail tz (st.ev x) st.heap fun z h => K (.hp h.length (st.ev x).cells.length 0 0) (h ++ [.rows (st.ev x).cells.length [z]])) C.fail
  | .build zero parts => buildA C.fail (parts.map fun p => (p.1, st.ev p.2)) zero fun v => K v st.heap
  | .lit esz parts => cond (partsOk esz (parts.map st.ev)) (match parts with
    | [] => K .emp st.heap
    | _ => K (.fs esz (killL 0 (parts.map st.ev)) none) st.heap) C.fail
  | .litOwn esz parts => cond (partsOk esz (parts.map st.ev)) (match parts with
    | [] => K .emp st.heap
    | _ => K (.hs st.heap.length esz 0 parts.length) (st.heap ++ [.rows esz (parts.map st.ev)])) C.fail
  | .litTok esz parts => cond (partsOk esz (parts.map st.ev)) (match parts with
    | [] => C.fail
    | _ => K (.fs esz (killL 0 (parts.map st.ev)) (some st.heap.length)) (st.heap ++ [.tok esz parts.length])) C.fail
  | .load agg size p => loadA C.fail agg size (st.ev p) st.heap fun v => K v st.heap
  | .store size p v tz => tokV C.fail tz (st.ev v) st.heap fun z h => storeA C.fail size (st.ev p) z h fun h' => K .undef h'
  | .pstore _ _ _ => C.fail
  | .nilc x => match st.ev x with
    | .hp b esz i o => K (.hp b esz i o) st.heap
    | .fp esz xs i o => K (.fp esz xs i o) st.heap
    | _ => C.fail
  | .bin op ek x y => binA C.fail op ek (st.ev x) (st.ev y) fun v => K v st.heap
  | .un op x => unA C.fail op (st.ev x) fun v => K v st.heap
  | .conv k x => asI C.fail (st.ev x) fun _ n => K (.int k (k.wrap n)) st.heap
  | .mkf f first caps => K (.func f (first.map st.ev) (caps.map st.ev)) st.heap
  | .mkmap => K (.map st.heap.length) (st.heap ++ [.map []])
  | .mkslice esz zero l c => asI C.fail (st.ev l) fun _ n => asI C.fail (st.ev c) fun _ n' =>
    cond (decide (0 ≤ n) && decide (n = n') && decide (n ≤ 1048576))
      (K (.hs st.heap.length esz 0 n.toNat) (st.heap ++ [.rows esz (List.replicate n.toNat zero)])) C.fail
  | .slice esz x lo hi => sliceA C.fail esz (st.ev x) (lo.map st.ev) (hi.map st.ev) fun v => K v st.heap
  | .sliceStr x lo hi => sliceStrA C.fail (st.ev x) (lo.map st.ev) (hi.map st.ev) fun v => K v st.heap
  | .addo o' x => addOff C.fail (st.ev x) o' fun v => K v st.heap
  | .field agg size o' x => aggA C.fail (st.ev x) fun cs => partOf C.fail agg size (.agg cs) o' fun v => K v st.heap
  | .idx esz x i => indexA C.fail esz (st.ev x) (st.ev i) fun v => K v st.heap
  | .idxArr len sz x i => indexArrA C.fail len sz (st.ev x) (st.ev i) fun v => K v st.heap
  | .index len sz agg x i => asI C.fail (st.ev i) fun _ n => cond (inB n len) (aggA C.fail (st.ev x) fun cs => partOf C.fail agg sz (.agg cs) (n.toNat * sz) fun v => K v st.heap) C.fail
  | .indexStr x i => asI C.fail (st.ev i) fun _ n => match st.ev x with
    | .str s => cond (inB n s.size) (K (.int .u8 ((s.data.toList.getD n.toNat 0).toNat : Nat)) st.heap) C.fail
    | _ => C.fail
  | .lookup zero ok m k => asI C.fail (st.ev k) fun ik n => cond (decide (ik = .i64)) (withMap C.fail (st.ev m) st.heap fun _ es =>
      match findA n es with
      | some v => K (cond ok (.tuple [v, .bool true]) v) st.heap
      | none => K (cond ok (.tuple [zero, .bool false]) zero) st.heap) C.fail
  | .mapset m k v => asI C.fail (st.ev k) fun ik n => cond (decide (ik = .i64) && storable (st.ev v)) (withMap C.fail (st.ev m) st.heap fun b es => K .undef (st.heap.set b (.map (updA n (st.ev v) es)))) C.fail
  | .mapdel m k => asI C.fail (st.ev k) fun ik n => cond (decide (ik = .i64)) (withMap C.fail (st.ev m) st.heap fun b es => K (.tuple []) (st.heap.set b (.map (delA n es)))) C.fail
  | .ext i x => match st.ev x with
    | .tuple vs => match vs[i]? with
      | some v => K v st.heap
      | none => C.fail
    | _ => C.fail
  | .call f args => C.H (st.ev f) (args.map st.ev) st.heap K
  | .len lk x => lenA C.fail lk (st.ev x) st.heap fun n => K (.int .i64 n) st.heap
  | .append own esz d s => elemsA C.fail esz (st.ev s) st.heap fun ys => appendA C.fail own esz (st.ev d) ys st.heap K
  | .minmax mx a b => minmaxA C.fail mx (st.ev a) (st.ev b) fun v => K v st.heap
  | .clear esz0 zero x => match st.ev x with
    | .nils => K (.tuple []) st.heap
    | .emp => K (.tuple []) st.heap
    | .fs _ [] _ => K (.tuple []) st.heap
    | .hs b esz i len => match st.heap[b]? with
      | some (.rows esz' es) => cond (esz == esz' && esz == esz0 && Nat.ble (i + len) es.length) (K (.tuple []) (st.heap.set b (.rows esz' (es.take i ++ List.replicate len zero ++ es.drop (i + len))))) C.fail
      | _ => C.fail
    | _ => C.fail
  | .thaw x => thawA C.fail (st.ev x) st.heap K
  | .thawLoad p => loadA C.fail false 1 (st.ev p) st.heap fun v => thawA C.fail v st.heap K
  | .freeze x => freezeA C.fail (st.ev x) st.heap K

/-- Is an operation wanted? -/
def guardA {α : Type} (fail : α) (o : AOper) (tmps : List AVal) (run skip : α) : α :=
  match o.guard with
  | none => run
  | some (t, want) => match tmps.getD t .undef with
      | .bool b => match want with
        | true => cond b run skip
        | false => cond b skip run
      | .tuple [] => skip
      | _ => fail

def opsA {α : Type} (C : Cfg α) : List AOper → St → (St → α) → α
  | [], st, K => K st
  | o :: rest, st, K => guardA C.fail o st.tmps
      (opA C o.op st fun v h' => opsA C rest ⟨putL st.tmps o.dst v, h'⟩ K)
      (opsA C rest ⟨putL st.tmps o.dst (.tuple []), st.heap⟩ K)

def AOp.effect : AOp → Bool
  | .set _ | .tokz .. | .alloc .. | .box .. | .litOwn .. | .litTok .. | .store .. | .pstore .. | .mkmap | .mkslice .. | .mapset .. | .mapdel .. | .call .. | .append .. | .clear .. | .thaw .. | .thawLoad .. | .freeze .. => true
  | _ => false

def AOp.reads : AOp → Bool
  | .load .. | .lookup .. | .len .. => true
  | _ => false

/-- An operation without effect, its answer as it is. -/
def evalA (op : AOp) (st : St) : Option AVal :=
  opA (α := Option AVal) ⟨none, fun _ _ _ _ => none, fun _ _ _ => none, 0⟩ op st fun v _ => some v

def evalG (o : AOper) (st : St) : Option AVal :=
  guardA none o st.tmps (evalA o.op st) (some (.tuple []))

def optK {α : Type} (fail : α) (x : Option AVal) (K : AVal → α) : α :=
  match x with
  | some v => K v
  | none => fail

/-- The reads that may come later give the same. -/
def lateA {α : Type} (C : Cfg α) : List AItem → St → α → α
  | [], _, k => k
  | it :: l, st, k => match it.o.dst with
    | some d => optK C.fail (evalG it.o st) fun v => C.same v (st.tmps.getD d .undef) (lateA C l st k)
    | none => C.fail

/-- A region whose order is open; 'done': the reads that lie behind. -/
def drawA {α : Type} (C : Cfg α) : List AItem → List AItem → St → (St → α) → α
  | _, [], st, K => K st
  | done, it :: rest, st, K =>
    match it.o.op.effect with
    | true => guardA C.fail it.o st.tmps
      (match it.o.op with
      | .pstore size d v => cond (storable (st.ev v) && (st.ev v).cells.length == size && Nat.blt d st.tmps.length)
          (lateA C (done.filter fun r => it.late.contains r.idx) ⟨st.tmps.set d (.hp st.heap.length size 0 0), st.heap ++ [.rows size [st.ev v]]⟩
            (drawA C done rest ⟨st.tmps.set d (.hp st.heap.length size 0 0), st.heap ++ [.rows size [st.ev v]]⟩ K)) C.fail
      | op => opA C op st fun v h' => lateA C (done.filter fun r => it.late.contains r.idx) ⟨putL st.tmps it.o.dst v, h'⟩
          (drawA C done rest ⟨putL st.tmps it.o.dst v, h'⟩ K))
      (drawA C done rest ⟨putL st.tmps it.o.dst (.tuple []), st.heap⟩ K)
    | false => optK C.fail (evalG it.o st) fun v => drawA C (cond it.o.op.reads (done ++ [it]) done) rest ⟨putL st.tmps it.o.dst v, st.heap⟩ K

/-- At a loop's head: what is kept; what lay there when the loop began. -/
def keepL (n : Nat) (keep : List Tmp) : Nat → List AVal → List AVal
  | _, [] => []
  | i, v :: l => cond (keep.contains i) (killA n v) .undef :: keepL n keep (i + 1) l

def St.head (n : Nat) (keep : List Tmp) (st : St) : St := ⟨keepL n keep 0 st.tmps, (st.heap.take n).map (killO n)⟩

def loopA {α : Type} (fail : α) (n : Nat) (keep : List Tmp) (B : St → (AExit → St → α) → α) : Nat → St → (AExit → St → α) → α
  | 0, _, _ => fail
  | N + 1, st, K => B (st.head n keep) fun e st' => match e with
    | .normal => loopA fail n keep B N st' K
    | .exit j => K (.exit j) st'
    | .ret => K .ret st'

def exec {α : Type} (C : Cfg α) : ACode → St → (AExit → St → α) → α
  | .skip, st, K => K .normal st
  | .label, st, K => K .normal st
  | .exit id, st, K => K (.exit id) st
  | .ret, st, K => K .ret st
  | .region ops, st, K => opsA C ops st fun st' => K .normal st'
  | .draw items _, st, K => drawA C [] items st fun st' => K .normal st'
  | .seq a b, st, K => exec C a st fun e st' => match e with
    | .normal => exec C b st' K
    | .exit j => K (.exit j) st'
    | .ret => K .ret st'
  | .cond c x y, st, K => asB C.fail (st.ev c) fun t => cond t (exec C x st K) (exec C y st K)
  | .block id body, st, K => exec C body st fun e st' => match e with
    | .normal => K .normal st'
    | .exit j => cond (j == id) (K .normal st') (K (.exit j) st')
    | .ret => K .ret st'
  | .loop keep body, st, K => loopA C.fail st.heap.length keep (exec C body) C.N st K
  | .rangeFunc g params assign body, st, K =>
    C.H (st.ev g) [.yield st.heap.length] (st.heap ++ [.loop true none st.tmps params assign body]) fun _ h' =>
      match h'[st.heap.length]? with
      | some (.loop rd pe _ _ _ _) => match pe with
        | none => cond rd (K .normal ⟨st.tmps, (h'.take st.heap.length).map (killO st.heap.length)⟩) C.fail
        | some e => K e ⟨st.tmps, (h'.take st.heap.length).map (killO st.heap.length)⟩
      | _ => C.fail

/-- The results of a function. -/
def resultsA {α : Type} (fail : α) : List (Tmp × Option (Bool × Nat)) → St → (List AVal → α) → α
  | [], _, K => K []
  | (t, none) :: l, st, K => resultsA fail l st fun vs => K (st.tmps.getD t .undef :: vs)
  | (t, some (agg, size)) :: l, st, K => loadA fail agg size (st.tmps.getD t .undef) st.heap fun v => resultsA fail l st fun vs => K (v :: vs)

def packA : List AVal → AVal
  | [v] => v
  | vs => .tuple vs

/-- A function's body, and what is handed back: what lay there when it was entered. -/
def bodyA {α : Type} (C : Cfg α) (f : AFunc) (args : List AVal) (heap : List AObj) (K : AVal → List AObj → α) : α :=
  exec C f.body ⟨args ++ List.replicate (f.ntmps - args.length) .undef, heap⟩ fun e st' =>
    match e with
    | .exit _ => C.fail
    | _ => resultsA C.fail f.results st' fun vs => match f.hold with
      | true => K (packA vs) st'.heap
      | false => K (killA heap.length (packA vs)) ((st'.heap.take heap.length).map (killO heap.length))

/-- The end of a round. -/
def endA {α : Type} (fail : α) (l n : Nat) (e : AExit) (heap : List AObj) (K : AVal → List AObj → α) : α :=
  match heap[l]? with
  | some (.loop _ _ tmps params assign body) => match e with
    | .normal => K (.bool true) (((heap.set l (.loop true none tmps params assign body)).take n).map (killO n))
    | .exit id => K (.bool false) (((heap.set l (.loop false (some (.exit id)) tmps params assign body)).take n).map (killO n))
    | .ret => K (.bool false) (((heap.set l (.loop false (some .ret) tmps params assign body)).take n).map (killO n))
  | _ => fail

/-- A round of a range over a function. -/
def roundA {α : Type} (C : Cfg α) (l : Nat) (args : List AVal) (heap : List AObj) (K : AVal → List AObj → α) : α :=
  match heap[l]? with
  | some (.loop _ _ tmps params assign body) => cond (args.length == params.length)
      (exec C assign ⟨(params.zip args).foldl (fun ts p => ts.set p.1 p.2) tmps, heap⟩ fun e st => match e with
        | .normal => match st.heap[l]? with
          | some (.loop true none tmps params assign body') => exec C body ⟨st.tmps, st.heap.set l (.loop false none tmps params assign body')⟩ fun e' st' => endA C.fail l heap.length e' st'.heap K
          | _ => C.fail
        | _ => C.fail) C.fail
  | _ => C.fail

end Go.Ai
