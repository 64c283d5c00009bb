/- The abstract values, the abstract memory, and the abstract execution of the program's operations: definitions alone. Conditions: none. -/
import Derived.Calls
import Derived.Orders
import Derived.RowKit3
import Derived.Below
import Derived.Laws.OwnMore
namespace Go.Proofs.Ythncmjlcmlmnmaa.V
open Go

/-- A closed value of one cell: it never changes. 'sl': a slice of elements of sz cells; sp: what lies behind it up to its capacity, if that is known. 'rp': a pointer to cells that never change. -/
inductive CV where
  | v (x : Value)
  | sl (sz : Nat) (es : List (List CV)) (sp : Option (List (List CV)))
  | rp (cs : List CV)
  deriving Inhabited

/-- A value in a frame. 't': the first n elements of the array 'id'. 'p': a pointer into the block 'id'. 'tp': into element i of the array 'id'. -/
inductive AV where
  | c (x : CV)
  | t (id ver n : Nat)
  | p (id ver off : Nat)
  | tp (id ver i off : Nat)
  | agg (cs : List AV)
  | tup (cs : List AV)
  | dead
  deriving Inhabited

inductive Ob where
  | blk (ver : Nat) (cs : List AV)
  | arr (ver : Nat) (sz : Nat) (es : List (List CV)) (cap : Option Nat) (pub : Bool)
  deriving Inhabited

def Ob.ver : Ob → Nat
  | .blk v _ => v
  | .arr v _ _ _ _ => v

structure Mem where
  obs : List (Nat × Ob)
  clk : Nat
  deriving Inhabited

def getL : List (Nat × Ob) → Nat → Option Ob
  | [], _ => none
  | (j, o) :: r, i => if i = j then some o else getL r i
def insL : List (Nat × Ob) → Nat → Ob → List (Nat × Ob)
  | [], i, o => [(i, o)]
  | (j, p) :: r, i, o => if i = j then (i, o) :: r else if i < j then (i, o) :: (j, p) :: r else (j, p) :: insL r i o
def delL : List (Nat × Ob) → Nat → List (Nat × Ob)
  | [], _ => []
  | (j, p) :: r, i => if i = j then delL r i else (j, p) :: delL r i
def Mem.get (m : Mem) (i : Nat) : Option Ob := getL m.obs i
/-- changed in place: the version stays -/
def Mem.upd (m : Mem) (i : Nat) (o : Ob) : Mem := ⟨insL m.obs i o, m.clk⟩
/-- a new object: its version is the clock's -/
def Mem.new (m : Mem) (i : Nat) (f : Nat → Ob) : Mem := ⟨insL m.obs i (f m.clk), m.clk + 1⟩
def Mem.del (m : Mem) (i : Nat) : Mem := ⟨delL m.obs i, m.clk⟩

/-- What the execution knows of a type. -/
inductive TK where
  | sc
  | bool
  | int (k : IntKind)
  | str
  | st (fs : List (Nat × Nat × Bool))          -- a struct's fields: where, how many cells, struct or array?
  | ar (n esz : Nat) (eagg : Bool)
  | sl (esz : Nat) (eagg : Bool) (ebytes : Nat) (u8 : Bool)
  | pt (esz : Nat) (eagg : Bool)
  deriving Inhabited
structure TI where
  agg : Bool
  size : Nat
  zero : List CV
  ezero : List CV
  k : TK
  eq : List Nat      -- a struct that '==' goes through cell by cell: what its cells are (1 number, 2 bool, 3 string)
  deriving Inhabited
abbrev Tab := List TI
def TK.isSc : TK → Bool | .sc => true | _ => false
def TI.no : TI := ⟨false, 0, [], [], .sc, []⟩
def Tab.at (T : Tab) (t : Nat) : TI := T.getD t TI.no
def Tab.esz (T : Tab) (t : Nat) : Nat := match (T.at t).k with | .sl e _ _ _ => e | _ => 0

/-- The contents of the package-level variables that are read. -/
abbrev Glob := Nat → Option (List CV)

abbrev KK := AV → Mem → Prop

/-- a value that one cell can hold -/
abbrev solidV (v : Value) : Bool := v.oneCell'
def AV.solid : AV → Bool
  | .agg _ | .tup _ | .dead => false
  | _ => true
def AV.isDead : AV → Bool
  | .dead => true
  | _ => false
def constA (esz : Nat) : Value → AV
  | .slice none 0 0 => .c (.sl esz [] (some []))
  | v => if solidV v then .c (.v v) else .dead

def evO (T : Tab) (G : Glob) (tmps : List AV) (ty : Nat) : Operand → AV
  | .tmp t => tmps.getD t .dead
  | .const v => constA (T.esz ty) v
  | .global g => match G g with | some cs => .c (.rp cs) | none => .dead
  | .func f => .c (.v (.func (.func f) #[] #[]))

def AV.cells : AV → List AV
  | .agg cs => cs
  | x => [x]

def condB (x : AV) (A B : Prop) : Prop := match x with
  | .c (.v (.bool b)) => (b = true → A) ∧ (b = false → B)
  | _ => False

/-- A value of one or more cells out of a row of cells. -/
def readA (agg : Bool) (s : Nat) (cs : List AV) (K : AV → Prop) : Prop :=
  if agg then s ≤ cs.length ∧ K (.agg (cs.take s)) else match cs with | x :: _ => K x | [] => False

/-- Closing: spare room is forgotten. -/
def normC : CV → CV
  | .sl sz es _ => .sl sz es none
  | x => x

def closeA (m : Mem) : AV → (CV → Mem → Prop) → Prop
  | .c x, K => K (normC x) m
  | .t id ver n, K => match m.get id with
    | some (.arr v sz es cap _) => v = ver ∧ n ≤ es.length ∧ K (.sl sz (es.take n) none) (m.upd id (.arr v sz es cap true))
    | _ => False
  | _, _ => False
def closeL (m : Mem) : List AV → (List CV → Mem → Prop) → Prop
  | [], K => K [] m
  | a :: l, K => closeA m a fun x m => closeL m l fun xs m => K (x :: xs) m

-- ---------------------------------------------------------------- numbers, strings, bools
def sBin (op : BinOp) : Value → Value → (Value → Prop) → Prop
  | .int k a, .int k' b, K => match op with
    | .shl => 0 ≤ b ∧ K (.int k (k.wrap (a * 2 ^ (min b.toNat k.bits))))
    | .shr => 0 ≤ b ∧ K (.int k (a.fdiv (2 ^ (min b.toNat k.bits))))
    | .add => k = k' ∧ K (.int k (k.wrap (a + b)))
    | .sub => k = k' ∧ K (.int k (k.wrap (a - b)))
    | .mul => k = k' ∧ K (.int k (k.wrap (a * b)))
    | .quo => k = k' ∧ b ≠ 0 ∧ K (.int k (k.wrap (a.tdiv b)))
    | .rem => k = k' ∧ b ≠ 0 ∧ K (.int k (a.tmod b))
    | .and => k = k' ∧ K (.int k (k.wrap (BitVec.ofInt k.bits a &&& BitVec.ofInt k.bits b).toNat))
    | .or => k = k' ∧ K (.int k (k.wrap (BitVec.ofInt k.bits a ||| BitVec.ofInt k.bits b).toNat))
    | .xor => k = k' ∧ K (.int k (k.wrap (BitVec.ofInt k.bits a ^^^ BitVec.ofInt k.bits b).toNat))
    | .andNot => k = k' ∧ K (.int k (k.wrap (BitVec.ofInt k.bits a &&& ~~~ BitVec.ofInt k.bits b).toNat))
    | .eql => k = k' ∧ K (.bool (a == b))
    | .neq => k = k' ∧ K (.bool (a != b))
    | .lss => k = k' ∧ K (.bool (decide (a < b)))
    | .leq => k = k' ∧ K (.bool (decide (a ≤ b)))
    | .gtr => k = k' ∧ K (.bool (decide (a > b)))
    | .geq => k = k' ∧ K (.bool (decide (a ≥ b)))
  | .string a, .string b, K => match op with
    | .add => ((a.size + b.size : Nat) : Int) ≤ IntKind.i64.max ∧ K (.string (a ++ b))
    | .eql => K (.bool (a.toList == b.toList))
    | .neq => K (.bool !(a.toList == b.toList))
    | .lss => K (.bool (Op.bytesLess a.toList b.toList))
    | .leq => K (.bool (Op.bytesLess a.toList b.toList || a.toList == b.toList))
    | .gtr => K (.bool !(Op.bytesLess a.toList b.toList || a.toList == b.toList))
    | .geq => K (.bool !(Op.bytesLess a.toList b.toList))
    | _ => False
  | _, _, _ => False

/-- Is a pointer, or a slice, nil? -/
def isNil : AV → Option Bool
  | .c (.v (.pointer none)) => some true
  | .c (.rp _) => some false
  | .p _ _ _ => some false
  | .tp _ _ _ _ => some false
  | _ => none

/-- '==' of two cells that are numbers, bools or strings. -/
def cellEq : Nat → AV → AV → Option Bool
  | 1, .c (.v (.int k a)), .c (.v (.int k' b)) => if k = k' then some (a == b) else none
  | 2, .c (.v (.bool a)), .c (.v (.bool b)) => some (a == b)
  | 3, .c (.v (.string a)), .c (.v (.string b)) => some (a.toList == b.toList)
  | _, _, _ => none
def cellsEq : List Nat → List AV → List AV → Option Bool
  | [], [], [] => some true
  | c :: cs, x :: xs, y :: ys => match cellEq c x y, cellsEq cs xs ys with | some a, some b => some (a && b) | _, _ => none
  | _, _, _ => none
def eqW (op : BinOp) (ti : TI) (m : Mem) (xs ys : List AV) (K : KK) : Prop := match ti.k, ti.eq with
  | .st _, c :: cs => match op, cellsEq (c :: cs) xs ys with
    | .eql, some b => K (.c (.v (.bool b))) m
    | .neq, some b => K (.c (.v (.bool !b))) m
    | _, _ => False
  | _, _ => False
def aggs : AV → AV → Option (List AV × List AV)
  | .agg xs, .agg ys => some (xs, ys)
  | _, _ => none

/-- 'pl': may a struct of this type be compared cell by cell? -/
def binW (op : BinOp) (k : TK) (m : Mem) (x y : AV) (K : KK) : Prop :=
  match x, y with
  | .c (.v (.bool a)), .c (.v (.bool b)) => match op, k with
    | .eql, .bool => K (.c (.v (.bool (a == b)))) m
    | .neq, .bool => K (.c (.v (.bool !(a == b)))) m
    | _, _ => False
  | .c (.v (.int i a)), .c (.v b) => sBin op (.int i a) b fun r => K (.c (.v r)) m
  | .c (.v (.string a)), .c (.v b) => sBin op (.string a) b fun r => K (.c (.v r)) m
  | x, y => match op, k, isNil x, isNil y with
    | .eql, .pt _ _, some a, some b => (a = true ∨ b = true) ∧ K (.c (.v (.bool (a && b)))) m
    | .neq, .pt _ _, some a, some b => (a = true ∨ b = true) ∧ K (.c (.v (.bool !(a && b)))) m
    | _, _, _, _ => False

def unW (op : UnOp) (m : Mem) (x : AV) (K : KK) : Prop := match op, x with
  | .neg, .c (.v (.int k n)) => K (.c (.v (.int k (k.wrap (0 - n))))) m
  | .xor, .c (.v (.int k n)) => K (.c (.v (.int k (k.wrap (BitVec.ofInt k.bits (if k.signed then -1 else k.max) ^^^ BitVec.ofInt k.bits n).toNat)))) m
  | .not, .c (.v (.bool b)) => K (.c (.v (.bool !b))) m
  | _, _ => False

/-- bytes of a row of byte cells -/
def bytesOf : List (List CV) → Option (List UInt8)
  | [] => some []
  | [.v (.int .u8 n)] :: r => (bytesOf r).map (UInt8.ofNat n.toNat :: ·)
  | _ => none
def encB (l : List UInt8) : List (List CV) := l.map fun c => [.v (.int .u8 c.toNat)]

/-- The elements of a slice value (of elements of esz cells). -/
def viewS (esz : Nat) (m : Mem) (x : AV) (K : List (List CV) → Prop) : Prop := match x with
  | .c (.sl sz es _) => sz = esz ∧ K es
  | .t id ver n => match m.get id with
    | some (.arr v sz es _ _) => v = ver ∧ sz = esz ∧ n ≤ es.length ∧ K (es.take n)
    | _ => False
  | _ => False

def convW (src dst : TK) (site : Nat) (m : Mem) (x : AV) (K : KK) : Prop := match src, dst, x with
  | .int _, .int k, .c (.v (.int _ n)) => K (.c (.v (.int k (k.wrap n)))) m
  | .str, .str, .c (.v (.string s)) => K (.c (.v (.string s))) m
  | .str, .sl 1 false 1 true, .c (.v (.string s)) => K (.t site m.clk s.size) (m.new site fun v => .arr v 1 (encB s.data.toList) none true)
  | .sl 1 false 1 true, .str, x => viewS 1 m x fun es => match bytesOf es with
    | some b => K (.c (.v (.string ⟨b.toArray⟩))) m
    | none => False
  | _, _, _ => False

-- ---------------------------------------------------------------- addresses, cells
def fieldAddrW (off : Nat) (m : Mem) (x : AV) (K : KK) : Prop := match x with
  | .p id ver o => K (.p id ver (o + off)) m
  | .c (.rp cs) => K (.c (.rp (cs.drop off))) m
  | .tp id ver i o => K (.tp id ver i (o + off)) m
  | _ => False
def nilCheckW (m : Mem) (x : AV) (K : KK) : Prop := match x with
  | .p id ver o => K (.p id ver o) m
  | .c (.rp cs) => K (.c (.rp cs)) m
  | .tp id ver i o => K (.tp id ver i o) m
  | .c (.v (.func f a b)) => (f matches .func _) ∧ K (.c (.v (.func f a b))) m
  | _ => False
def loadW (agg : Bool) (s : Nat) (m : Mem) (x : AV) (K : KK) : Prop := match x with
  | .p id ver o => match m.get id with
    | some (.blk v cs) => v = ver ∧ readA agg s (cs.drop o) fun y => K y m
    | _ => False
  | .c (.rp cs) => readA agg s (cs.map .c) fun y => K y m
  | .tp id ver i o => match m.get id with
    | some (.arr v _ es _ _) => v = ver ∧ i < es.length ∧ readA agg s (((es.getD i []).drop o).map .c) fun y => K y m
    | _ => False
  | _ => False
def putAt {α : Type} (l : List α) (o : Nat) (xs : List α) : List α := l.take o ++ xs ++ l.drop (o + xs.length)
def storeW (s : Nat) (m : Mem) (x y : AV) (K : Mem → Prop) : Prop := match x with
  | .p id ver o => match m.get id with
    | some (.blk v cs) => v = ver ∧ y.cells.length = s ∧ (∀ x ∈ y.cells, x.solid = true) ∧ o + s ≤ cs.length ∧ (∀ x ∈ (cs.drop o).take s, x.isDead = false) ∧ K (m.upd id (.blk v (putAt cs o y.cells)))
    | _ => False
  | .tp id ver i o => closeL m y.cells fun ys m => match m.get id with
    | some (.arr v sz es cap pub) => v = ver ∧ pub = false ∧ ys.length = s ∧ i < es.length ∧ o + s ≤ (es.getD i []).length ∧
        K (m.upd id (.arr v sz (es.set i (putAt (es.getD i []) o ys)) cap pub))
    | _ => False
  | _ => False
def allocW (site : Nat) (zero : List CV) (m : Mem) (K : KK) : Prop := K (.p site m.clk 0) (m.new site fun v => .blk v (zero.map .c))
def boxW (site : Nat) (m : Mem) (y : AV) (K : KK) : Prop := (∀ x ∈ y.cells, x.solid = true) ∧ K (.p site m.clk 0) (m.new site fun v => .blk v y.cells)

/-- cells, with parts laid into them -/
def fillA (place : Nat → Option (Nat × Nat)) (cells : List AV) : List (Nat × AV) → Option (List AV)
  | [] => some cells
  | (i, v) :: rest => match place i with
    | none => none
    | some (off, size) => if v.cells.length ≠ size ∨ off + size > cells.length ∨ v.cells.all AV.solid = false then none else fillA place (putAt cells off v.cells) rest
def buildW (place : Nat → Option (Nat × Nat)) (zero : List CV) (parts : List (Nat × AV)) (m : Mem) (K : KK) : Prop :=
  match fillA place (zero.map .c) parts with
  | some cs => K (.agg cs) m
  | none => False
def stPlace (fs : List (Nat × Nat × Bool)) (i : Nat) : Option (Nat × Nat) := (fs[i]?).map fun f => (f.1, f.2.1)

def chunks {α : Type} (sz : Nat) : Nat → List α → List (List α)
  | 0, _ => []
  | n + 1, l => l.take sz :: chunks sz n (l.drop sz)
def repL {α : Type} : Nat → List α → List α
  | 0, _ => []
  | n + 1, l => l ++ repL n l
def buildSliceW (site esz : Nat) (zero : List CV) (len : Nat) (parts : List (Nat × AV)) (m : Mem) (K : KK) : Prop := len * esz ≤ 2 ^ 24 ∧
  match fillA (fun i => some (i * esz, esz)) ((repL len zero).map .c) parts with
  | some cs => closeL m cs fun xs m => K (.t site m.clk len) (m.new site fun v => .arr v esz (chunks esz len xs) (some len) false)
  | none => False
def makeSliceW (site esz ebytes : Nat) (zero : List CV) (m : Mem) (l c : AV) (K : KK) : Prop := match l, c with
  | .c (.v (.int _ l)), .c (.v (.int _ c)) => 0 ≤ l ∧ l ≤ c ∧ c * ebytes ≤ 2 ^ 46 ∧
      K (.t site m.clk l.toNat) (m.new site fun v => .arr v esz (List.replicate l.toNat zero) (some c.toNat) false)
  | _, _ => False

/-- a bound: not given, or a number -/
def bnd (d : Int) : Option AV → (Int → Prop) → Prop
  | none, K => K d
  | some (.c (.v (.int _ n))), K => K n
  | some _, _ => False
def sliceW (k : TK) (m : Mem) (x : AV) (lo hi mx : Option AV) (K : KK) : Prop := match k, x with
  | .str, .c (.v (.string s)) => mx.isNone ∧ bnd 0 lo fun l => bnd s.size hi fun h => 0 ≤ l ∧ l ≤ h ∧ h ≤ s.size ∧ K (.c (.v (.string (s.extract l.toNat h.toNat)))) m
  | .sl esz _ _ _, .c (.sl sz es sp) => sz = esz ∧ bnd 0 lo fun l => bnd es.length hi fun h => match mx with
    | none => 0 ≤ l ∧ l ≤ h ∧ match sp with
      | some sp => h ≤ es.length + sp.length ∧ K (.c (.sl sz (((es ++ sp).take h.toNat).drop l.toNat) (some ((es ++ sp).drop h.toNat)))) m
      | none => h ≤ es.length ∧ K (.c (.sl sz ((es.take h.toNat).drop l.toNat) none)) m
    | some mx => hi.isSome ∧ bnd 0 (some mx) fun c => 0 ≤ l ∧ l ≤ h ∧ h ≤ c ∧ c ≤ es.length ∧
        K (.c (.sl sz ((es.take h.toNat).drop l.toNat) (some ((es.take c.toNat).drop h.toNat)))) m
  | .sl esz _ _ _, .t id ver n => match m.get id with
    | some (.arr v sz es cap _) => v = ver ∧ sz = esz ∧ n ≤ es.length ∧ mx.isNone ∧ bnd n hi fun h => match lo with
      | none => 0 ≤ h ∧ (h ≤ n ∨ cap.isSome ∧ h ≤ es.length) ∧ K (.t id ver h.toNat) m
      | some _ => bnd 0 lo fun l => 0 ≤ l ∧ l ≤ h ∧ h ≤ n ∧ K (.c (.sl sz ((es.take h.toNat).drop l.toNat) none)) (m.upd id (.arr v sz es cap true))
    | _ => False
  | _, _ => False
def indexAddrW (k : TK) (m : Mem) (x i : AV) (K : KK) : Prop := match i with
  | .c (.v (.int _ i)) => match k, x with
    | .ar n esz _, .p id ver o => 2 ≤ n ∧ 0 ≤ i ∧ i < n ∧ K (.p id ver (o + i.toNat * esz)) m
    | .ar n esz _, .c (.rp cs) => 2 ≤ n ∧ 0 ≤ i ∧ i < n ∧ K (.c (.rp (cs.drop (i.toNat * esz)))) m
    | .sl esz _ _ _, .c (.sl sz es _) => sz = esz ∧ 0 ≤ i ∧ i < es.length ∧ K (.c (.rp (es.getD i.toNat []))) m
    | .sl esz _ _ _, .t id ver n => match m.get id with
      | some (.arr v sz es _ _) => v = ver ∧ sz = esz ∧ n ≤ es.length ∧ 0 ≤ i ∧ i < n ∧ K (.tp id ver i.toNat 0) m
      | _ => False
    | _, _ => False
  | _ => False
def indexW (k : TK) (m : Mem) (x i : AV) (K : KK) : Prop := match i with
  | .c (.v (.int _ i)) => match k, x with
    | .str, .c (.v (.string s)) => 0 ≤ i ∧ i < s.size ∧ K (.c (.v (.int .u8 ((s.data.toList.getD i.toNat 0).toNat : Nat)))) m
    | .ar n esz eagg, .agg cs => 0 ≤ i ∧ i < n ∧ readA eagg esz (cs.drop (i.toNat * esz)) fun y => K y m
    | _, _ => False
  | _ => False
def fieldW (f : Nat × Nat × Bool) (m : Mem) (x : AV) (K : KK) : Prop := match x with
  | .agg cs => readA f.2.2 f.2.1 (cs.drop f.1) fun y => K y m
  | _ => False
def extractW (i : Nat) (m : Mem) (x : AV) (K : KK) : Prop := match x with
  | .tup cs => match cs[i]? with | some y => K y m | none => False
  | _ => False
def lenW (k : TK) (m : Mem) (x : AV) (K : KK) : Prop := match k, x with
  | .str, .c (.v (.string s)) => K (.c (.v (.int .i64 s.size))) m
  | .ar n _ _, _ => K (.c (.v (.int .i64 n))) m
  | .sl _ _ _ _, .c (.sl _ es _) => K (.c (.v (.int .i64 es.length))) m
  | .sl _ _ _ _, .t _ _ n => K (.c (.v (.int .i64 n))) m
  | _, _ => False
def capW (k : TK) (m : Mem) (x : AV) (K : KK) : Prop := match k, x with
  | .sl _ _ _ _, .c (.sl _ es (some sp)) => K (.c (.v (.int .i64 (es.length + sp.length)))) m
  | .sl _ _ _ _, .t id ver _ => match m.get id with
    | some (.arr v _ _ (some c) _) => v = ver ∧ K (.c (.v (.int .i64 c))) m
    | _ => False
  | _, _ => False
def minmaxW (mx : Bool) (m : Mem) : List AV → KK → Prop
  | [.c (.v (.int k a)), .c (.v (.int k' b))], K => k = k' ∧ K (.c (.v (.int k (if mx then (if b > a then b else a) else (if b < a then b else a))))) m
  | _, _ => False

/-- what is appended -/
def srcW (esz : Nat) (m : Mem) (x : AV) (K : List (List CV) → Prop) : Prop := match x with
  | .c (.v (.string s)) => esz = 1 ∧ K (encB s.data.toList)
  | x => viewS esz m x fun es => K es
def appendW (site esz ebytes : Nat) (m : Mem) (s x : AV) (K : KK) : Prop := srcW esz m x fun ns => match s with
  | .c (.sl sz es (some [])) => sz = esz ∧ (es.length + ns.length) * ebytes ≤ 2 ^ 45 ∧
      (if ns = [] then K s m else K (.t site m.clk (es.length + ns.length)) (m.new site fun v => .arr v esz (es ++ ns) none false))
  | .t id ver n => match m.get id with
    | some (.arr v sz es _ pub) => v = ver ∧ sz = esz ∧ n = es.length ∧ (es.length + ns.length) * ebytes ≤ 2 ^ 45 ∧
        K (.t id m.clk (es.length + ns.length)) ((m.del id).new id fun v => .arr v sz (es ++ ns) none pub)
    | _ => False
  | _ => False
def copyW (esz : Nat) (m : Mem) (d x : AV) (K : KK) : Prop := srcW esz m x fun ns => match d with
  | .t id ver n => match m.get id with
    | some (.arr v sz es cap false) => v = ver ∧ sz = esz ∧ n ≤ es.length ∧
        K (.c (.v (.int .i64 (min ns.length n : Nat)))) (m.upd id (.arr v sz (ns.take (min ns.length n) ++ es.drop (min ns.length n)) cap false))
    | _ => False
  | _ => False

-- ---------------------------------------------------------------- owned values: what goes in and out of a call
inductive OV where
  | c (x : CV)
  | arr (sz : Nat) (es : List (List CV)) (cap : Option Nat) (pub : Bool) (n : Nat)
  | ptr (cs : List OV)
  | agg (cs : List OV)
  | tup (cs : List OV)
  deriving Inhabited

def packLW (packA : Mem → AV → (OV → Mem → Prop) → Prop) (m : Mem) : List AV → (List OV → Mem → Prop) → Prop
  | [], K => K [] m
  | a :: l, K => packA m a fun o m => packLW packA m l fun os m => K (o :: os) m
/-- A value handed out for good: what it alone owns goes with it. -/
def packW : Nat → Mem → AV → (OV → Mem → Prop) → Prop
  | 0, _, _, _ => False
  | k + 1, m, x, K => match x with
    | .c x => K (.c x) m
    | .t id ver n => match m.get id with
      | some (.arr v sz es cap pub) => v = ver ∧ n ≤ es.length ∧ K (.arr sz es cap pub n) (m.del id)
      | _ => False
    | .p id ver 0 => match m.get id with
      | some (.blk v cs) => v = ver ∧ packLW (packW k) (m.del id) cs fun os m => K (.ptr os) m
      | _ => False
    | .agg cs => packLW (packW k) m cs fun os m => K (.agg os) m
    | .tup cs => packLW (packW k) m cs fun os m => K (.tup os) m
    | _ => False

/-- An owned value laid into a frame's memory: new objects from 'id' on. -/
def unpackL (unpackA : Nat → Mem → OV → AV × Nat × Mem) (id : Nat) (m : Mem) : List OV → List AV × Nat × Mem
  | [] => ([], id, m)
  | o :: l => let r := unpackA id m o; let q := unpackL unpackA r.2.1 r.2.2 l; (r.1 :: q.1, q.2.1, q.2.2)
def unpack : Nat → Nat → Mem → OV → AV × Nat × Mem
  | 0, id, m, _ => (.dead, id, m)
  | k + 1, id, m, o => match o with
    | .c x => (.c x, id, m)
    | .arr sz es cap pub n => (.t id m.clk n, id + 1, m.new id fun v => .arr v sz es cap pub)
    | .ptr cs => let q := unpackL (unpack k) (1000000 * (id + 1)) m cs; (.p id q.2.2.clk 0, id + 1, q.2.2.new id fun v => .blk v q.1)
    | .agg cs => let q := unpackL (unpack k) id m cs; (.agg q.1, q.2.1, q.2.2)
    | .tup cs => let q := unpackL (unpack k) id m cs; (.tup q.1, q.2.1, q.2.2)

/-- How an argument is handed over: 'shut': a closed value; 'open_': what it owns goes with it, for good; 'ref': a pointer, whose s cells come back. -/
inductive Mode where
  | shut | keep | own | ref (s : Nat)

def shutW (m : Mem) (x : AV) (K : OV → Mem → Prop) : Prop := match x with
  | .agg cs => closeL m cs fun xs m => K (.agg (xs.map .c)) m
  | x => closeA m x fun y m => K (.c y) m
def depth : Nat := 6
def argW (md : Mode) (m : Mem) (x : AV) (K : OV → Mem → Prop) : Prop := match md with
  | .shut => shutW m x K
  | .keep => match x with | .c y => K (.c y) m | _ => False
  | .own => packW depth m x K
  | .ref s => match x with
    | .p id ver o => match m.get id with
      | some (.blk v cs) => v = ver ∧ o + s ≤ cs.length ∧ (∀ x ∈ (cs.drop o).take s, x.isDead = false) ∧ packLW (packW depth) (m.upd id (.blk v (putAt cs o (List.replicate s .dead)))) ((cs.drop o).take s) fun os m => K (.ptr os) m
      | _ => False
    | _ => False
def argsW (m : Mem) : List Mode → List AV → (List OV → Mem → Prop) → Prop
  | [], [], K => K [] m
  | md :: mds, x :: xs, K => argW md m x fun o m => argsW m mds xs fun os m => K (o :: os) m
  | _, _, _ => False
/-- What came back through pointers is laid where it was. -/
def backW (id : Nat) (m : Mem) : List Mode → List AV → List OV → (Nat → Mem → Prop) → Prop
  | [], [], [], K => K id m
  | .ref s :: mds, .p i ver o :: xs, .ptr os :: l, K =>
    let q := unpackL (unpack depth) (1000000 * (i + 1)) m os
    os.length = s ∧ match q.2.2.get i with
      | some (.blk v cs) => v = ver ∧ o + s ≤ cs.length ∧ backW id (q.2.2.upd i (.blk v (putAt cs o q.1))) mds xs l K
      | _ => False
  | .ref _ :: _, _, _, _ => False
  | _ :: mds, _ :: xs, _ :: l, K => backW id m mds xs l K
  | _, _, _, _ => False
/-- 'D f args Q': what a call is known to come to: its result, and what its pointers lead to behind it. -/
abbrev Spec := FuncId → List OV → (OV → List OV → Prop) → Prop
def callKW (D : Spec) (site : Nat) (m : Mem) (f : FuncId) (args : List AV) (K : KK) : Prop :=
  ∃ mds : List Mode, argsW m mds args fun os m => ∃ Q, D f os Q ∧ ∀ r bs, Q r bs →
    backW site m mds args bs fun id m => let u := unpack depth id m r; K u.1 u.2.2

-- ---------------------------------------------------------------- a call to which byte rows are lent: what comes back cannot hold them
def isU8 : CV → Bool
  | .v (.int .u8 _) => true
  | _ => false
mutual
/-- No byte lies in memory that it leads to. -/
def safeC : CV → Bool
  | .v _ => true
  | .sl _ es sp => safeE es && safeP sp
  | .rp cs => safeR cs
def safeR : List CV → Bool
  | [] => true
  | x :: l => !isU8 x && (safeC x && safeR l)
def safeE : List (List CV) → Bool
  | [] => true
  | r :: l => safeR r && safeE l
def safeP : Option (List (List CV)) → Bool
  | none => true
  | some s => safeE s
end
/-- Cells that are safe, each by itself. -/
def safeT (es : List (List CV)) : Bool := es.all fun r => r.all safeC
def u8E (es : List (List CV)) : Bool := es.all fun r => r.all isU8
mutual
def safeO : OV → Bool
  | .c x => safeC x
  | .arr _ es _ pub _ => !pub && safeT es
  | .ptr _ => false
  | .agg l => safeOs l
  | .tup l => safeOs l
def safeOs : List OV → Bool
  | [] => true
  | o :: l => safeO o && safeOs l
end
def lendA (m : Mem) : AV → CV → Prop
  | .c y, z => z = y ∨ z = normC y
  | .t id ver n, .sl sz es' sp' => match m.get id with
    | some (.arr v sz' es cap false) => v = ver ∧ sz = sz' ∧ n ≤ es.length ∧ u8E es = true ∧ es' = es.take n ∧ (sp' = none ∨ (cap = some es.length ∧ n < es.length) ∧ sp' = some (es.drop n))
    | _ => False
  | _, _ => False
def lendC : List AV → List OV → Prop
  | [], [] => True
  | .c y :: xs, .c z :: os => (z = y ∨ z = normC y) ∧ lendC xs os
  | _, _ => False
def lendL (m : Mem) : List AV → List OV → Prop
  | [], [] => True
  | .agg cs :: xs, .agg zs :: os => lendC cs zs ∧ lendL m xs os
  | x :: xs, .c z :: os => lendA m x z ∧ lendL m xs os
  | _, _ => False
def callLW (D : Spec) (site : Nat) (m : Mem) (f : FuncId) (args : List AV) (K : KK) : Prop :=
  ∃ os, lendL m args os ∧ ∃ Q, D f os Q ∧ ∀ r bs, Q r bs → safeO r = true ∧ K (unpack depth site m r).1 (unpack depth site m r).2.2
def callW (D : Spec) (site : Nat) (m : Mem) (f : FuncId) (args : List AV) (K : KK) : Prop := callKW D site m f args K ∨ callLW D site m f args K

-- ---------------------------------------------------------------- operations, regions, code, functions
def siteOf (d : Option Tmp) : Nat := match d with | some d => 1000 * (d + 1) | none => 0
def setO (tm : List AV) (d : Option Tmp) (v : AV) : List AV := match d with | some d => tm.set d v | none => tm
def evL (T : Tab) (G : Glob) (tm : List AV) : List Operand → List TypeId → List AV
  | [], _ => []
  | x :: xs, tys => evO T G tm (tys.headD 0) x :: evL T G tm xs tys.tail
def builtinW (T : Tab) (site : Nat) (m : Mem) (b : Builtin) (tys : List TypeId) (args : List AV) (K : KK) : Prop := match b, args, tys with
  | .len, [x], [t] => lenW (T.at t).k m x K
  | .cap, [x], [t] => capW (T.at t).k m x K
  | .min, l, _ => minmaxW false m l K
  | .max, l, _ => minmaxW true m l K
  | .append, [s, x], [t, t2] => match (T.at t).k, (T.at t2).k with
    | .sl esz _ ebytes _, .sl _ _ _ _ => appendW site esz ebytes m s x K
    | .sl esz _ ebytes _, .str => appendW site esz ebytes m s x K
    | _, _ => False
  | .copy, [d, x], [t, _] => match (T.at t).k with
    | .sl esz _ _ _ => copyW esz m d x K
    | _ => False
  | _, _, _ => False
def opW (T : Tab) (G : Glob) (D : Spec) (tm : List AV) (o : Oper) (m : Mem) (K : KK) : Prop :=
  let ev := evO T G tm
  let site := siteOf o.dst
  match o.op with
  | .move x | .assign x => K (ev o.type x) m
  | .pick c a b => condB (ev 0 c) (K (ev o.type a) m) (K (ev o.type b) m)
  | .alloc e => match (T.at e).size with | 0 => False | _ + 1 => allocW site (T.at e).zero m K
  | .box e x => boxW site m (ev e x) K
  | .build t ps => match (T.at t).k with
    | .st fs => buildW (stPlace fs) (T.at t).zero (ps.toList.map fun p => (p.1, ev 0 p.2)) m K
    | .ar _ esz _ => buildW (fun i => some (i * esz, esz)) (T.at t).zero (ps.toList.map fun p => (p.1, ev 0 p.2)) m K
    | _ => False
  | .buildSlice t len ps => match (T.at t).k with
    | .sl esz _ _ _ => buildSliceW site esz (T.at t).ezero len (ps.toList.map fun p => (p.1, ev 0 p.2)) m K
    | _ => False
  | .load t a => match (T.at t).size with | 0 => False | s + 1 => loadW (T.at t).agg (s + 1) m (ev 0 a) K
  | .store t a x => match (T.at t).size with | 0 => False | s + 1 => storeW (s + 1) m (ev 0 a) (ev t x) fun m => K .dead m
  | .nilCheck x => nilCheckW m (ev 0 x) K
  | .binOp op t x y _ => match aggs (ev t x) (ev t y) with
    | some p => eqW op (T.at t) m p.1 p.2 K
    | none => binW op (T.at t).k m (ev t x) (ev t y) K
  | .unOp op _ x => unW op m (ev 0 x) K
  | .convert s d x => convW (T.at s).k (T.at d).k site m (ev s x) K
  | .makeSlice t l c => match (T.at t).k with
    | .sl esz _ ebytes _ => makeSliceW site esz ebytes (T.at t).ezero m (ev 0 l) (ev 0 c) K
    | _ => False
  | .slice t x lo hi mx => sliceW (T.at t).k m (ev t x) (lo.map (ev 0)) (hi.map (ev 0)) (mx.map (ev 0)) K
  | .fieldAddr s x f => match (T.at s).k with
    | .st fs => match fs[f]? with
      | some (off, _ + 1, _) => fieldAddrW off m (ev 0 x) K
      | some (_, 0, _) => False
      | none => False
    | _ => False
  | .field t x f => match (T.at t).k with
    | .st fs => match fs[f]? with
      | some f => fieldW f m (ev 0 x) K
      | none => False
    | _ => False
  | .indexAddr t x i => indexAddrW (T.at t).k m (ev t x) (ev 0 i) K
  | .index t x i => indexW (T.at t).k m (ev t x) (ev 0 i) K
  | .extract x i => extractW i m (ev 0 x) K
  | .call c => match c.callee with
    | .builtin b => builtinW T site m b c.argTypes.toList (evL T G tm c.args.toList c.argTypes.toList) K
    | .value f => match ev 0 f with
      | .c (.v (.func (.func g) first captured)) => first = #[] ∧ captured = #[] ∧ callW D site m g (evL T G tm c.args.toList c.argTypes.toList) K
      | _ => False
    | _ => False
  | _ => False

/-- What an operation that is not wanted yields. -/
def skipA : AV := .tup []
def isSkip : AV → Bool
  | .tup [] => true
  | _ => false
def guardW (all : List Oper) (tm : List AV) (g : Option (Nat × Bool)) (go skip : Prop) : Prop := match g with
  | none => go
  | some (j, want) => match (all[j]?).bind (·.dst) with
    | some d => match isSkip (tm.getD d .dead) with
      | true => skip
      | false => condB (tm.getD d .dead) (if want then go else skip) (if want then skip else go)
    | none => False
/-- A slice of an own array that is copied from a temporary into another one. -/
def mvT (o : Oper) (tm : List AV) : Option Tmp := match o.guard with
  | none => match o.op with
    | .move (.tmp s) => match tm.getD s .dead with
      | .t _ _ _ => some s
      | _ => none
    | _ => none
  | some _ => none
def opsW (T : Tab) (G : Glob) (D : Spec) (all : List Oper) : List Oper → List AV → Mem → (List AV → Mem → Prop) → Prop
  | [], tm, m, K => K tm m
  | o :: r, tm, m, K => match mvT o tm with
    | none => guardW all tm o.guard (opW T G D tm o m fun v m => opsW T G D all r (setO tm o.dst v) m K) (opsW T G D all r (setO tm o.dst skipA) m K)
    | some s => opW T G D tm o m (fun v m => opsW T G D all r (setO tm o.dst v) m K) ∨
        closeA m (tm.getD s .dead) fun y m => opsW T G D all r (setO (setO tm (some s) (.c y)) o.dst (tm.getD s .dead)) m K

-- ---------------------------------------------------------------- regions whose order is open
def Ob.same : Option Ob → Option Ob → Prop
  | none, none => True
  | some (.blk v cs), some (.blk v' cs') => v = v' ∧ cs = cs'
  | some (.arr v sz es cap _), some (.arr v' sz' es' cap' _) => v = v' ∧ sz = sz' ∧ es = es' ∧ cap = cap'
  | _, _ => False
/-- Outside 'wr' nothing that was there has changed. -/
def Agree (wr : List Nat) (m m' : Mem) : Prop := m.clk ≤ m'.clk ∧ ∀ id ob, id ∉ wr → m.get id = some ob → Ob.same (some ob) (m'.get id)

/-- May an operation be taken first? -/
def hoistable (T : Tab) (o : Oper) : Bool := match o.op with
  | .move _ | .assign _ | .pick _ _ _ | .nilCheck _ | .fieldAddr _ _ _ | .field _ _ _ | .extract _ _ | .binOp _ _ _ _ _ | .unOp _ _ _ | .load _ _ | .indexAddr _ _ _ | .index _ _ _ => true
  | .convert s d _ => match (T.at s).k, (T.at d).k with | .int _, .int _ => true | .str, .str => true | .sl _ _ _ _, .str => true | _, _ => false
  | .slice _ _ _ _ _ => true
  | .build _ _ => true
  | .call c => match c.callee with | .builtin .len => true | .builtin .min => true | .builtin .max => true | _ => false
  | _ => false

/-- What an operation that is taken first comes to, whatever others (that write in 'wr' alone) do before it. -/
def hoistW (T : Tab) (G : Glob) (wr : List Nat) (tm : List AV) (o : Oper) (m : Mem) (K : AV → Prop) : Prop :=
  let ev := evO T G tm
  let K' : KK := fun v _ => K v
  match o.op with
  | .move x | .assign x => K (ev o.type x)
  | .pick c a b => condB (ev 0 c) (K (ev o.type a)) (K (ev o.type b))
  | .nilCheck x => nilCheckW m (ev 0 x) K'
  | .fieldAddr s x f => match (T.at s).k with
    | .st fs => match fs[f]? with
      | some (off, _ + 1, _) => fieldAddrW off m (ev 0 x) K'
      | some (_, 0, _) => False
      | none => False
    | _ => False
  | .field t x f => match (T.at t).k with
    | .st fs => match fs[f]? with
      | some f => fieldW f m (ev 0 x) K'
      | none => False
    | _ => False
  | .extract x i => extractW i m (ev 0 x) K'
  | .binOp op t x y _ => match aggs (ev t x) (ev t y) with
    | some p => eqW op (T.at t) m p.1 p.2 K'
    | none => binW op (T.at t).k m (ev t x) (ev t y) K'
  | .unOp op _ x => unW op m (ev 0 x) K'
  | .load t a => match (T.at t).size with
    | 0 => False
    | s + 1 => match ev 0 a with
      | .p id ver o => id ∉ wr ∧ loadW (T.at t).agg (s + 1) m (.p id ver o) K'
      | .c x => loadW (T.at t).agg (s + 1) m (.c x) K'
      | _ => False
  | .indexAddr t x i => match ev t x with
    | .t id ver n => id ∉ wr ∧ indexAddrW (T.at t).k m (.t id ver n) (ev 0 i) K'
    | x => indexAddrW (T.at t).k m x (ev 0 i) K'
  | .index t x i => indexW (T.at t).k m (ev t x) (ev 0 i) K'
  | .convert s d x => match (T.at d).k, ev s x with
    | .int k, .c x => convW (T.at s).k (.int k) 0 m (.c x) K'
    | .str, .c x => convW (T.at s).k .str 0 m (.c x) K'
    | .str, .t id ver n => id ∉ wr ∧ convW (T.at s).k .str 0 m (.t id ver n) K'
    | _, _ => False
  | .slice t x lo hi mx => match ev t x with
    | .c x => sliceW (T.at t).k m (.c x) (lo.map (ev 0)) (hi.map (ev 0)) (mx.map (ev 0)) K'
    | .t id ver n => lo = none ∧ id ∉ wr ∧ sliceW (T.at t).k m (.t id ver n) none (hi.map (ev 0)) (mx.map (ev 0)) K'
    | _ => False
  | .call c => match c.callee with
    | .builtin .len => builtinW T 0 m .len c.argTypes.toList (evL T G tm c.args.toList c.argTypes.toList) K'
    | .builtin .min => builtinW T 0 m .min c.argTypes.toList (evL T G tm c.args.toList c.argTypes.toList) K'
    | .builtin .max => builtinW T 0 m .max c.argTypes.toList (evL T G tm c.args.toList c.argTypes.toList) K'
    | _ => False
  | .build t ps => match (T.at t).k with
    | .st fs => buildW (stPlace fs) (T.at t).zero (ps.toList.map fun p => (p.1, ev 0 p.2)) m K'
    | .ar _ esz _ => buildW (fun i => some (i * esz, esz)) (T.at t).zero (ps.toList.map fun p => (p.1, ev 0 p.2)) m K'
    | _ => False
  | _ => False

/-- The order in which a region is gone through: an operation that may be taken first, first; else the only one that may come up. -/
def plan (T : Tab) (ops : Array Oper) : Nat → Array Bool → Option (List (Nat × Bool))
  | 0, listed => if (Region.ready .any ops listed).isEmpty then some [] else none
  | n + 1, listed =>
    let rs := Region.ready .any ops listed
    match rs.find? fun i => ((ops[i]?).map (hoistable T)).getD false && Region.free .any ops listed i with
    | some i => (plan T ops n (listed.setIfInBounds i true)).map ((i, true) :: ·)
    | none => match rs with
      | [] => some []
      | [i] => (plan T ops n (listed.setIfInBounds i true)).map ((i, false) :: ·)
      | _ => none
/-- Does what it comes to hang on the memory? -/
def memOp (o : Oper) : Bool := match o.op with
  | .load _ _ | .indexAddr _ _ _ | .convert _ _ _ | .slice _ _ _ _ _ => true
  | _ => false
/-- Does k come up before it, by way of others too? -/
def befW (all : List Oper) : Nat → Oper → Nat → Bool
  | 0, _, _ => false
  | n + 1, o, k => o.after.any fun e => Region.binds .any e && (e.on == k || match all[e.on]? with | some p => befW all n p k | none => false)
/-- Does it come up behind all that read memory? -/
def isLast (all : List Oper) (o : Oper) : Bool := (List.range all.length).all fun k => match all[k]? with
  | some ok => !memOp ok || befW all 4 o k
  | none => true
/-- In what objects those that are still to come write: one list for each operation that is not taken first. -/
def dnW : List (List Nat) → List (List Nat)
  | a :: b :: r => if b.all a.contains then b :: r else a :: b :: r
  | l => l
def planW (T : Tab) (G : Glob) (D : Spec) (wr : List (List Nat)) (all : List Oper) : List (Nat × Bool) → List AV → Mem → (List AV → Mem → Prop) → Prop
  | [], tm, m, K => K tm m
  | (i, h) :: r, tm, m, K => match all[i]? with
    | none => False
    | some o => if h then guardW all tm o.guard (hoistW T G (wr.headD []) tm o m fun v => planW T G D wr all r (setO tm o.dst v) m K) (planW T G D wr all r (setO tm o.dst skipA) m K)
      else guardW all tm o.guard (opW T G D tm o m fun v m' => (isLast all o = true ∨ Agree (wr.headD []) m m') ∧ planW T G D (dnW wr) all r (setO tm o.dst v) m' K) (planW T G D (dnW wr) all r (setO tm o.dst skipA) m K)
def drawnW (T : Tab) (G : Glob) (D : Spec) (ops : Array Oper) (tm : List AV) (m : Mem) (K : List AV → Mem → Prop) : Prop :=
  match Region.noSelect ops, plan T ops ops.size (Array.replicate ops.size false) with
  | true, some ord => ∃ wr, planW T G D wr ops.toList ord tm m K
  | _, _ => False

inductive EX where
  | norm | ret | ex (id : Nat)
abbrev KX := EX → List AV → Mem → Prop
/-- At a loop's head what is not needed is forgotten. -/
def killT : Nat → List Nat → List AV → List AV
  | _, _, [] => []
  | i, [], _ :: l => .dead :: killT (i + 1) [] l
  | i, k :: ks, x :: l => if i = k then x :: killT (i + 1) ks l else .dead :: killT (i + 1) (k :: ks) l
def keepL (ids : List Nat) : List (Nat × Ob) → List (Nat × Ob)
  | [] => []
  | (i, o) :: r => if i ∈ ids then (i, o) :: keepL ids r else keepL ids r
def Mem.keep (ids : List Nat) (m : Mem) : Mem := ⟨keepL ids m.obs, m.clk⟩
mutual
/-- At a loop's head, and where branches come together, versions begin anew: arrays bear B, blocks what they bore below B. -/
def cnA (B : Nat) (m : Mem) : AV → AV
  | .c x => .c x
  | .t id ver n => match m.get id with
    | some (.arr v _ _ _ _) => match Nat.beq v ver with | true => .t id B n | false => .dead
    | _ => .dead
  | .p id ver o => match m.get id with
    | some (.blk v _) => match Nat.beq v ver with | true => .p id (bif Nat.ble v B then v else B) o | false => .dead
    | _ => .dead
  | .tp id ver i o => match m.get id with
    | some (.arr v _ _ _ _) => match Nat.beq v ver with | true => .tp id B i o | false => .dead
    | _ => .dead
  | .agg cs => .agg (cnL B m cs)
  | .tup cs => .tup (cnL B m cs)
  | .dead => .dead
def cnL (B : Nat) (m : Mem) : List AV → List AV
  | [] => []
  | x :: l => cnA B m x :: cnL B m l
end
def cnOb (B : Nat) (m : Mem) (caps : List Nat) (i : Nat) : Ob → Ob
  | .blk v cs => .blk (bif Nat.ble v B then v else B) (cnL B m cs)
  | .arr _ sz es cap pub => .arr B sz es (bif caps.contains i then none else cap) pub
def cnObs (B : Nat) (m : Mem) (caps : List Nat) : List (Nat × Ob) → List (Nat × Ob)
  | [] => []
  | (i, o) :: r => (i, cnOb B m caps i o) :: cnObs B m caps r
def Mem.canon (B : Nat) (caps : List Nat) (m : Mem) : Mem := ⟨cnObs B m caps m.obs, B + 1⟩
def fgT (B : Nat) (live ids : List Nat) (tm : List AV) (m : Mem) : List AV := cnL B (m.keep ids) (killT 0 live tm)
def fgM (B : Nat) (ids caps : List Nat) (m : Mem) : Mem := (m.keep ids).canon B caps
def loopW (B : Nat) (live ids caps : List Nat) (X : List AV → Mem → KX → Prop) (K : KX) : Nat → List AV → Mem → Prop
  | 0, _, _ => False
  | n + 1, tm, m => X (fgT B live ids tm m) (fgM B ids caps m) fun e tm m => match e with | .norm => loopW B live ids caps X K n tm m | .ret => K .ret tm m | .ex i => K (.ex i) tm m
/-- Where branches come together, what is not needed may be forgotten. -/
def Join (B : Nat) (K : List AV → Mem → Prop) (tm : List AV) (m : Mem) : Prop := K tm m ∨ ∃ live ids caps, K (fgT B live ids tm m) (fgM B ids caps m)
/-- Has a region operations under a condition? -/
def hasG : List Oper → Bool
  | [] => false
  | o :: l => match o.guard with | some _ => true | none => hasG l
def execW (B : Nat) (T : Tab) (G : Glob) (D : Spec) : Code → List AV → Mem → KX → Prop
  | .skip, tm, m, K => K .norm tm m
  | .label _, tm, m, K => K .norm tm m
  | .region _ ops draw, tm, m, K => match draw, hasG ops.toList with
    | false, false => opsW T G D ops.toList ops.toList tm m (K .norm)
    | false, true => opsW T G D ops.toList ops.toList tm m (Join B (K .norm))
    | true, _ => drawnW T G D ops tm m (Join B (K .norm))
  | .seq a b, tm, m, K => execW B T G D a tm m fun e tm m => match e with | .norm => execW B T G D b tm m K | .ret => K .ret tm m | .ex i => K (.ex i) tm m
  | .cond c a b, tm, m, K => condB (evO T G tm 0 c) (execW B T G D a tm m fun e tm m => match e with | .norm => Join B (K .norm) tm m | .ret => K .ret tm m | .ex i => K (.ex i) tm m)
      (execW B T G D b tm m fun e tm m => match e with | .norm => Join B (K .norm) tm m | .ret => K .ret tm m | .ex i => K (.ex i) tm m)
  | .block id c, tm, m, K => execW B T G D c tm m fun e tm m => match e with | .norm => K .norm tm m | .ret => K .ret tm m | .ex i => if i = id then K .norm tm m else K (.ex i) tm m
  | .loop c, tm, m, K => ∃ live ids caps n, loopW B live ids caps (execW B T G D c) K n tm m
  | .exit id, tm, m, K => K (.ex id) tm m
  | .ret, tm, m, K => K .ret tm m
  | _, _, _, _ => False

def resultsW (T : Tab) (tm : List AV) (m : Mem) : List ResultVar → (List AV → Prop) → Prop
  | [], K => K []
  | .tmp t :: r, K => resultsW T tm m r fun l => K (tm.getD t .dead :: l)
  | .cell a t :: r, K => match (T.at t).size with | 0 => False | s + 1 => loadW (T.at t).agg (s + 1) m (tm.getD a .dead) fun x _ => resultsW T tm m r fun l => K (x :: l)
/-- What the pointers that came in lead to. -/
def outsW (m : Mem) : List OV → List AV → (List OV → Mem → Prop) → Prop
  | [], _, K => K [] m
  | .ptr _ :: os, .p id ver 0 :: xs, K => match m.get id with
    | some (.blk v cs) => v = ver ∧ packLW (packW depth) (m.del id) cs fun ps m => outsW m os xs fun l m => K (.ptr ps :: l) m
    | _ => False
  | .ptr _ :: _, _, _ => False
  | o :: os, xs, K => outsW m os xs.tail fun l m => K (o :: l) m
def oneOf : List AV → AV
  | [x] => x
  | l => .tup l
/-- A result whose arrays are shut: it never changes from here on. -/
def shutA (m : Mem) (x : AV) (K : AV → Mem → Prop) : Prop := match x with
  | .agg cs => closeL m cs fun xs m => K (.agg (xs.map .c)) m
  | .c x => K (.c (normC x)) m
  | .t id ver n => closeA m (.t id ver n) fun y m => K (.c y) m
  | x => K x m
def shutAs (m : Mem) : List AV → (List AV → Mem → Prop) → Prop
  | [], K => K [] m
  | x :: xs, K => shutA m x fun y m => shutAs m xs fun ys m => K (y :: ys) m
def shutIf (sh : Bool) (m : Mem) (xs : List AV) (K : List AV → Mem → Prop) : Prop := match sh with
  | true => shutAs m xs K
  | false => K xs m
def FnW (T : Tab) (G : Glob) (D : Spec) (fn : Func) (body : Code) (args : List OV) (Q : OV → List OV → Prop) (sh : Bool) : Prop :=
  let u := unpackL (unpack depth) 0 ⟨[], 0⟩ args
  execW u.2.2.clk T G D body (u.1 ++ List.replicate (fn.ntmps - args.length) .dead) u.2.2 fun e tm m => match e with
    | .ex _ => False
    | _ => resultsW T tm m fn.results.toList fun rs => shutIf sh m rs fun rs m => packW depth m (oneOf rs) fun r m => outsW m args u.1 fun bs _ => Q r bs
end Go.Proofs.Ythncmjlcmlmnmaa.V

namespace Go.Proofs.Ythncmjlcmlmnmaa.V
open Go Go.RowKit

abbrev Area := Nat → Nat → Prop
abbrev cellAt (w : World) (b o : Nat) : Option Value := w.cell? ⟨b, o, none⟩

inductive RelC (S : Area) (w : World) : CV → Value → Prop
  | v (x : Value) (h : solidV x = true) : RelC S w (.v x) x
  | sl (sz : Nat) (es : List (List CV)) (sp : Option (List (List CV))) (a : Option Addr) (cap b o : Nat) (f : Nat → Value)
      (hcap : es.length ≤ cap) (hsp : ∀ s, sp = some s → cap = es.length + s.length)
      (ha : es ++ sp.getD [] ≠ [] → a = some ⟨b, o, none⟩ ∧ 0 < sz)
      (hl : ∀ (i : Nat) (e : List CV), (es ++ sp.getD [])[i]? = some e → e.length = sz)
      (hS : ∀ k, k < (es ++ sp.getD []).length * sz → S b (o + k))
      (hc : ∀ k, k < (es ++ sp.getD []).length * sz → cellAt w b (o + k) = some (f k))
      (hr : ∀ (i j : Nat) (e : List CV) (x : CV), (es ++ sp.getD [])[i]? = some e → e[j]? = some x → RelC S w x (f (i * sz + j))) :
      RelC S w (.sl sz es sp) (.slice a es.length cap)
  | rp (cs : List CV) (b o : Nat) (f : Nat → Value)
      (hS : ∀ i, i < cs.length → S b (o + i))
      (hc : ∀ i, i < cs.length → cellAt w b (o + i) = some (f i))
      (hr : ∀ (i : Nat) x, cs[i]? = some x → RelC S w x (f i)) :
      RelC S w (.rp cs) (.pointer (some ⟨b, o, none⟩))

theorem RelC.solid {S : Area} {w : World} {x : CV} {u : Value} (h : RelC S w x u) : solidV u = true := by
  cases h <;> first | assumption | rfl

theorem RelC.mono {S S' : Area} {w w' : World} (hS : ∀ b o, S b o → S' b o) (hw : ∀ b o, S b o → cellAt w' b o = cellAt w b o)
    {x : CV} {u : Value} (h : RelC S w x u) : RelC S' w' x u := by
  induction h with
  | v y hy => exact .v _ hy
  | sl sz es sp a cap b o f hcap hsp ha hl hs hc _ ih =>
    exact .sl sz es sp a cap b o f hcap hsp ha hl (fun i hi => hS _ _ (hs i hi))
      (fun i hi => (hw _ _ (hs i hi)).trans (hc i hi)) ih
  | rp cs b o f hs hc _ ih => exact .rp cs b o f (fun i hi => hS _ _ (hs i hi)) (fun i hi => (hw _ _ (hs i hi)).trans (hc i hi)) ih

theorem RelC.norm {S : Area} {w : World} {x : CV} {u : Value} (h : RelC S w x u) : RelC S w (normC x) u := by
  cases h with
  | v y hy => exact .v _ hy
  | sl sz es sp a cap b o f hcap hsp ha hl hs hc hr =>
    have hi : ∀ (i : Nat) e, (es ++ (none : Option (List (List CV))).getD [])[i]? = some e → (es ++ sp.getD [])[i]? = some e := fun i e h => by
      simp only [Option.getD_none, List.append_nil] at h
      rw [List.getElem?_append_left (List.getElem?_eq_some_iff.1 h).1]; exact h
    have hn : ∀ k, k < (es ++ (none : Option (List (List CV))).getD []).length * sz → k < (es ++ sp.getD []).length * sz := fun k hk =>
      Nat.lt_of_lt_of_le hk (Nat.mul_le_mul_right sz (by simp))
    exact .sl sz es none a cap b o f hcap (by simp) (fun h => ha (by simp only [Option.getD_none, List.append_nil] at h; simp [h])) (fun i e h => hl i e (hi i e h)) (fun k hk => hs k (hn k hk)) (fun k hk => hc k (hn k hk)) (fun i j e x he hx => hr i j e x (hi i e he) hx)
  | rp cs b o f hs hc hr => exact .rp cs b o f hs hc hr

/-- Where each object of the abstract memory lies: block and offset. -/
abbrev Place := Nat → Nat × Nat

inductive RelV (S : Area) (pl : Place) (w : World) (m : Mem) : AV → Value → Prop
  | c (x : CV) (u : Value) (h : RelC S w x u) : RelV S pl w m (.c x) u
  | t (id ver n b capn : Nat) (hv : ver < m.clk) (hn : n ≤ capn)
      (h : ∀ ob, m.get id = some ob → ob.ver = ver → ∃ sz es cap pub e, ob = .arr ver sz es cap pub ∧ n ≤ es.length ∧
        b = (pl id).1 ∧ w.shape? b = some (e, capn * sz)) : RelV S pl w m (.t id ver n) (.slice (some ⟨b, 0, none⟩) n capn)
  | p (id ver off b o : Nat) (hv : ver < m.clk)
      (h : ∀ ob, m.get id = some ob → ob.ver = ver → (∃ cs, ob = .blk ver cs) ∧ (b, o) = pl id) : RelV S pl w m (.p id ver off) (.pointer (some ⟨b, o + off, none⟩))
  | tp (id ver i off b o : Nat) (hv : ver < m.clk)
      (h : ∀ ob, m.get id = some ob → ob.ver = ver → ∃ sz es cap pub, ob = .arr ver sz es cap pub ∧ i < es.length ∧ b = (pl id).1 ∧ o = i * sz) :
      RelV S pl w m (.tp id ver i off) (.pointer (some ⟨b, o + off, none⟩))
  | agg (cs : List AV) (us : List Value) (hl : us.length = cs.length) (h : ∀ (i : Nat) x u, cs[i]? = some x → us[i]? = some u → RelV S pl w m x u) : RelV S pl w m (.agg cs) (.agg us.toArray)
  | tup (cs : List AV) (us : List Value) (hl : us.length = cs.length) (h : ∀ (i : Nat) x u, cs[i]? = some x → us[i]? = some u → RelV S pl w m x u) : RelV S pl w m (.tup cs) (.tuple us.toArray)
  | dead (u : Value) : RelV S pl w m .dead u

/-- Two objects of one version: the second one is the first one, changed in place. -/
def Ob.alike : Ob → Ob → Prop
  | .blk v _, .blk v' _ => v = v'
  | .arr v sz es _ _, .arr v' sz' es' _ _ => v = v' ∧ sz = sz' ∧ es.length ≤ es'.length
  | _, _ => False

/-- What is kept when worlds, memory and places go on. -/
structure Keeps (S S' : Area) (pl pl' : Place) (w w' : World) (m m' : Mem) : Prop where
  sub : ∀ b o, S b o → S' b o
  cell : ∀ b o, S b o → cellAt w' b o = cellAt w b o
  shape : ∀ b s, w.shape? b = some s → w'.shape? b = some s
  clk : m.clk ≤ m'.clk
  ob : ∀ id ob', m'.get id = some ob' → ob'.ver < m.clk → ∃ ob, m.get id = some ob ∧ ob.alike ob' ∧ pl' id = pl id

theorem Keeps.refl (S : Area) (pl : Place) (w : World) (m : Mem) : Keeps S S pl pl w w m m :=
  ⟨fun _ _ h => h, fun _ _ _ => rfl, fun _ _ h => h, Nat.le_refl _, fun id ob h _ => ⟨ob, h, by cases ob <;> simp [Ob.alike], rfl⟩⟩

theorem Ob.alike_ver {a b : Ob} (h : a.alike b) : a.ver = b.ver := by
  cases a <;> cases b <;> simp_all [Ob.alike, Ob.ver]
theorem Ob.alike_trans {a b c : Ob} (h : a.alike b) (k : b.alike c) : a.alike c := by
  cases a <;> cases b <;> cases c <;> simp only [Ob.alike] at * <;> omega

theorem Keeps.trans {S S' S'' : Area} {pl pl' pl'' : Place} {w w' w'' : World} {m m' m'' : Mem} (h : Keeps S S' pl pl' w w' m m') (k : Keeps S' S'' pl' pl'' w' w'' m' m'') :
    Keeps S S'' pl pl'' w w'' m m'' :=
  ⟨fun b o hs => k.sub _ _ (h.sub _ _ hs), fun b o hs => (k.cell _ _ (h.sub _ _ hs)).trans (h.cell _ _ hs), fun b s hs => k.shape _ _ (h.shape _ _ hs),
   Nat.le_trans h.clk k.clk, fun id ob hob hv => by
    obtain ⟨o1, h1, a1, p1⟩ := k.ob id ob hob (Nat.lt_of_lt_of_le hv h.clk)
    obtain ⟨o2, h2, a2, p2⟩ := h.ob id o1 h1 (by rw [Ob.alike_ver a1]; exact hv)
    exact ⟨o2, h2, Ob.alike_trans a2 a1, p1.trans p2⟩⟩

theorem RelV.mono {S S' : Area} {pl pl' : Place} {w w' : World} {m m' : Mem} (k : Keeps S S' pl pl' w w' m m') {x : AV} {u : Value} (h : RelV S pl w m x u) : RelV S' pl' w' m' x u := by
  induction h with
  | c x u h => exact .c x u (h.mono k.sub k.cell)
  | t id ver n b capn hv hn h =>
    refine .t id ver n b capn (Nat.lt_of_lt_of_le hv k.clk) hn (fun ob hob he => ?_)
    obtain ⟨o1, h1, a1, p1⟩ := k.ob id ob hob (he ▸ hv)
    obtain ⟨sz, es, cap, pub, e, rfl, hn, hb, hs⟩ := h o1 h1 ((Ob.alike_ver a1).trans he)
    cases ob with
    | blk _ _ => simp [Ob.alike] at a1
    | arr v' sz' es' cap' pub' =>
      simp only [Ob.alike] at a1
      obtain ⟨rfl, rfl, hl⟩ := a1
      exact ⟨_, es', cap', pub', e, rfl, by omega, by rw [p1]; exact hb, k.shape _ _ hs⟩
  | p id ver off b o hv h =>
    refine .p id ver off b o (Nat.lt_of_lt_of_le hv k.clk) (fun ob hob he => ?_)
    obtain ⟨o1, h1, a1, p1⟩ := k.ob id ob hob (he ▸ hv)
    obtain ⟨⟨cs, rfl⟩, hu⟩ := h o1 h1 ((Ob.alike_ver a1).trans he)
    cases ob with
    | blk v' cs' => simp only [Ob.alike] at a1; subst a1; exact ⟨⟨cs', rfl⟩, by rw [p1]; exact hu⟩
    | arr _ _ _ _ _ => simp [Ob.alike] at a1
  | tp id ver i off b o hv h =>
    refine .tp id ver i off b o (Nat.lt_of_lt_of_le hv k.clk) (fun ob hob he => ?_)
    obtain ⟨o1, h1, a1, p1⟩ := k.ob id ob hob (he ▸ hv)
    obtain ⟨sz, es, cap, pub, rfl, hn, hu⟩ := h o1 h1 ((Ob.alike_ver a1).trans he)
    cases ob with
    | blk _ _ => simp [Ob.alike] at a1
    | arr v' sz' es' cap' pub' =>
      simp only [Ob.alike] at a1
      obtain ⟨rfl, rfl, hl⟩ := a1
      exact ⟨_, es', cap', pub', rfl, by omega, by rw [p1]; exact hu⟩
  | agg cs us hl _ ih => exact .agg cs us hl ih
  | tup cs us hl _ ih => exact .tup cs us hl ih
  | dead u => exact .dead u

-- ---------------------------------------------------------------- objects
/-- The cells that an object alone may write. -/
def Ob.foot (pl : Nat × Nat) : Ob → Area
  | .blk _ cs => fun b o => b = pl.1 ∧ ∃ (j : Nat) (x : AV), cs[j]? = some x ∧ x.isDead = false ∧ o = pl.2 + j
  | .arr _ sz es _ pub => fun b o => b = pl.1 ∧ (pub = true → es.length * sz ≤ o)

/-- A row of cells at a place reads as values. -/
def RowA (S : Area) (pl : Place) (w : World) (m : Mem) (b o : Nat) (cs : List AV) : Prop :=
  ∀ (j : Nat) x, cs[j]? = some x → ∃ u, cellAt w b (o + j) = some u ∧ RelV S pl w m x u
def RowE (S : Area) (w : World) (b sz : Nat) (es : List (List CV)) : Prop :=
  (∀ (i : Nat) e, es[i]? = some e → e.length = sz) ∧
  ∃ f : Nat → Value, (∀ k, k < es.length * sz → cellAt w b k = some (f k)) ∧
    ∀ (i j : Nat) e x, es[i]? = some e → e[j]? = some x → RelC S w x (f (i * sz + j))
def Thawed (w : World) (b : Nat) : Prop := ∀ o, w.frozen? ⟨b, o, none⟩ = true → ∀ e s, w.shape? b = some (e, s) → s ≤ o
/-- Nothing of an array is frozen; one that nobody else reads is not too long. -/
def ThawA (w : World) (b : Nat) (pub : Bool) (sz : Nat) : Prop := Thawed w b ∧ (pub = false → ∀ e s, w.shape? b = some (e, s) → s ≤ 9223372036854775807 * sz)

def ObOk (S : Area) (pl : Place) (w : World) (m : Mem) (q : Nat × Nat) : Ob → Prop
  | .blk _ cs => q.1 < w.heap.size ∧ Thawed w q.1 ∧ RowA S pl w m q.1 q.2 cs
  | .arr _ sz es cap pub => q.2 = 0 ∧ 0 < sz ∧ ThawA w q.1 pub sz ∧ (∃ e capn, w.shape? q.1 = some (e, capn * sz) ∧ es.length ≤ capn ∧ ∀ c, cap = some c → capn = c) ∧
      RowE S w q.1 sz es ∧ (pub = true → ∀ o, o < es.length * sz → S q.1 o)

structure Inv (S : Area) (pl : Place) (w : World) (m : Mem) : Prop where
  ob : ∀ id ob, m.get id = some ob → ob.ver < m.clk ∧ ObOk S pl w m (pl id) ob
  apart : ∀ id id' ob ob', m.get id = some ob → m.get id' = some ob' → id ≠ id' → ∀ b o, ob.foot (pl id) b o → ¬ ob'.foot (pl id') b o
  free : ∀ id ob, m.get id = some ob → ∀ b o, ob.foot (pl id) b o → ¬ S b o
  low : ∀ b o, S b o → b < w.heap.size

-- ---------------------------------------------------------------- worlds that go on
/-- w' is w gone on: old blocks are as they were, but for the cells of F. -/
structure Ext (F : Area) (w w' : World) : Prop where
  os : w'.os = w.os
  tape : w'.tape = w.tape
  output : w'.output = w.output
  size : w.heap.size ≤ w'.heap.size
  cell : ∀ b o, b < w.heap.size → ¬ F b o → cellAt w' b o = cellAt w b o
  shape : ∀ b, b < w.heap.size → w'.shape? b = w.shape? b
  frz : ∀ b o, b < w.heap.size → w'.frozen? ⟨b, o, none⟩ = w.frozen? ⟨b, o, none⟩
  obj : ∀ b, b < w.heap.size → (∀ o, ¬ F b o) → w'.heap[b]? = w.heap[b]?

theorem Ext.refl (F : Area) (w : World) : Ext F w w := ⟨rfl, rfl, rfl, Nat.le_refl _, fun _ _ _ _ => rfl, fun _ _ => rfl, fun _ _ _ => rfl, fun _ _ _ => rfl⟩
theorem Ext.trans {F F' : Area} {a b c : World} (h : Ext F a b) (k : Ext F' b c) (hF : ∀ x o, F' x o → F x o ∨ a.heap.size ≤ x) : Ext F a c :=
  have hn : ∀ x o, x < a.heap.size → ¬ F x o → ¬ F' x o := fun x o hx hf h' => (hF x o h').elim hf (fun hle => absurd hx (Nat.not_lt.2 hle))
  ⟨k.os.trans h.os, k.tape.trans h.tape, k.output.trans h.output, Nat.le_trans h.size k.size,
   fun x o hx hf => (k.cell x o (Nat.lt_of_lt_of_le hx h.size) (hn x o hx hf)).trans (h.cell x o hx hf),
   fun x hx => (k.shape x (Nat.lt_of_lt_of_le hx h.size)).trans (h.shape x hx),
   fun x o hx => (k.frz x o (Nat.lt_of_lt_of_le hx h.size)).trans (h.frz x o hx),
   fun x hx hf => (k.obj x (Nat.lt_of_lt_of_le hx h.size) (fun o => hn x o hx (hf o))).trans (h.obj x hx hf)⟩
theorem Ext.mono {F F' : Area} {a b : World} (h : Ext F a b) (hF : ∀ x o, F x o → F' x o) : Ext F' a b :=
  ⟨h.os, h.tape, h.output, h.size, fun x o hx hf => h.cell x o hx (fun k => hf (hF _ _ k)), h.shape, h.frz, fun x hx hf => h.obj x hx (fun o k => hf o (hF _ _ k))⟩

theorem shape_lt {w : World} {b : Nat} {s : TypeId × Nat} (h : w.shape? b = some s) : b < w.heap.size := by
  unfold World.shape? at h
  rcases Nat.lt_or_ge b w.heap.size with hb | hb
  · exact hb
  · simp [Array.getElem?_eq_none hb] at h
theorem cell_lt {w : World} {b o : Nat} {v : Value} (h : cellAt w b o = some v) : b < w.heap.size := by
  unfold cellAt World.cell? at h
  rcases Nat.lt_or_ge b w.heap.size with hb | hb
  · exact hb
  · simp [Array.getElem?_eq_none hb] at h

/-- The fixed side of a call: what could be read when it began, what it owns of what was there, and the world then. -/
structure Ctx where
  S0 : Area
  F0 : Area
  w0 : World
  G : Glob

structure St (X : Ctx) (S : Area) (pl : Place) (w : World) (m : Mem) : Prop where
  inv : Inv S pl w m
  ext : Ext X.F0 X.w0 w
  sub : ∀ b o, X.S0 b o → S b o
  only : ∀ b o, S b o → X.S0 b o ∨ X.F0 b o ∨ X.w0.heap.size ≤ b
  own : ∀ id ob, m.get id = some ob → ∀ b o, ob.foot (pl id) b o → X.F0 b o ∨ X.w0.heap.size ≤ b
  glob : ∀ g cs, X.G g = some cs → RelC S w (.rp cs) (.pointer (some ⟨g, 0, none⟩))

-- ---------------------------------------------------------------- the abstract memory as a map
theorem getL_ins (l : List (Nat × Ob)) (i j : Nat) (o : Ob) : getL (insL l i o) j = if j = i then some o else getL l j := by
  induction l with
  | nil => by_cases h : j = i <;> simp [insL, getL, h]
  | cons a r ih =>
    obtain ⟨k, p⟩ := a
    simp only [insL]
    by_cases h1 : i = k
    · subst h1; simp only [if_true, getL]
      by_cases h : j = i <;> simp [h]
    · rw [if_neg h1]
      by_cases h2 : i < k
      · rw [if_pos h2]; simp only [getL]
      · rw [if_neg h2]; simp only [getL, ih]
        by_cases h : j = k
        · subst h; simp [Ne.symm h1]
        · simp [h]
theorem getL_del (l : List (Nat × Ob)) (i j : Nat) : getL (delL l i) j = if j = i then none else getL l j := by
  induction l with
  | nil => by_cases h : j = i <;> simp [delL, getL]
  | cons a r ih =>
    obtain ⟨k, p⟩ := a
    simp only [delL]
    by_cases h1 : i = k
    · subst h1; simp only [if_true, ih, getL]
      by_cases h : j = i <;> simp [h]
    · rw [if_neg h1]; simp only [getL, ih]
      by_cases h : j = k
      · subst h; simp [Ne.symm h1]
      · simp [h]
theorem get_upd (m : Mem) (i j : Nat) (o : Ob) : (m.upd i o).get j = if j = i then some o else m.get j := getL_ins _ _ _ _
theorem get_new (m : Mem) (i j : Nat) (f : Nat → Ob) : (m.new i f).get j = if j = i then some (f m.clk) else m.get j := getL_ins _ _ _ _
theorem get_del (m : Mem) (i j : Nat) : (m.del i).get j = if j = i then none else m.get j := getL_del _ _ _
theorem clk_new (m : Mem) (i : Nat) (f : Nat → Ob) : (m.new i f).clk = m.clk + 1 := rfl
theorem clk_del (m : Mem) (i : Nat) : (m.del i).clk = m.clk := rfl
end Go.Proofs.Ythncmjlcmlmnmaa.V

