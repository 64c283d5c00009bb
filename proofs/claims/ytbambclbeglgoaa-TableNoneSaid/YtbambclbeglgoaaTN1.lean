/- The abstract values, the abstract memory, and the abstract execution of the program's operations: definitions alone. Conditions: none. -/
import Derived.Calls
import Derived.Orders
import Derived.RowKit3
import Derived.Below
import Derived.Laws.OwnMore
import Derived.Laws.IdiomCopy
import Derived.Laws.IdiomStrings
import Derived.ChangeKeysEq
import Derived.Laws.Entries
import Derived.Laws.StructEq
import GoSem.Dispatch
import Derived.IntWalk
import Derived.Laws.BytesString
import Derived.LoopN
import Derived.Laws.Bits64
import GoSem.ClaimChange
import Derived.Test.YtbambclbeglgoaaRows
import Derived.ProofKit
import Derived.WalkKit
import Derived.LoopTactic
import Derived.Maps.Own
import Derived.Maps.OwnOps
import Derived.Deep.RegionWith
import Derived.Deep.QuietTactic
import Derived.BigQuiet
import Derived.KernelRfl
namespace Go.Proofs.Ytbambclbeglgoaa.V
open Go
inductive CV where
 | v (x : Value)
 | sl (sz : Nat) (es : List (List CV)) (sp : Option (List (List CV)))
 | rp (cs : List CV)
 deriving Inhabited
inductive AV where
 | c (x : CV)
 | t (id ver n : Nat)
 | p (id ver off : Nat)
 | tp (id ver i off : Nat)
 | bs (id ver n : Nat)
 | agg (cs : List AV)
 | tup (cs : List AV)
 | dead
 deriving Inhabited
inductive Ob where
 | blk (ver : Nat) (cs : List AV)
 | arr (ver : Nat) (sz : Nat) (es : List (List CV)) (cap : Option Nat) (pub : Bool)
 deriving Inhabited
def Ob.ver : Ob → Nat
 | .blk v _ => v
 | .arr v _ _ _ _ => v
structure Mem where
 obs : List (Nat × Ob)
 clk : Nat
 deriving Inhabited
def getL : List (Nat × Ob) → Nat → Option Ob
 | [], _ => none
 | (j, o) :: r, i => if i = j then some o else getL r i
def insL : List (Nat × Ob) → Nat → Ob → List (Nat × Ob)
 | [], i, o => [(i, o)]
 | (j, p) :: r, i, o => if i = j then (i, o) :: r else if i < j then (i, o) :: (j, p) :: r else (j, p) :: insL r i o
def delL : List (Nat × Ob) → Nat → List (Nat × Ob)
 | [], _ => []
 | (j, p) :: r, i => if i = j then delL r i else (j, p) :: delL r i
def Mem.get (m : Mem) (i : Nat) : Option Ob := getL m.obs i
def Mem.upd (m : Mem) (i : Nat) (o : Ob) : Mem := ⟨insL m.obs i o, m.clk⟩
def Mem.new (m : Mem) (i : Nat) (f : Nat → Ob) : Mem := ⟨insL m.obs i (f m.clk), m.clk + 1⟩
def Mem.del (m : Mem) (i : Nat) : Mem := ⟨delL m.obs i, m.clk⟩
inductive TK where
 | sc
 | bool
 | int (k : IntKind)
 | str
 | st (fs : List (Nat × Nat × Bool))          -- a struct's fields: where, how many cells, struct or array?
 | ar (n esz : Nat) (eagg : Bool)
 | sl (esz : Nat) (eagg : Bool) (ebytes : Nat) (u8 : Bool)
 | pt (esz : Nat) (eagg : Bool)
 deriving Inhabited
structure TI where
 agg : Bool
 size : Nat
 zero : List CV
 ezero : List CV
 k : TK
 eq : List Nat      -- a struct that '==' goes through cell by cell: what its cells are (1 number, 2 bool, 3 string)
 deriving Inhabited
abbrev Tab := List TI
def TI.no : TI := ⟨false, 0, [], [], .sc, []⟩
def Tab.at (T : Tab) (t : Nat) : TI := T.getD t TI.no
def Tab.esz (T : Tab) (t : Nat) : Nat := match (T.at t).k with | .sl e _ _ _ => e | _ => 0
abbrev Glob := Nat → Option (List CV)
abbrev KK := AV → Mem → Prop
abbrev solidV (v : Value) : Bool := v.oneCell'
def AV.solid : AV → Bool
 | .agg _ | .tup _ | .dead => false
 | _ => true
def AV.isDead : AV → Bool
 | .dead => true
 | _ => false
def constA (esz : Nat) : Value → AV
 | .slice none 0 0 => .c (.sl esz [] (some []))
 | v => if solidV v then .c (.v v) else .dead
def evO (T : Tab) (G : Glob) (tmps : List AV) (ty : Nat) : Operand → AV
 | .tmp t => tmps.getD t .dead
 | .const v => constA (T.esz ty) v
 | .global g => match G g with | some cs => .c (.rp cs) | none => .dead
 | .func f => .c (.v (.func (.func f) #[] #[]))
def AV.cells : AV → List AV
 | .agg cs => cs
 | x => [x]
def condB (x : AV) (A B : Prop) : Prop := match x with
 | .c (.v (.bool b)) => (b = true → A) ∧ (b = false → B)
 | _ => False
def readA (agg : Bool) (s : Nat) (cs : List AV) (K : AV → Prop) : Prop :=
 if agg then s ≤ cs.length ∧ K (.agg (cs.take s)) else match cs with | x :: _ => K x | [] => False
def normC : CV → CV
 | .sl sz es _ => .sl sz es none
 | x => x
def closeA (m : Mem) : AV → (CV → Mem → Prop) → Prop
 | .c x, K => K (normC x) m
 | .t id ver n, K => match m.get id with
  | some (.arr v sz es cap _) => v = ver ∧ n ≤ es.length ∧ K (.sl sz (es.take n) none) (m.upd id (.arr v sz es cap true))
  | _ => False
 | _, _ => False
def closeL (m : Mem) : List AV → (List CV → Mem → Prop) → Prop
 | [], K => K [] m
 | a :: l, K => closeA m a fun x m => closeL m l fun xs m => K (x :: xs) m
def sBin (op : BinOp) : Value → Value → (Value → Prop) → Prop
 | .int k a, .int k' b, K => match op with
  | .shl => 0 ≤ b ∧ K (.int k (k.wrap (a * 2 ^ (min b.toNat k.bits))))
  | .shr => 0 ≤ b ∧ K (.int k (a.fdiv (2 ^ (min b.toNat k.bits))))
  | .add => k = k' ∧ K (.int k (k.wrap (a + b)))
  | .sub => k = k' ∧ K (.int k (k.wrap (a - b)))
  | .mul => k = k' ∧ K (.int k (k.wrap (a * b)))
  | .quo => k = k' ∧ b ≠ 0 ∧ K (.int k (k.wrap (a.tdiv b)))
  | .rem => k = k' ∧ b ≠ 0 ∧ K (.int k (a.tmod b))
  | .and => k = k' ∧ K (.int k (k.wrap (BitVec.ofInt k.bits a &&& BitVec.ofInt k.bits b).toNat))
  | .or => k = k' ∧ K (.int k (k.wrap (BitVec.ofInt k.bits a ||| BitVec.ofInt k.bits b).toNat))
  | .xor => k = k' ∧ K (.int k (k.wrap (BitVec.ofInt k.bits a ^^^ BitVec.ofInt k.bits b).toNat))
  | .andNot => k = k' ∧ K (.int k (k.wrap (BitVec.ofInt k.bits a &&& ~~~ BitVec.ofInt k.bits b).toNat))
  | .eql => k = k' ∧ K (.bool (a == b))
  | .neq => k = k' ∧ K (.bool (a != b))
  | .lss => k = k' ∧ K (.bool (decide (a < b)))
  | .leq => k = k' ∧ K (.bool (decide (a ≤ b)))
  | .gtr => k = k' ∧ K (.bool (decide (a > b)))
  | .geq => k = k' ∧ K (.bool (decide (a ≥ b)))
 | .string a, .string b, K => match op with
  | .add => ((a.size + b.size : Nat) : Int) ≤ IntKind.i64.max ∧ K (.string (a ++ b))
  | .eql => K (.bool (a.toList == b.toList))
  | .neq => K (.bool !(a.toList == b.toList))
  | .lss => K (.bool (Op.bytesLess a.toList b.toList))
  | .leq => K (.bool (Op.bytesLess a.toList b.toList || a.toList == b.toList))
  | .gtr => K (.bool !(Op.bytesLess a.toList b.toList || a.toList == b.toList))
  | .geq => K (.bool !(Op.bytesLess a.toList b.toList))
  | _ => False
 | _, _, _ => False
def isNil : AV → Option Bool
 | .c (.v (.pointer none)) => some true
 | .c (.rp _) => some false
 | .p _ _ _ => some false
 | .tp _ _ _ _ => some false
 | _ => none
def cellEq : Nat → AV → AV → Option Bool
 | 1, .c (.v (.int k a)), .c (.v (.int k' b)) => if k = k' then some (a == b) else none
 | 2, .c (.v (.bool a)), .c (.v (.bool b)) => some (a == b)
 | 3, .c (.v (.string a)), .c (.v (.string b)) => some (a.toList == b.toList)
 | _, _, _ => none
def cellsEq : List Nat → List AV → List AV → Option Bool
 | [], [], [] => some true
 | c :: cs, x :: xs, y :: ys => match cellEq c x y, cellsEq cs xs ys with | some a, some b => some (a && b) | _, _ => none
 | _, _, _ => none
def eqW (op : BinOp) (ti : TI) (m : Mem) (xs ys : List AV) (K : KK) : Prop := match ti.k, ti.eq with
 | .st _, c :: cs => match op, cellsEq (c :: cs) xs ys with
  | .eql, some b => K (.c (.v (.bool b))) m
  | .neq, some b => K (.c (.v (.bool !b))) m
  | _, _ => False
 | _, _ => False
def aggs : AV → AV → Option (List AV × List AV)
 | .agg xs, .agg ys => some (xs, ys)
 | _, _ => none
def binW (op : BinOp) (k : TK) (m : Mem) (x y : AV) (K : KK) : Prop :=
 match x, y with
 | .c (.v (.bool a)), .c (.v (.bool b)) => match op, k with
  | .eql, .bool => K (.c (.v (.bool (a == b)))) m
  | .neq, .bool => K (.c (.v (.bool !(a == b)))) m
  | _, _ => False
 | .c (.v (.int i a)), .c (.v b) => sBin op (.int i a) b fun r => K (.c (.v r)) m
 | .c (.v (.string a)), .c (.v b) => sBin op (.string a) b fun r => K (.c (.v r)) m
 | x, y => match op, k, isNil x, isNil y with
  | .eql, .pt _ _, some a, some b => (a = true ∨ b = true) ∧ K (.c (.v (.bool (a && b)))) m
  | .neq, .pt _ _, some a, some b => (a = true ∨ b = true) ∧ K (.c (.v (.bool !(a && b)))) m
  | _, _, _, _ => False
def unW (op : UnOp) (m : Mem) (x : AV) (K : KK) : Prop := match op, x with
 | .neg, .c (.v (.int k n)) => K (.c (.v (.int k (k.wrap (0 - n))))) m
 | .xor, .c (.v (.int k n)) => K (.c (.v (.int k (k.wrap (BitVec.ofInt k.bits (if k.signed then -1 else k.max) ^^^ BitVec.ofInt k.bits n).toNat)))) m
 | .not, .c (.v (.bool b)) => K (.c (.v (.bool !b))) m
 | _, _ => False
def bytesOf : List (List CV) → Option (List UInt8)
 | [] => some []
 | [.v (.int .u8 n)] :: r => (bytesOf r).map (UInt8.ofNat n.toNat :: ·)
 | _ => none
def encB (l : List UInt8) : List (List CV) := l.map fun c => [.v (.int .u8 c.toNat)]
def viewS (esz : Nat) (m : Mem) (x : AV) (K : List (List CV) → Prop) : Prop := match x with
 | .c (.sl sz es _) => sz = esz ∧ K es
 | .t id ver n => match m.get id with
  | some (.arr v sz es _ _) => v = ver ∧ sz = esz ∧ n ≤ es.length ∧ K (es.take n)
  | _ => False
 | _ => False
def convW (src dst : TK) (site : Nat) (m : Mem) (x : AV) (K : KK) : Prop := match src, dst, x with
 | .int _, .int k, .c (.v (.int _ n)) => K (.c (.v (.int k (k.wrap n)))) m
 | .str, .str, .c (.v (.string s)) => K (.c (.v (.string s))) m
 | .str, .sl 1 false 1 true, .c (.v (.string s)) => K (.t site m.clk s.size) (m.new site fun v => .arr v 1 (encB s.data.toList) none true)
 | .sl 1 false 1 true, .str, x => viewS 1 m x fun es => match bytesOf es with
  | some b => K (.c (.v (.string ⟨b.toArray⟩))) m
  | none => False
 | _, _, _ => False
def fieldAddrW (off : Nat) (m : Mem) (x : AV) (K : KK) : Prop := match x with
 | .p id ver o => K (.p id ver (o + off)) m
 | .c (.rp cs) => K (.c (.rp (cs.drop off))) m
 | .tp id ver i o => K (.tp id ver i (o + off)) m
 | _ => False
def nilCheckW (m : Mem) (x : AV) (K : KK) : Prop := match x with
 | .p id ver o => K (.p id ver o) m
 | .c (.rp cs) => K (.c (.rp cs)) m
 | .tp id ver i o => K (.tp id ver i o) m
 | .c (.v (.func f a b)) => (f matches .func _) ∧ K (.c (.v (.func f a b))) m
 | _ => False
def loadW (agg : Bool) (s : Nat) (m : Mem) (x : AV) (K : KK) : Prop := match x with
 | .p id ver o => match m.get id with
  | some (.blk v cs) => v = ver ∧ readA agg s (cs.drop o) fun y => K y m
  | _ => False
 | .c (.rp cs) => readA agg s (cs.map .c) fun y => K y m
 | .tp id ver i o => match m.get id with
  | some (.arr v _ es _ _) => v = ver ∧ i < es.length ∧ readA agg s (((es.getD i []).drop o).map .c) fun y => K y m
  | _ => False
 | _ => False
def putAt {α : Type} (l : List α) (o : Nat) (xs : List α) : List α := l.take o ++ xs ++ l.drop (o + xs.length)
def storeW (s : Nat) (m : Mem) (x y : AV) (K : Mem → Prop) : Prop := match x with
 | .p id ver o => match m.get id with
  | some (.blk v cs) => v = ver ∧ y.cells.length = s ∧ (∀ x ∈ y.cells, x.solid = true) ∧ o + s ≤ cs.length ∧ (∀ x ∈ (cs.drop o).take s, x.isDead = false) ∧ K (m.upd id (.blk v (putAt cs o y.cells)))
  | _ => False
 | .tp id ver i o => closeL m y.cells fun ys m => match m.get id with
  | some (.arr v sz es cap pub) => v = ver ∧ pub = false ∧ ys.length = s ∧ i < es.length ∧ o + s ≤ (es.getD i []).length ∧
    K (m.upd id (.arr v sz (es.set i (putAt (es.getD i []) o ys)) cap pub))
  | _ => False
 | _ => False
def allocW (site : Nat) (zero : List CV) (m : Mem) (K : KK) : Prop := K (.p site m.clk 0) (m.new site fun v => .blk v (zero.map .c))
def boxW (site : Nat) (m : Mem) (y : AV) (K : KK) : Prop := (∀ x ∈ y.cells, x.solid = true) ∧ K (.p site m.clk 0) (m.new site fun v => .blk v y.cells)
def fillA (place : Nat → Option (Nat × Nat)) (cells : List AV) : List (Nat × AV) → Option (List AV)
 | [] => some cells
 | (i, v) :: rest => match place i with
  | none => none
  | some (off, size) => if v.cells.length ≠ size ∨ off + size > cells.length ∨ v.cells.all AV.solid = false then none else fillA place (putAt cells off v.cells) rest
def buildW (place : Nat → Option (Nat × Nat)) (zero : List CV) (parts : List (Nat × AV)) (m : Mem) (K : KK) : Prop :=
 match fillA place (zero.map .c) parts with
 | some cs => K (.agg cs) m
 | none => False
def stPlace (fs : List (Nat × Nat × Bool)) (i : Nat) : Option (Nat × Nat) := (fs[i]?).map fun f => (f.1, f.2.1)
def chunks {α : Type} (sz : Nat) : Nat → List α → List (List α)
 | 0, _ => []
 | n + 1, l => l.take sz :: chunks sz n (l.drop sz)
def repL {α : Type} : Nat → List α → List α
 | 0, _ => []
 | n + 1, l => l ++ repL n l
def buildSliceW (site esz : Nat) (zero : List CV) (len : Nat) (parts : List (Nat × AV)) (m : Mem) (K : KK) : Prop := len * esz ≤ 2 ^ 24 ∧
 match fillA (fun i => some (i * esz, esz)) ((repL len zero).map .c) parts with
 | some cs => closeL m cs fun xs m => K (.t site m.clk len) (m.new site fun v => .arr v esz (chunks esz len xs) (some len) false)
 | none => False
def buildSliceB (site esz : Nat) (zero : List CV) (len : Nat) (parts : List (Nat × AV)) (m : Mem) (K : KK) : Prop := (0 < len ∧ len * esz ≤ 2 ^ 24) ∧
 match fillA (fun i => some (i * esz, esz)) ((repL len zero).map .c) parts with
 | some cs => K (.bs site m.clk len) (m.new site fun v => .blk v cs)
 | none => False
def makeSliceW (site esz ebytes : Nat) (zero : List CV) (m : Mem) (l c : AV) (K : KK) : Prop := match l, c with
 | .c (.v (.int _ l)), .c (.v (.int _ c)) => 0 ≤ l ∧ l ≤ c ∧ c * ebytes ≤ 2 ^ 46 ∧
   K (.t site m.clk l.toNat) (m.new site fun v => .arr v esz (List.replicate l.toNat zero) (some c.toNat) false)
 | _, _ => False
def bnd (d : Int) : Option AV → (Int → Prop) → Prop
 | none, K => K d
 | some (.c (.v (.int _ n))), K => K n
 | some _, _ => False
def sliceW (k : TK) (m : Mem) (x : AV) (lo hi mx : Option AV) (K : KK) : Prop := match k, x with
 | .str, .c (.v (.string s)) => mx.isNone ∧ bnd 0 lo fun l => bnd s.size hi fun h => 0 ≤ l ∧ l ≤ h ∧ h ≤ s.size ∧ K (.c (.v (.string (s.extract l.toNat h.toNat)))) m
 | .sl esz _ _ _, .c (.sl sz es sp) => sz = esz ∧ bnd 0 lo fun l => bnd es.length hi fun h => match mx with
  | none => 0 ≤ l ∧ l ≤ h ∧ match sp with
   | some sp => h ≤ es.length + sp.length ∧ K (.c (.sl sz (((es ++ sp).take h.toNat).drop l.toNat) (some ((es ++ sp).drop h.toNat)))) m
   | none => h ≤ es.length ∧ K (.c (.sl sz ((es.take h.toNat).drop l.toNat) none)) m
  | some mx => hi.isSome ∧ bnd 0 (some mx) fun c => 0 ≤ l ∧ l ≤ h ∧ h ≤ c ∧ c ≤ es.length ∧
    K (.c (.sl sz ((es.take h.toNat).drop l.toNat) (some ((es.take c.toNat).drop h.toNat)))) m
 | .sl esz _ _ _, .t id ver n => match m.get id with
  | some (.arr v sz es cap _) => v = ver ∧ sz = esz ∧ n ≤ es.length ∧ mx.isNone ∧ bnd n hi fun h => match lo with
   | none => 0 ≤ h ∧ (h ≤ n ∨ cap.isSome ∧ h ≤ es.length) ∧ K (.t id ver h.toNat) m
   | some _ => bnd 0 lo fun l => 0 ≤ l ∧ l ≤ h ∧ h ≤ n ∧ K (.c (.sl sz ((es.take h.toNat).drop l.toNat) none)) (m.upd id (.arr v sz es cap true))
  | _ => False
 | _, _ => False
def indexAddrW (k : TK) (m : Mem) (x i : AV) (K : KK) : Prop := match i with
 | .c (.v (.int _ i)) => match k, x with
  | .ar n esz _, .p id ver o => 2 ≤ n ∧ 0 ≤ i ∧ i < n ∧ K (.p id ver (o + i.toNat * esz)) m
  | .ar n esz _, .c (.rp cs) => 2 ≤ n ∧ 0 ≤ i ∧ i < n ∧ K (.c (.rp (cs.drop (i.toNat * esz)))) m
  | .sl esz _ _ _, .c (.sl sz es _) => sz = esz ∧ 0 ≤ i ∧ i < es.length ∧ K (.c (.rp (es.getD i.toNat []))) m
  | .sl esz _ _ _, .t id ver n => match m.get id with
   | some (.arr v sz es _ _) => v = ver ∧ sz = esz ∧ n ≤ es.length ∧ 0 ≤ i ∧ i < n ∧ K (.tp id ver i.toNat 0) m
   | _ => False
  | .sl esz _ _ _, .bs id ver n => 0 ≤ i ∧ i < n ∧ K (.p id ver (i.toNat * esz)) m
  | _, _ => False
 | _ => False
def indexW (k : TK) (m : Mem) (x i : AV) (K : KK) : Prop := match i with
 | .c (.v (.int _ i)) => match k, x with
  | .str, .c (.v (.string s)) => 0 ≤ i ∧ i < s.size ∧ K (.c (.v (.int .u8 ((s.data.toList.getD i.toNat 0).toNat : Nat)))) m
  | .ar n esz eagg, .agg cs => 0 ≤ i ∧ i < n ∧ readA eagg esz (cs.drop (i.toNat * esz)) fun y => K y m
  | _, _ => False
 | _ => False
def fieldW (f : Nat × Nat × Bool) (m : Mem) (x : AV) (K : KK) : Prop := match x with
 | .agg cs => readA f.2.2 f.2.1 (cs.drop f.1) fun y => K y m
 | _ => False
def extractW (i : Nat) (m : Mem) (x : AV) (K : KK) : Prop := match x with
 | .tup cs => match cs[i]? with | some y => K y m | none => False
 | _ => False
def lenW (k : TK) (m : Mem) (x : AV) (K : KK) : Prop := match k, x with
 | .str, .c (.v (.string s)) => K (.c (.v (.int .i64 s.size))) m
 | .ar n _ _, _ => K (.c (.v (.int .i64 n))) m
 | .sl _ _ _ _, .c (.sl _ es _) => K (.c (.v (.int .i64 es.length))) m
 | .sl _ _ _ _, .t _ _ n => K (.c (.v (.int .i64 n))) m
 | .sl _ _ _ _, .bs _ _ n => K (.c (.v (.int .i64 n))) m
 | _, _ => False
def capW (k : TK) (m : Mem) (x : AV) (K : KK) : Prop := match k, x with
 | .sl _ _ _ _, .c (.sl _ es (some sp)) => K (.c (.v (.int .i64 (es.length + sp.length)))) m
 | .sl _ _ _ _, .t id ver _ => match m.get id with
  | some (.arr v _ _ (some c) _) => v = ver ∧ K (.c (.v (.int .i64 c))) m
  | _ => False
 | _, _ => False
def minmaxW (mx : Bool) (m : Mem) : List AV → KK → Prop
 | [.c (.v (.int k a)), .c (.v (.int k' b))], K => k = k' ∧ K (.c (.v (.int k (if mx then (if b > a then b else a) else (if b < a then b else a))))) m
 | _, _ => False
def srcW (esz : Nat) (m : Mem) (x : AV) (K : List (List CV) → Prop) : Prop := match x with
 | .c (.v (.string s)) => esz = 1 ∧ K (encB s.data.toList)
 | x => viewS esz m x fun es => K es
def appendW (site esz ebytes : Nat) (m : Mem) (s x : AV) (K : KK) : Prop := srcW esz m x fun ns => match s with
 | .c (.sl sz es (some [])) => sz = esz ∧ (es.length + ns.length) * ebytes ≤ 2 ^ 45 ∧
   (if ns = [] then K s m else K (.t site m.clk (es.length + ns.length)) (m.new site fun v => .arr v esz (es ++ ns) none false))
 | .t id ver n => match m.get id with
  | some (.arr v sz es _ pub) => v = ver ∧ sz = esz ∧ n = es.length ∧ (es.length + ns.length) * ebytes ≤ 2 ^ 45 ∧
    K (.t id m.clk (es.length + ns.length)) ((m.del id).new id fun v => .arr v sz (es ++ ns) none pub)
  | _ => False
 | _ => False
def copyW (esz : Nat) (m : Mem) (d x : AV) (K : KK) : Prop := srcW esz m x fun ns => match d with
 | .t id ver n => match m.get id with
  | some (.arr v sz es cap false) => v = ver ∧ sz = esz ∧ n ≤ es.length ∧
    K (.c (.v (.int .i64 (min ns.length n : Nat)))) (m.upd id (.arr v sz (ns.take (min ns.length n) ++ es.drop (min ns.length n)) cap false))
  | _ => False
 | _ => False
inductive OV where
 | c (x : CV)
 | arr (sz : Nat) (es : List (List CV)) (cap : Option Nat) (pub : Bool) (n : Nat)
 | ptr (cs : List OV)
 | bsl (n : Nat) (cs : List OV)
 | agg (cs : List OV)
 | tup (cs : List OV)
 deriving Inhabited
def packLW (packA : Mem → AV → (OV → Mem → Prop) → Prop) (m : Mem) : List AV → (List OV → Mem → Prop) → Prop
 | [], K => K [] m
 | a :: l, K => packA m a fun o m => packLW packA m l fun os m => K (o :: os) m
def packW : Nat → Mem → AV → (OV → Mem → Prop) → Prop
 | 0, _, _, _ => False
 | k + 1, m, x, K => match x with
  | .c x => K (.c x) m
  | .t id ver n => match m.get id with
   | some (.arr v sz es cap pub) => v = ver ∧ n ≤ es.length ∧ K (.arr sz es cap pub n) (m.del id)
   | _ => False
  | .p id ver 0 => match m.get id with
   | some (.blk v cs) => v = ver ∧ packLW (packW k) (m.del id) cs fun os m => K (.ptr os) m
   | _ => False
  | .bs id ver n => match m.get id with
   | some (.blk v cs) => v = ver ∧ packLW (packW k) (m.del id) cs fun os m => K (.bsl n os) m
   | _ => False
  | .agg cs => packLW (packW k) m cs fun os m => K (.agg os) m
  | .tup cs => packLW (packW k) m cs fun os m => K (.tup os) m
  | _ => False
def unpackL (unpackA : Nat → Mem → OV → AV × Nat × Mem) (id : Nat) (m : Mem) : List OV → List AV × Nat × Mem
 | [] => ([], id, m)
 | o :: l => let r := unpackA id m o; let q := unpackL unpackA r.2.1 r.2.2 l; (r.1 :: q.1, q.2.1, q.2.2)
def unpack : Nat → Nat → Mem → OV → AV × Nat × Mem
 | 0, id, m, _ => (.dead, id, m)
 | k + 1, id, m, o => match o with
  | .c x => (.c x, id, m)
  | .arr sz es cap pub n => (.t id m.clk n, id + 1, m.new id fun v => .arr v sz es cap pub)
  | .ptr cs => let q := unpackL (unpack k) (1000000 * (id + 1)) m cs; (.p id q.2.2.clk 0, id + 1, q.2.2.new id fun v => .blk v q.1)
  | .bsl n cs => let q := unpackL (unpack k) (1000000 * (id + 1)) m cs; (.bs id q.2.2.clk n, id + 1, q.2.2.new id fun v => .blk v q.1)
  | .agg cs => let q := unpackL (unpack k) id m cs; (.agg q.1, q.2.1, q.2.2)
  | .tup cs => let q := unpackL (unpack k) id m cs; (.tup q.1, q.2.1, q.2.2)
inductive Mode where
 | shut | keep | own | ref (s : Nat)
def shutW (m : Mem) (x : AV) (K : OV → Mem → Prop) : Prop := match x with
 | .agg cs => closeL m cs fun xs m => K (.agg (xs.map .c)) m
 | x => closeA m x fun y m => K (.c y) m
def depth : Nat := 6
def argW (md : Mode) (m : Mem) (x : AV) (K : OV → Mem → Prop) : Prop := match md with
 | .shut => shutW m x K
 | .keep => match x with | .c y => K (.c y) m | _ => False
 | .own => packW depth m x K
 | .ref s => match x with
  | .p id ver o => match m.get id with
   | some (.blk v cs) => v = ver ∧ o + s ≤ cs.length ∧ (∀ x ∈ (cs.drop o).take s, x.isDead = false) ∧ packLW (packW depth) (m.upd id (.blk v (putAt cs o (List.replicate s .dead)))) ((cs.drop o).take s) fun os m => K (.ptr os) m
   | _ => False
  | _ => False
def argsW (m : Mem) : List Mode → List AV → (List OV → Mem → Prop) → Prop
 | [], [], K => K [] m
 | md :: mds, x :: xs, K => argW md m x fun o m => argsW m mds xs fun os m => K (o :: os) m
 | _, _, _ => False
def backW (id : Nat) (m : Mem) : List Mode → List AV → List OV → (Nat → Mem → Prop) → Prop
 | [], [], [], K => K id m
 | .ref s :: mds, .p i ver o :: xs, .ptr os :: l, K =>
  let q := unpackL (unpack depth) (1000000 * (i + 1)) m os
  os.length = s ∧ match q.2.2.get i with
   | some (.blk v cs) => v = ver ∧ o + s ≤ cs.length ∧ backW id (q.2.2.upd i (.blk v (putAt cs o q.1))) mds xs l K
   | _ => False
 | .ref _ :: _, _, _, _ => False
 | _ :: mds, _ :: xs, _ :: l, K => backW id m mds xs l K
 | _, _, _, _ => False
abbrev Spec := FuncId → List OV → (OV → List OV → Prop) → Prop
def callKW (D : Spec) (site : Nat) (m : Mem) (f : FuncId) (args : List AV) (K : KK) : Prop :=
 ∃ mds : List Mode, argsW m mds args fun os m => ∃ Q, D f os Q ∧ ∀ r bs, Q r bs →
  backW site m mds args bs fun id m => let u := unpack depth id m r; K u.1 u.2.2
def isU8 : CV → Bool
 | .v (.int .u8 _) => true
 | _ => false
mutual
def safeC : CV → Bool
 | .v _ => true
 | .sl _ es sp => safeE es && safeP sp
 | .rp cs => safeR cs
def safeR : List CV → Bool
 | [] => true
 | x :: l => !isU8 x && (safeC x && safeR l)
def safeE : List (List CV) → Bool
 | [] => true
 | r :: l => safeR r && safeE l
def safeP : Option (List (List CV)) → Bool
 | none => true
 | some s => safeE s
end
def safeT (es : List (List CV)) : Bool := es.all fun r => r.all safeC
def u8E (es : List (List CV)) : Bool := es.all fun r => r.all isU8
mutual
def safeO : OV → Bool
 | .c x => safeC x
 | .arr _ es _ pub _ => !pub && safeT es
 | .ptr _ => false
 | .bsl _ _ => false
 | .agg l => safeOs l
 | .tup l => safeOs l
def safeOs : List OV → Bool
 | [] => true
 | o :: l => safeO o && safeOs l
end
def lendA (m : Mem) : AV → CV → Prop
 | .c y, z => z = y ∨ z = normC y
 | .t id ver n, .sl sz es' sp' => match m.get id with
  | some (.arr v sz' es cap false) => v = ver ∧ sz = sz' ∧ n ≤ es.length ∧ u8E es = true ∧ es' = es.take n ∧ (sp' = none ∨ (cap = some es.length ∧ n < es.length) ∧ sp' = some (es.drop n))
  | _ => False
 | _, _ => False
def lendC : List AV → List OV → Prop
 | [], [] => True
 | .c y :: xs, .c z :: os => (z = y ∨ z = normC y) ∧ lendC xs os
 | _, _ => False
def lendL (m : Mem) : List AV → List OV → Prop
 | [], [] => True
 | .agg cs :: xs, .agg zs :: os => lendC cs zs ∧ lendL m xs os
 | x :: xs, .c z :: os => lendA m x z ∧ lendL m xs os
 | _, _ => False
def callLW (D : Spec) (site : Nat) (m : Mem) (f : FuncId) (args : List AV) (K : KK) : Prop :=
 ∃ os, lendL m args os ∧ ∃ Q, D f os Q ∧ ∀ r bs, Q r bs → safeO r = true ∧ K (unpack depth site m r).1 (unpack depth site m r).2.2
def callW (D : Spec) (site : Nat) (m : Mem) (f : FuncId) (args : List AV) (K : KK) : Prop := callKW D site m f args K ∨ callLW D site m f args K
def siteOf (d : Option Tmp) : Nat := match d with | some d => 1000 * (d + 1) | none => 0
def setO (tm : List AV) (d : Option Tmp) (v : AV) : List AV := match d with | some d => tm.set d v | none => tm
def evL (T : Tab) (G : Glob) (tm : List AV) : List Operand → List TypeId → List AV
 | [], _ => []
 | x :: xs, tys => evO T G tm (tys.headD 0) x :: evL T G tm xs tys.tail
def builtinW (T : Tab) (site : Nat) (m : Mem) (b : Builtin) (tys : List TypeId) (args : List AV) (K : KK) : Prop := match b, args, tys with
 | .len, [x], [t] => lenW (T.at t).k m x K
 | .cap, [x], [t] => capW (T.at t).k m x K
 | .min, l, _ => minmaxW false m l K
 | .max, l, _ => minmaxW true m l K
 | .append, [s, x], [t, t2] => match (T.at t).k, (T.at t2).k with
  | .sl esz _ ebytes _, .sl _ _ _ _ => appendW site esz ebytes m s x K
  | .sl esz _ ebytes _, .str => appendW site esz ebytes m s x K
  | _, _ => False
 | .copy, [d, x], [t, _] => match (T.at t).k with
  | .sl esz _ _ _ => copyW esz m d x K
  | _ => False
 | _, _, _ => False
def opW (T : Tab) (G : Glob) (D : Spec) (tm : List AV) (o : Oper) (m : Mem) (K : KK) : Prop :=
 let ev := evO T G tm
 let site := siteOf o.dst
 match o.op with
 | .move x | .assign x => K (ev o.type x) m
 | .pick c a b => condB (ev 0 c) (K (ev o.type a) m) (K (ev o.type b) m)
 | .alloc e => match (T.at e).size with | 0 => False | _ + 1 => allocW site (T.at e).zero m K
 | .box e x => boxW site m (ev e x) K
 | .build t ps => match (T.at t).k with
  | .st fs => buildW (stPlace fs) (T.at t).zero (ps.toList.map fun p => (p.1, ev 0 p.2)) m K
  | .ar _ esz _ => buildW (fun i => some (i * esz, esz)) (T.at t).zero (ps.toList.map fun p => (p.1, ev 0 p.2)) m K
  | _ => False
 | .buildSlice t len ps => match (T.at t).k with
  | .sl esz _ _ _ => bif Nat.ble 16 esz then (buildSliceW site esz (T.at t).ezero len (ps.toList.map fun p => (p.1, ev 0 p.2)) m K ∨ buildSliceB site esz (T.at t).ezero len (ps.toList.map fun p => (p.1, ev 0 p.2)) m K) else buildSliceW site esz (T.at t).ezero len (ps.toList.map fun p => (p.1, ev 0 p.2)) m K
  | _ => False
 | .load t a => match (T.at t).size with | 0 => False | s + 1 => loadW (T.at t).agg (s + 1) m (ev 0 a) K
 | .store t a x => match (T.at t).size with | 0 => False | s + 1 => storeW (s + 1) m (ev 0 a) (ev t x) fun m => K .dead m
 | .nilCheck x => nilCheckW m (ev 0 x) K
 | .binOp op t x y _ => match aggs (ev t x) (ev t y) with
  | some p => eqW op (T.at t) m p.1 p.2 K
  | none => binW op (T.at t).k m (ev t x) (ev t y) K
 | .unOp op _ x => unW op m (ev 0 x) K
 | .convert s d x => convW (T.at s).k (T.at d).k site m (ev s x) K
 | .makeSlice t l c => match (T.at t).k with
  | .sl esz _ ebytes _ => makeSliceW site esz ebytes (T.at t).ezero m (ev 0 l) (ev 0 c) K
  | _ => False
 | .slice t x lo hi mx => sliceW (T.at t).k m (ev t x) (lo.map (ev 0)) (hi.map (ev 0)) (mx.map (ev 0)) K
 | .fieldAddr s x f => match (T.at s).k with
  | .st fs => match fs[f]? with
   | some (off, _ + 1, _) => fieldAddrW off m (ev 0 x) K
   | some (_, 0, _) => False
   | none => False
  | _ => False
 | .field t x f => match (T.at t).k with
  | .st fs => match fs[f]? with
   | some f => fieldW f m (ev 0 x) K
   | none => False
  | _ => False
 | .indexAddr t x i => indexAddrW (T.at t).k m (ev t x) (ev 0 i) K
 | .index t x i => indexW (T.at t).k m (ev t x) (ev 0 i) K
 | .extract x i => extractW i m (ev 0 x) K
 | .call c => match c.callee with
  | .builtin b => builtinW T site m b c.argTypes.toList (evL T G tm c.args.toList c.argTypes.toList) K
  | .value f => match ev 0 f with
   | .c (.v (.func (.func g) first captured)) => first = #[] ∧ captured = #[] ∧ callW D site m g (evL T G tm c.args.toList c.argTypes.toList) K
   | _ => False
  | _ => False
 | _ => False
def skipA : AV := .tup []
def isSkip : AV → Bool
 | .tup [] => true
 | _ => false
def guardW (all : List Oper) (tm : List AV) (g : Option (Nat × Bool)) (go skip : Prop) : Prop := match g with
 | none => go
 | some (j, want) => match (all[j]?).bind (·.dst) with
  | some d => match isSkip (tm.getD d .dead) with
   | true => skip
   | false => condB (tm.getD d .dead) (if want then go else skip) (if want then skip else go)
  | none => False
def mvT (o : Oper) (tm : List AV) : Option Tmp := match o.guard with
 | none => match o.op with
  | .move (.tmp s) => match tm.getD s .dead with
   | .t _ _ _ => some s
   | _ => none
  | _ => none
 | some _ => none
def opsW (T : Tab) (G : Glob) (D : Spec) (all : List Oper) : List Oper → List AV → Mem → (List AV → Mem → Prop) → Prop
 | [], tm, m, K => K tm m
 | o :: r, tm, m, K => match mvT o tm with
  | none => guardW all tm o.guard (opW T G D tm o m fun v m => opsW T G D all r (setO tm o.dst v) m K) (opsW T G D all r (setO tm o.dst skipA) m K)
  | some s => opW T G D tm o m (fun v m => opsW T G D all r (setO tm o.dst v) m K) ∨
    closeA m (tm.getD s .dead) fun y m => opsW T G D all r (setO (setO tm (some s) (.c y)) o.dst (tm.getD s .dead)) m K
def Ob.same : Option Ob → Option Ob → Prop
 | none, none => True
 | some (.blk v cs), some (.blk v' cs') => v = v' ∧ cs = cs'
 | some (.arr v sz es cap _), some (.arr v' sz' es' cap' _) => v = v' ∧ sz = sz' ∧ es = es' ∧ cap = cap'
 | _, _ => False
def Agree (wr : List Nat) (m m' : Mem) : Prop := m.clk ≤ m'.clk ∧ ∀ id ob, id ∉ wr → m.get id = some ob → Ob.same (some ob) (m'.get id)
def hoistable (T : Tab) (o : Oper) : Bool := match o.op with
 | .move _ | .assign _ | .pick _ _ _ | .nilCheck _ | .fieldAddr _ _ _ | .field _ _ _ | .extract _ _ | .binOp _ _ _ _ _ | .unOp _ _ _ | .load _ _ | .indexAddr _ _ _ | .index _ _ _ => true
 | .convert s d _ => match (T.at s).k, (T.at d).k with | .int _, .int _ => true | .str, .str => true | .sl _ _ _ _, .str => true | _, _ => false
 | .slice _ _ _ _ _ => true
 | .build _ _ => true
 | .call c => match c.callee with | .builtin .len => true | .builtin .min => true | .builtin .max => true | _ => false
 | _ => false
def hoistW (T : Tab) (G : Glob) (wr : List Nat) (tm : List AV) (o : Oper) (m : Mem) (K : AV → Prop) : Prop :=
 let ev := evO T G tm
 let K' : KK := fun v _ => K v
 match o.op with
 | .move x | .assign x => K (ev o.type x)
 | .pick c a b => condB (ev 0 c) (K (ev o.type a)) (K (ev o.type b))
 | .nilCheck x => nilCheckW m (ev 0 x) K'
 | .fieldAddr s x f => match (T.at s).k with
  | .st fs => match fs[f]? with
   | some (off, _ + 1, _) => fieldAddrW off m (ev 0 x) K'
   | some (_, 0, _) => False
   | none => False
  | _ => False
 | .field t x f => match (T.at t).k with
  | .st fs => match fs[f]? with
   | some f => fieldW f m (ev 0 x) K'
   | none => False
  | _ => False
 | .extract x i => extractW i m (ev 0 x) K'
 | .binOp op t x y _ => match aggs (ev t x) (ev t y) with
  | some p => eqW op (T.at t) m p.1 p.2 K'
  | none => binW op (T.at t).k m (ev t x) (ev t y) K'
 | .unOp op _ x => unW op m (ev 0 x) K'
 | .load t a => match (T.at t).size with
  | 0 => False
  | s + 1 => match ev 0 a with
   | .p id ver o => id ∉ wr ∧ loadW (T.at t).agg (s + 1) m (.p id ver o) K'
   | .tp id ver i o => id ∉ wr ∧ loadW (T.at t).agg (s + 1) m (.tp id ver i o) K'
   | .c x => loadW (T.at t).agg (s + 1) m (.c x) K'
   | _ => False
 | .indexAddr t x i => match ev t x with
  | .t id ver n => id ∉ wr ∧ indexAddrW (T.at t).k m (.t id ver n) (ev 0 i) K'
  | x => indexAddrW (T.at t).k m x (ev 0 i) K'
 | .index t x i => indexW (T.at t).k m (ev t x) (ev 0 i) K'
 | .convert s d x => match (T.at d).k, ev s x with
  | .int k, .c x => convW (T.at s).k (.int k) 0 m (.c x) K'
  | .str, .c x => convW (T.at s).k .str 0 m (.c x) K'
  | .str, .t id ver n => id ∉ wr ∧ convW (T.at s).k .str 0 m (.t id ver n) K'
  | _, _ => False
 | .slice t x lo hi mx => match ev t x with
  | .c x => sliceW (T.at t).k m (.c x) (lo.map (ev 0)) (hi.map (ev 0)) (mx.map (ev 0)) K'
  | .t id ver n => lo = none ∧ id ∉ wr ∧ sliceW (T.at t).k m (.t id ver n) none (hi.map (ev 0)) (mx.map (ev 0)) K'
  | _ => False
 | .call c => match c.callee with
  | .builtin .len => builtinW T 0 m .len c.argTypes.toList (evL T G tm c.args.toList c.argTypes.toList) K'
  | .builtin .min => builtinW T 0 m .min c.argTypes.toList (evL T G tm c.args.toList c.argTypes.toList) K'
  | .builtin .max => builtinW T 0 m .max c.argTypes.toList (evL T G tm c.args.toList c.argTypes.toList) K'
  | _ => False
 | .build t ps => match (T.at t).k with
  | .st fs => buildW (stPlace fs) (T.at t).zero (ps.toList.map fun p => (p.1, ev 0 p.2)) m K'
  | .ar _ esz _ => buildW (fun i => some (i * esz, esz)) (T.at t).zero (ps.toList.map fun p => (p.1, ev 0 p.2)) m K'
  | _ => False
 | _ => False
def plan (T : Tab) (ops : Array Oper) : Nat → Array Bool → Option (List (Nat × Bool))
 | 0, listed => if (Region.ready .any ops listed).isEmpty then some [] else none
 | n + 1, listed =>
  let rs := Region.ready .any ops listed
  match rs.find? fun i => ((ops[i]?).map (hoistable T)).getD false && Region.free .any ops listed i with
  | some i => (plan T ops n (listed.setIfInBounds i true)).map ((i, true) :: ·)
  | none => match rs with
   | [] => some []
   | [i] => (plan T ops n (listed.setIfInBounds i true)).map ((i, false) :: ·)
   | _ => none
def memOp (o : Oper) : Bool := match o.op with
 | .load _ _ | .indexAddr _ _ _ | .convert _ _ _ | .slice _ _ _ _ _ => true
 | _ => false
def befW (all : List Oper) : Nat → Oper → Nat → Bool
 | 0, _, _ => false
 | n + 1, o, k => o.after.any fun e => Region.binds .any e && (e.on == k || match all[e.on]? with | some p => befW all n p k | none => false)
def isLast (all : List Oper) (o : Oper) : Bool := (List.range all.length).all fun k => match all[k]? with
 | some ok => !memOp ok || befW all 4 o k
 | none => true
def dnW : List (List Nat) → List (List Nat)
 | a :: b :: r => if b.all a.contains then b :: r else a :: b :: r
 | l => l
def planW (T : Tab) (G : Glob) (D : Spec) (wr : List (List Nat)) (all : List Oper) : List (Nat × Bool) → List AV → Mem → (List AV → Mem → Prop) → Prop
 | [], tm, m, K => K tm m
 | (i, h) :: r, tm, m, K => match all[i]? with
  | none => False
  | some o => if h then guardW all tm o.guard (hoistW T G (wr.headD []) tm o m fun v => planW T G D wr all r (setO tm o.dst v) m K) (planW T G D wr all r (setO tm o.dst skipA) m K)
   else guardW all tm o.guard (opW T G D tm o m fun v m' => (isLast all o = true ∨ Agree (wr.headD []) m m') ∧ planW T G D (dnW wr) all r (setO tm o.dst v) m' K) (planW T G D (dnW wr) all r (setO tm o.dst skipA) m K)
inductive PL where
 | nil
 | op (i : Nat) (h lb : Bool) (r : PL)
 | alt (i j : Nat) (li lj : Bool) (a b : PL)
def PL.deep : PL → Nat
 | .nil => 0
 | .op _ _ _ r => r.deep + 1
 | .alt _ _ _ _ a b => max a.deep b.deep + 1
def lastOk (ops : Array Oper) (i : Nat) (lb : Bool) : Bool := match ops.toList[i]? with | some o => lb == isLast ops.toList o | none => true
def treeOk (T : Tab) (ops : Array Oper) : Array Bool → PL → Bool
 | listed, .nil => (Region.ready .any ops listed).isEmpty
 | listed, .op i h lb r => (match h with
  | true => (Region.ready .any ops listed).contains i && ((ops[i]?).map (hoistable T)).getD false && Region.free .any ops listed i
  | false => Region.ready .any ops listed == [i] && lastOk ops i lb) && treeOk T ops (listed.setIfInBounds i true) r
 | listed, .alt i j li lj a b => Region.ready .any ops listed == [i, j] && lastOk ops i li && lastOk ops j lj && treeOk T ops (listed.setIfInBounds i true) a && treeOk T ops (listed.setIfInBounds j true) b
def nhW (T : Tab) (G : Glob) (D : Spec) (wr : List Nat) (all : List Oper) (o : Oper) (tm : List AV) (m : Mem) (K : List AV → Mem → Prop) : Prop :=
 guardW all tm o.guard (opW T G D tm o m fun v m' => (isLast all o = true ∨ Agree wr m m') ∧ K (setO tm o.dst v) m') (K (setO tm o.dst skipA) m)
def planTW (T : Tab) (G : Glob) (D : Spec) (all : List Oper) : List (List Nat) → PL → List AV → Mem → (List AV → Mem → Prop) → Prop
 | _, .nil, tm, m, K => K tm m
 | wr, .op i h _ r, tm, m, K => match all[i]? with
  | none => False
  | some o => match h with
   | true => guardW all tm o.guard (hoistW T G (wr.headD []) tm o m fun v => planTW T G D all wr r (setO tm o.dst v) m K) (planTW T G D all wr r (setO tm o.dst skipA) m K)
   | false => nhW T G D (wr.headD []) all o tm m fun tm m => planTW T G D all (dnW wr) r tm m K
 | wr, .alt i j _ _ a b, tm, m, K => match all[i]?, all[j]? with
  | some oi, some oj => nhW T G D (wr.headD []) all oi tm m (fun tm m => planTW T G D all wr a tm m K) ∧ nhW T G D (wr.headD []) all oj tm m (fun tm m => planTW T G D all wr b tm m K)
  | _, _ => False
def drawnW (T : Tab) (G : Glob) (D : Spec) (ops : Array Oper) (tm : List AV) (m : Mem) (K : List AV → Mem → Prop) : Prop :=
 Region.noSelect ops = true ∧ ((match plan T ops ops.size (Array.replicate ops.size false) with
  | some ord => ∃ wr, planW T G D wr ops.toList ord tm m K
  | none => False) ∨ ∃ t wr, treeOk T ops (Array.replicate ops.size false) t = true ∧ t.deep ≤ ops.size ∧ planTW T G D ops.toList wr t tm m K)
inductive EX where
 | norm | ret | ex (id : Nat)
abbrev KX := EX → List AV → Mem → Prop
def killT : Nat → List Nat → List AV → List AV
 | _, _, [] => []
 | i, [], _ :: l => .dead :: killT (i + 1) [] l
 | i, k :: ks, x :: l => if i = k then x :: killT (i + 1) ks l else .dead :: killT (i + 1) (k :: ks) l
def keepL (ids : List Nat) : List (Nat × Ob) → List (Nat × Ob)
 | [] => []
 | (i, o) :: r => if i ∈ ids then (i, o) :: keepL ids r else keepL ids r
def Mem.keep (ids : List Nat) (m : Mem) : Mem := ⟨keepL ids m.obs, m.clk⟩
mutual
def cnA (B : Nat) (m : Mem) : AV → AV
 | .c x => .c x
 | .t id ver n => match m.get id with
  | some (.arr v _ _ _ _) => match Nat.beq v ver with | true => .t id B n | false => .dead
  | _ => .dead
 | .p id ver o => match m.get id with
  | some (.blk v _) => match Nat.beq v ver with | true => .p id (bif Nat.ble v B then v else B) o | false => .dead
  | _ => .dead
 | .tp id ver i o => match m.get id with
  | some (.arr v _ _ _ _) => match Nat.beq v ver with | true => .tp id B i o | false => .dead
  | _ => .dead
 | .bs id ver n => match m.get id with
  | some (.blk v _) => match Nat.beq v ver with | true => .bs id (bif Nat.ble v B then v else B) n | false => .dead
  | _ => .dead
 | .agg cs => .agg (cnL B m cs)
 | .tup cs => .tup (cnL B m cs)
 | .dead => .dead
def cnL (B : Nat) (m : Mem) : List AV → List AV
 | [] => []
 | x :: l => cnA B m x :: cnL B m l
end
def cnOb (B : Nat) (m : Mem) (caps : List Nat) (i : Nat) : Ob → Ob
 | .blk v cs => .blk (bif Nat.ble v B then v else B) (cnL B m cs)
 | .arr _ sz es cap pub => .arr B sz es (bif caps.contains i then none else cap) pub
def cnObs (B : Nat) (m : Mem) (caps : List Nat) : List (Nat × Ob) → List (Nat × Ob)
 | [] => []
 | (i, o) :: r => (i, cnOb B m caps i o) :: cnObs B m caps r
def Mem.canon (B : Nat) (caps : List Nat) (m : Mem) : Mem := ⟨cnObs B m caps m.obs, B + 1⟩
mutual
def nmA : AV → AV
 | .c x => .c (normC x)
 | .t id ver n => .t id ver n
 | .p id ver o => .p id ver o
 | .tp id ver i o => .tp id ver i o
 | .bs id ver n => .bs id ver n
 | .agg cs => .agg (nmL cs)
 | .tup cs => .tup (nmL cs)
 | .dead => .dead
def nmL : List AV → List AV
 | [] => []
 | x :: l => nmA x :: nmL l
end
def nmOb : Ob → Ob
 | .blk v cs => .blk v (nmL cs)
 | .arr v sz es cap pub => .arr v sz es cap pub
def nmObs : List (Nat × Ob) → List (Nat × Ob)
 | [] => []
 | (i, o) :: r => (i, nmOb o) :: nmObs r
def Mem.nm (m : Mem) : Mem := ⟨nmObs m.obs, m.clk⟩
def nmSign : List Nat → Bool
 | [] => false
 | i :: l => if i = 7777777 then true else nmSign l
def lookR (i : Nat) : List (Nat × Nat) → Option Nat
 | [] => none
 | (k, j) :: r => if i = k then some j else lookR i r
def invR (j : Nat) : List (Nat × Nat) → Option Nat
 | [] => none
 | (i, k) :: r => if j = k then some i else invR j r
def isN (j : Nat) : Option Nat → Bool
 | some i => if i = j then true else false
 | none => false
def rnOk (rn : List (Nat × Nat)) : Bool := rn.all fun p => isN p.2 (lookR p.1 rn) && isN p.1 (invR p.2 rn)
def rnV (B i j v : Nat) : Nat := if i = j then (bif Nat.ble v B then v else B) else B
mutual
def rnA (B : Nat) (rn : List (Nat × Nat)) (m : Mem) : AV → AV
 | .c x => .c x
 | .t id ver n => match m.get id with
  | some (.arr v _ _ _ _) => match Nat.beq v ver with
   | true => match lookR id rn with | some j => .t j B n | none => .dead
   | false => .dead
  | _ => .dead
 | .p id ver o => match m.get id with
  | some (.blk v _) => match Nat.beq v ver with
   | true => match lookR id rn with | some j => .p j (rnV B id j v) o | none => .dead
   | false => .dead
  | _ => .dead
 | .tp id ver i o => match m.get id with
  | some (.arr v _ _ _ _) => match Nat.beq v ver with
   | true => match lookR id rn with | some j => .tp j B i o | none => .dead
   | false => .dead
  | _ => .dead
 | .bs id ver n => match m.get id with
  | some (.blk v _) => match Nat.beq v ver with
   | true => match lookR id rn with | some j => .bs j (rnV B id j v) n | none => .dead
   | false => .dead
  | _ => .dead
 | .agg cs => .agg (rnL B rn m cs)
 | .tup cs => .tup (rnL B rn m cs)
 | .dead => .dead
def rnL (B : Nat) (rn : List (Nat × Nat)) (m : Mem) : List AV → List AV
 | [] => []
 | x :: l => rnA B rn m x :: rnL B rn m l
end
def rnOb (B : Nat) (rn : List (Nat × Nat)) (m : Mem) (caps : List Nat) (i j : Nat) : Ob → Ob
 | .blk v cs => .blk (rnV B i j v) (rnL B rn m cs)
 | .arr _ sz es cap pub => .arr B sz es (bif caps.contains j then none else cap) pub
def rnObs (B : Nat) (rn : List (Nat × Nat)) (m : Mem) (caps : List Nat) : List (Nat × Nat) → List (Nat × Ob)
 | [] => []
 | (i, j) :: r => match m.get i with
  | some ob => (j, rnOb B rn m caps i j ob) :: rnObs B rn m caps r
  | none => rnObs B rn m caps r
def Mem.rnm (B : Nat) (rn : List (Nat × Nat)) (caps : List Nat) (m : Mem) : Mem := ⟨rnObs B rn m caps rn, B + 1⟩
def addN (i : Nat) (s : List Nat) : List Nat := bif s.contains i then s else s ++ [i]
def scan (m : Mem) : Nat → List AV → List Nat → List Nat
 | 0, _, s => s
 | _ + 1, [], s => s
 | n + 1, .agg cs :: r, s => scan m n (cs ++ r) s
 | n + 1, .tup cs :: r, s => scan m n (cs ++ r) s
 | n + 1, .t id ver _ :: r, s => match m.get id with
  | some (.arr v _ _ _ _) => match Nat.beq v ver with | true => scan m n r (addN id s) | false => scan m n r s
  | _ => scan m n r s
 | n + 1, .tp id ver _ _ :: r, s => match m.get id with
  | some (.arr v _ _ _ _) => match Nat.beq v ver with | true => scan m n r (addN id s) | false => scan m n r s
  | _ => scan m n r s
 | n + 1, .p id ver _ :: r, s => match m.get id with
  | some (.blk v cs) => match Nat.beq v ver, s.contains id with | true, false => scan m n (cs ++ r) (s ++ [id]) | _, _ => scan m n r s
  | _ => scan m n r s
 | n + 1, .bs id ver _ :: r, s => match m.get id with
  | some (.blk v cs) => match Nat.beq v ver, s.contains id with | true, false => scan m n (cs ++ r) (s ++ [id]) | _, _ => scan m n r s
  | _ => scan m n r s
 | n + 1, _ :: r, s => scan m n r s
def pinAs (m : Mem) : List Nat → List AV
 | [] => []
 | i :: r => match m.get i with
  | some (.blk v _) => .p i v 0 :: pinAs m r
  | _ => pinAs m r
def mkR (pins : List Nat) : Nat → List Nat → List (Nat × Nat)
 | _, [] => []
 | k, i :: r => bif pins.contains i then mkR pins k r else (i, 500 + k) :: mkR pins (k + 1) r
def theRn (live ids : List Nat) (tm : List AV) (m : Mem) : List (Nat × Nat) :=
 let rn := ids.map (fun i => (i, i)) ++ mkR ids 0 (scan m 4000 (killT 0 live tm ++ pinAs m ids) [])
 bif rnOk rn then rn else []
def cnSign : List Nat → Bool
 | [] => false
 | i :: l => if i = 8888888 then true else cnSign l
def fgT0 (B : Nat) (live ids : List Nat) (tm : List AV) (m : Mem) : List AV := bif cnSign ids then rnL B (theRn live ids tm m) m (killT 0 live tm) else cnL B (m.keep ids) (killT 0 live tm)
def fgM0 (B : Nat) (live ids caps : List Nat) (tm : List AV) (m : Mem) : Mem := bif cnSign ids then m.rnm B (theRn live ids tm m) caps else (m.keep ids).canon B caps
def fgT (B : Nat) (live ids : List Nat) (tm : List AV) (m : Mem) : List AV := bif nmSign ids then nmL (fgT0 B live ids tm m) else fgT0 B live ids tm m
def fgM (B : Nat) (live ids caps : List Nat) (tm : List AV) (m : Mem) : Mem := bif nmSign ids then (fgM0 B live ids caps tm m).nm else fgM0 B live ids caps tm m
def loopW (B : Nat) (live ids caps : List Nat) (X : List AV → Mem → KX → Prop) (K : KX) : Nat → List AV → Mem → Prop
 | 0, _, _ => False
 | n + 1, tm, m => X (fgT B live ids tm m) (fgM B live ids caps tm m) fun e tm m => match e with | .norm => loopW B live ids caps X K n tm m | .ret => K .ret tm m | .ex i => K (.ex i) tm m
def Join (B : Nat) (K : List AV → Mem → Prop) (tm : List AV) (m : Mem) : Prop := K tm m ∨ ∃ live ids caps, K (fgT B live ids tm m) (fgM B live ids caps tm m)
def hasG0 : List Oper → Bool
 | [] => false
 | o :: l => match o.guard with | some _ => true | none => hasG0 l
def isAl (o : Oper) : Bool := match o.op with | .alloc _ => true | _ => false
def isIx (o : Oper) : Bool := match o.op with | .indexAddr _ _ _ => true | _ => false
def hasG (l : List Oper) : Bool := hasG0 l || (l.any isAl && l.any isIx)
def execW (B : Nat) (T : Tab) (G : Glob) (D : Spec) : Code → List AV → Mem → KX → Prop
 | .skip, tm, m, K => K .norm tm m
 | .label _, tm, m, K => K .norm tm m
 | .region _ ops draw, tm, m, K => match draw, hasG ops.toList with
  | false, false => opsW T G D ops.toList ops.toList tm m (K .norm)
  | false, true => opsW T G D ops.toList ops.toList tm m (Join B (K .norm))
  | true, _ => drawnW T G D ops tm m (Join B (K .norm))
 | .seq a b, tm, m, K => execW B T G D a tm m fun e tm m => match e with | .norm => execW B T G D b tm m K | .ret => K .ret tm m | .ex i => K (.ex i) tm m
 | .cond c a b, tm, m, K => condB (evO T G tm 0 c) (execW B T G D a tm m fun e tm m => match e with | .norm => Join B (K .norm) tm m | .ret => K .ret tm m | .ex i => K (.ex i) tm m)
   (execW B T G D b tm m fun e tm m => match e with | .norm => Join B (K .norm) tm m | .ret => K .ret tm m | .ex i => K (.ex i) tm m)
 | .block id c, tm, m, K => execW B T G D c tm m fun e tm m => match e with | .norm => K .norm tm m | .ret => K .ret tm m | .ex i => if i = id then K .norm tm m else K (.ex i) tm m
 | .loop c, tm, m, K => ∃ live ids caps n, loopW B live ids caps (execW B T G D c) K n tm m
 | .exit id, tm, m, K => K (.ex id) tm m
 | .ret, tm, m, K => K .ret tm m
 | _, _, _, _ => False
end Go.Proofs.Ytbambclbeglgoaa.V
namespace Go.Proofs.Ytbambclbeglgoaa.V
open Go Go.RowKit
abbrev Area := Nat → Nat → Prop
abbrev cellAt (w : World) (b o : Nat) : Option Value := w.cell? ⟨b, o, none⟩
inductive RelC (S : Area) (w : World) : CV → Value → Prop
 | v (x : Value) (h : solidV x = true) : RelC S w (.v x) x
 | sl (sz : Nat) (es : List (List CV)) (sp : Option (List (List CV))) (a : Option Addr) (cap b o : Nat) (f : Nat → Value)
   (hcap : es.length ≤ cap) (hsp : ∀ s, sp = some s → cap = es.length + s.length)
   (ha : es ++ sp.getD [] ≠ [] → a = some ⟨b, o, none⟩ ∧ 0 < sz)
   (hl : ∀ (i : Nat) (e : List CV), (es ++ sp.getD [])[i]? = some e → e.length = sz)
   (hS : ∀ k, k < (es ++ sp.getD []).length * sz → S b (o + k))
   (hc : ∀ k, k < (es ++ sp.getD []).length * sz → cellAt w b (o + k) = some (f k))
   (hr : ∀ (i j : Nat) (e : List CV) (x : CV), (es ++ sp.getD [])[i]? = some e → e[j]? = some x → RelC S w x (f (i * sz + j))) :
   RelC S w (.sl sz es sp) (.slice a es.length cap)
 | rp (cs : List CV) (b o : Nat) (f : Nat → Value)
   (hS : ∀ i, i < cs.length → S b (o + i))
   (hc : ∀ i, i < cs.length → cellAt w b (o + i) = some (f i))
   (hr : ∀ (i : Nat) x, cs[i]? = some x → RelC S w x (f i)) :
   RelC S w (.rp cs) (.pointer (some ⟨b, o, none⟩))
abbrev Place := Nat → Nat × Nat
def RowE (S : Area) (w : World) (b sz : Nat) (es : List (List CV)) : Prop :=
 (∀ (i : Nat) e, es[i]? = some e → e.length = sz) ∧
 ∃ f : Nat → Value, (∀ k, k < es.length * sz → cellAt w b k = some (f k)) ∧
  ∀ (i j : Nat) e x, es[i]? = some e → e[j]? = some x → RelC S w x (f (i * sz + j))
def Thawed (w : World) (b : Nat) : Prop := ∀ o, w.frozen? ⟨b, o, none⟩ = true → ∀ e s, w.shape? b = some (e, s) → s ≤ o
def ThawA (w : World) (b : Nat) (pub : Bool) (sz : Nat) : Prop := Thawed w b ∧ (pub = false → ∀ e s, w.shape? b = some (e, s) → s ≤ 9223372036854775807 * sz)
structure Ext (F : Area) (w w' : World) : Prop where
 os : w'.os = w.os
 tape : w'.tape = w.tape
 output : w'.output = w.output
 size : w.heap.size ≤ w'.heap.size
 cell : ∀ b o, b < w.heap.size → ¬ F b o → cellAt w' b o = cellAt w b o
 shape : ∀ b, b < w.heap.size → w'.shape? b = w.shape? b
 frz : ∀ b o, b < w.heap.size → w'.frozen? ⟨b, o, none⟩ = w.frozen? ⟨b, o, none⟩
 obj : ∀ b, b < w.heap.size → (∀ o, ¬ F b o) → w'.heap[b]? = w.heap[b]?
theorem Ext.refl (F : Area) (w : World) : Ext F w w := ⟨rfl, rfl, rfl, Nat.le_refl _, fun _ _ _ _ => rfl, fun _ _ => rfl, fun _ _ _ => rfl, fun _ _ _ => rfl⟩
theorem Ext.trans {F F' : Area} {a b c : World} (h : Ext F a b) (k : Ext F' b c) (hF : ∀ x o, F' x o → F x o ∨ a.heap.size ≤ x) : Ext F a c :=
 have hn : ∀ x o, x < a.heap.size → ¬ F x o → ¬ F' x o := fun x o hx hf h' => (hF x o h').elim hf (fun hle => absurd hx (Nat.not_lt.2 hle))
 ⟨k.os.trans h.os, k.tape.trans h.tape, k.output.trans h.output, Nat.le_trans h.size k.size,
  fun x o hx hf => (k.cell x o (Nat.lt_of_lt_of_le hx h.size) (hn x o hx hf)).trans (h.cell x o hx hf),
  fun x hx => (k.shape x (Nat.lt_of_lt_of_le hx h.size)).trans (h.shape x hx),
  fun x o hx => (k.frz x o (Nat.lt_of_lt_of_le hx h.size)).trans (h.frz x o hx),
  fun x hx hf => (k.obj x (Nat.lt_of_lt_of_le hx h.size) (fun o => hn x o hx (hf o))).trans (h.obj x hx hf)⟩
theorem Ext.mono {F F' : Area} {a b : World} (h : Ext F a b) (hF : ∀ x o, F x o → F' x o) : Ext F' a b :=
 ⟨h.os, h.tape, h.output, h.size, fun x o hx hf => h.cell x o hx (fun k => hf (hF _ _ k)), h.shape, h.frz, fun x hx hf => h.obj x hx (fun o k => hf o (hF _ _ k))⟩
structure Ctx where
 S0 : Area
 F0 : Area
 w0 : World
 G : Glob
end Go.Proofs.Ytbambclbeglgoaa.V
namespace Go.Proofs.Ytbambclbeglgoaa.V
open Go Go.RowKit
section worlds
variable {w : World}
theorem size_alloc (w : World) (o : Obj) : (w.alloc o).heap.size = w.heap.size + 1 := by show (w.heap.push o).size = _; simp
theorem Ext.alloc (F : Area) (w : World) (o : Obj) : Ext F w (w.alloc o) := by
 have hb : ∀ b, b < w.heap.size → (w.alloc o).heap[b]? = w.heap[b]? := fun b hb => Below.heap_alloc w o b hb
 exact ⟨rfl, rfl, rfl, by rw [size_alloc]; omega, fun b o' h _ => World.cell?_of_block (hb b h),
  fun b h => by unfold World.shape?; rw [hb b h], fun b o' h => World.frozen?_of_block (hb b h), fun b h _ => hb b h⟩
theorem shape_setCells (b : Nat) : ∀ (vs : List Value) (o : Nat) (w : World) (r : Nat), (w.setCells b o vs).shape? r = w.shape? r
 | [], _, _, _ => rfl
 | v :: vs, o, w, r => by
  rw [World.setCells, shape_setCells b vs]
  unfold World.shape? World.setCell
  simp only [Array.getElem?_modify]
  by_cases h : b = r
  ·subst h
   cases hh : w.heap[b]? with
   | none => simp
   | some ob => cases ob <;> simp
  ·simp [h]
theorem size_setCells (b : Nat) : ∀ (vs : List Value) (o : Nat) (w : World), (w.setCells b o vs).heap.size = w.heap.size
 | [], _, _ => rfl
 | v :: vs, o, w => by rw [World.setCells, size_setCells b vs]; simp [World.setCell]
theorem os_setCells (b : Nat) : ∀ (vs : List Value) (o : Nat) (w : World), (w.setCells b o vs).os = w.os ∧ (w.setCells b o vs).tape = w.tape ∧ (w.setCells b o vs).output = w.output
 | [], _, _ => ⟨rfl, rfl, rfl⟩
 | v :: vs, o, w => by rw [World.setCells]; exact os_setCells b vs (o + 1) _
theorem heap_setCells (b : Nat) : ∀ (vs : List Value) (o : Nat) (w : World) (r : Nat), r ≠ b → (w.setCells b o vs).heap[r]? = w.heap[r]?
 | [], _, _, _, _ => rfl
 | v :: vs, o, w, r, h => by rw [World.setCells, heap_setCells b vs _ _ r h]; exact Below.heap_setCell _ _ _ _ h
theorem cellAt_setCells_out (b o : Nat) (vs : List Value) (w : World) (c k : Nat) (h : c = b → k < o ∨ o + vs.length ≤ k) :
  cellAt (w.setCells b o vs) c k = cellAt w c k := World.cell?_setCells_out b vs o w ⟨c, k, none⟩ (fun e _ => h e)
theorem Ext.setCells (w : World) (b o : Nat) (vs : List Value) : Ext (fun c k => c = b ∧ o ≤ k ∧ k < o + vs.length) w (w.setCells b o vs) := by
 refine ⟨(os_setCells b vs o w).1, (os_setCells b vs o w).2.1, (os_setCells b vs o w).2.2, Nat.le_of_eq (size_setCells b vs o w).symm, fun c k _ hF => ?_, fun r _ => shape_setCells b vs o w r,
  fun c k _ => World.frozen?_setCells b vs o w _, fun c _ hF => ?_⟩
 ·exact cellAt_setCells_out b o vs w c k (fun e => by subst e; simp at hF; omega)
 ·by_cases h : c = b
  ·subst h
   cases vs with
   | nil => rfl
   | cons v vs => exact absurd ⟨rfl, Nat.le_refl o, by simp⟩ (hF o)
  ·exact heap_setCells b vs o w c h
end worlds
end Go.Proofs.Ytbambclbeglgoaa.V
namespace Go.Proofs.Ytbambclbeglgoaa.V
open Go Go.RowKit
def ArrOk (S : Area) (w : World) (b sz : Nat) (es : List (List CV)) (cap : Option Nat) (pub : Bool) (n capn : Nat) : Prop :=
 0 < sz ∧ ThawA w b pub sz ∧ (∃ e, w.shape? b = some (e, capn * sz)) ∧ es.length ≤ capn ∧ (∀ c, cap = some c → capn = c) ∧ RowE S w b sz es ∧ (pub = true → ∀ o, o < es.length * sz → S b o) ∧ n ≤ es.length
mutual
inductive Own (S : Area) (w : World) : Area → OV → Value → Prop
 | c (x : CV) (u : Value) (h : RelC S w x u) : Own S w (fun _ _ => False) (.c x) u
 | arr (sz : Nat) (es : List (List CV)) (cap : Option Nat) (pub : Bool) (n b capn : Nat) (h : ArrOk S w b sz es cap pub n capn) :
   Own S w (fun b' o => b' = b ∧ (pub = true → es.length * sz ≤ o)) (.arr sz es cap pub n) (.slice (some ⟨b, 0, none⟩) n capn)
 | ptr (cs : List OV) (us : List Value) (b o : Nat) (F : Area) (h : OwnL S w F cs us) (hb : b < w.heap.size) (ht : Thawed w b)
   (hc : ∀ (j : Nat) u, us[j]? = some u → cellAt w b (o + j) = some u) (hd : ∀ b' o', F b' o' → ¬ (b' = b ∧ o ≤ o' ∧ o' < o + us.length)) :
   Own S w (fun b' o' => F b' o' ∨ b' = b ∧ o ≤ o' ∧ o' < o + us.length) (.ptr cs) (.pointer (some ⟨b, o, none⟩))
 | bsl (cs : List OV) (us : List Value) (n b o capn : Nat) (F : Area) (h : OwnL S w F cs us) (hb : b < w.heap.size) (ht : Thawed w b) (hn : n ≤ capn)
   (hc : ∀ (j : Nat) u, us[j]? = some u → cellAt w b (o + j) = some u) (hd : ∀ b' o', F b' o' → ¬ (b' = b ∧ o ≤ o' ∧ o' < o + us.length)) :
   Own S w (fun b' o' => F b' o' ∨ b' = b ∧ o ≤ o' ∧ o' < o + us.length) (.bsl n cs) (.slice (some ⟨b, o, none⟩) n capn)
 | agg (cs : List OV) (us : List Value) (F : Area) (h : OwnL S w F cs us) : Own S w F (.agg cs) (.agg us.toArray)
 | tup (cs : List OV) (us : List Value) (F : Area) (h : OwnL S w F cs us) : Own S w F (.tup cs) (.tuple us.toArray)
inductive OwnL (S : Area) (w : World) : Area → List OV → List Value → Prop
 | nil : OwnL S w (fun _ _ => False) [] []
 | cons (o : OV) (u : Value) (os : List OV) (us : List Value) (F1 F2 : Area) (h1 : Own S w F1 o u) (h2 : OwnL S w F2 os us) (hd : ∀ b o, F1 b o → ¬ F2 b o) :
   OwnL S w (fun b o => F1 b o ∨ F2 b o) (o :: os) (u :: us)
end
section keep
variable {S S' : Area} {w w' : World}
end keep
section
variable {X : Ctx} {w : World}
end
end Go.Proofs.Ytbambclbeglgoaa.V
namespace Go.Proofs.Ytbambclbeglgoaa.V
open Go Go.RowKit
def GlobOk (G : Glob) (S : Area) (w : World) : Prop := ∀ g cs, G g = some cs → RelC S w (.rp cs) (.pointer (some ⟨g, 0, none⟩))
inductive OwnP (S : Area) (w : World) : Area → List OV → List Value → List OV → Prop
 | nil : OwnP S w (fun _ _ => False) [] [] []
 | ptr (cs cs' : List OV) (u : Value) (os : List OV) (us : List Value) (bs : List OV) (F1 F2 : Area) (h1 : Own S w F1 (.ptr cs') u) (h2 : OwnP S w F2 os us bs) (hd : ∀ b o, F1 b o → ¬ F2 b o) :
   OwnP S w (fun b o => F1 b o ∨ F2 b o) (.ptr cs :: os) (u :: us) (.ptr cs' :: bs)
 | skip (o o' : OV) (u : Value) (os : List OV) (us : List Value) (bs : List OV) (F : Area) (hn : ∀ cs, o ≠ .ptr cs) (h : OwnP S w F os us bs) : OwnP S w F (o :: os) (u :: us) (o' :: bs)
structure Ended (S : Area) (F : Area) (w w' : World) (S' Fr Fb : Area) : Prop where
 ext : Ext F w w'
 sub : ∀ b o, S b o → S' b o
 grow : ∀ b o, S' b o → b < w'.heap.size ∧ (S b o ∨ F b o ∨ w.heap.size ≤ b)
 apart : ∀ b o, Fr b o → ¬ Fb b o
 mine : ∀ b o, Fr b o ∨ Fb b o → ¬ S' b o ∧ (F b o ∨ w.heap.size ≤ b)
def Den (P : Program) (G : Glob) (f : FuncId) (os : List OV) (Q : OV → List OV → Prop) : Prop :=
 (∃ fn, P.funcs[f]? = some fn ∧ fn.body.isSome = true ∧ (fn.name == "runtime.NumGoroutine") = false) ∧
 ∀ (S F : Area) (w : World) (us : List Value), (∀ b o, S b o → b < w.heap.size) → (∀ b o, F b o → b < w.heap.size ∧ ¬ S b o) → GlobOk G S w → OwnL S w F os us →
  Calls P f us.toArray w fun e w' => ∃ v r bs S' Fr Fb, e = .returned v ∧ Q r bs ∧ Own S' w' Fr r v ∧ OwnP S' w' Fb os us bs ∧ Ended S F w w' S' Fr Fb
section
variable {P : Program} {X : Ctx} {S : Area} {pl : Place} {w : World} {m : Mem}
end
end Go.Proofs.Ytbambclbeglgoaa.V
namespace Go.Proofs.Ytbambclbeglgoaa.V
open Go
abbrev EL := List (List CV)
structure Ops where
 wrap : IntKind → Int → Int
 bin : BinOp → IntKind → Int → Int → Int
 cmp : BinOp → Int → Int → Bool
 un : UnOp → IntKind → Int → Int
 bnot : Bool → Bool
 beq2 : Bool → Bool → Bool
 least : Bool → Int → Int → Int
 nz : Int → Prop
 ile : Int → Int → Prop
 ilt : Int → Int → Prop
 nle : Nat → Nat → Prop
 plus : Nat → Nat → Nat
 times : Nat → Nat → Nat
 itimes : Int → Nat → Int
 toN : Int → Nat
 least2 : Nat → Nat → Nat
 sadd : ByteArray → ByteArray → ByteArray
 scmp : BinOp → ByteArray → ByteArray → Bool
 ssz : ByteArray → Nat
 sext : ByteArray → Nat → Nat → ByteArray
 sget : ByteArray → Nat → Int
 ofb : ByteArray → EL
 tob : EL → (ByteArray → Prop) → Prop
 len : EL → Nat
 take : Nat → EL → EL
 view : Nat → EL → (EL → Prop) → Prop
 drop : Nat → EL → EL
 app : EL → EL → EL
 rep : Nat → List CV → EL
 setE : EL → Nat → Nat → List CV → EL
 width : EL → Nat → Nat
 over : EL → EL → Nat → EL
 elem : EL → Nat → (List CV → Prop) → Prop
 emp : EL → (Unit → Prop) → (Unit → Prop) → Prop
 br : Bool → (Unit → Prop) → (Unit → Prop) → Prop
 agree : List Nat → Mem → Mem → Prop
 call : Nat → Mem → FuncId → List AV → KK → Prop
 loop : Code → List AV → Mem → KX → Prop
 sub : List CV → Nat → Nat → (List CV → Prop) → Prop
 drawn : Array Oper → List AV → Mem → (List AV → Mem → Prop) → Prop
 reg : Array Oper → List AV → Mem → (List AV → Mem → Prop) → Prop
 join : (List AV → Mem → Prop) → List AV → Mem → Prop
 toI : Nat → Int
 neq : Nat → Nat → Prop
 hiOk : Bool → Int → Nat → Nat → Prop
 nat : Nat → Nat → (Nat → Prop) → Prop
 and2 : Bool → Bool → Bool
 alt : (Unit → Prop) → (Unit → Prop) → Prop
 lzE : (Unit → EL) → EL
 lzI : (Unit → Int) → Int
 lzN : (Unit → Nat) → Nat
 lzS : (Unit → ByteArray) → ByteArray
 lzB : (Unit → Bool) → Bool
def bOr (n : Nat) (a b : Int) : Nat := (BitVec.ofInt n a ||| BitVec.ofInt n b).toNat
def bAnd (n : Nat) (a b : Int) : Nat := (BitVec.ofInt n a &&& BitVec.ofInt n b).toNat
def bXor (n : Nat) (a b : Int) : Nat := (BitVec.ofInt n a ^^^ BitVec.ofInt n b).toNat
def bAndNot (n : Nat) (a b : Int) : Nat := (BitVec.ofInt n a &&& ~~~ BitVec.ofInt n b).toNat
def binStd (op : BinOp) (k : IntKind) (a b : Int) : Int := match op with
 | .shl => k.wrap (a * 2 ^ (min b.toNat k.bits))
 | .shr => a.fdiv (2 ^ (min b.toNat k.bits))
 | .add => k.wrap (a + b)
 | .sub => k.wrap (a - b)
 | .mul => k.wrap (a * b)
 | .quo => k.wrap (a.tdiv b)
 | .rem => a.tmod b
 | .and => k.wrap (bAnd k.bits a b)
 | .or => k.wrap (bOr k.bits a b)
 | .xor => k.wrap (bXor k.bits a b)
 | .andNot => k.wrap (bAndNot k.bits a b)
 | _ => 0
def cmpStd (op : BinOp) (a b : Int) : Bool := match op with
 | .eql => a == b
 | .neq => a != b
 | .lss => decide (a < b)
 | .leq => decide (a ≤ b)
 | .gtr => decide (a > b)
 | .geq => decide (a ≥ b)
 | _ => false
def scmpStd (op : BinOp) (a b : ByteArray) : Bool := match op with
 | .eql => a.toList == b.toList
 | .neq => !(a.toList == b.toList)
 | .lss => Op.bytesLess a.toList b.toList
 | .leq => Op.bytesLess a.toList b.toList || a.toList == b.toList
 | .gtr => !(Op.bytesLess a.toList b.toList || a.toList == b.toList)
 | .geq => !(Op.bytesLess a.toList b.toList)
 | _ => false
def unStd (op : UnOp) (k : IntKind) (n : Int) : Int := match op with
 | .neg => k.wrap (0 - n)
 | .xor => k.wrap (BitVec.ofInt k.bits (if k.signed then -1 else k.max) ^^^ BitVec.ofInt k.bits n).toNat
 | _ => 0
def std (B : Nat) (T : Tab) (G : Glob) (D : Spec) : Ops where
 wrap k n := k.wrap n
 bin := binStd
 cmp := cmpStd
 un := unStd
 bnot b := !b
 beq2 a b := a == b
 least mx a b := if mx then (if b > a then b else a) else (if b < a then b else a)
 nz b := b ≠ 0
 ile a b := a ≤ b
 ilt a b := a < b
 nle a b := a ≤ b
 plus a b := a + b
 times a b := a * b
 itimes a b := a * b
 toN a := a.toNat
 least2 a b := min a b
 sadd a b := a ++ b
 scmp := scmpStd
 ssz s := s.size
 sext s l h := s.extract l h
 sget s i := ((s.data.toList.getD i 0).toNat : Nat)
 ofb s := encB s.data.toList
 tob es K := match bytesOf es with | some b => K ⟨b.toArray⟩ | none => False
 len es := es.length
 take n es := es.take n
 view n es K := n ≤ es.length ∧ K (es.take n)
 drop n es := es.drop n
 app a b := a ++ b
 rep n z := List.replicate n z
 setE es i o ys := es.set i (putAt (es.getD i []) o ys)
 width es i := (es.getD i []).length
 over ns es n := ns.take n ++ es.drop n
 elem es i K := K (es.getD i [])
 emp es A B := if es = [] then A () else B ()
 br v A B := (v = true → A ()) ∧ (v = false → B ())
 agree := Agree
 call site m f args K := callW D site m f args K
 loop c tm m K := execW B T G D (.loop c) tm m K
 sub cs i z K := K (cs.drop (i * z))
 drawn ops tm m K := drawnW T G D ops tm m (Join B K)
 reg ops tm m K := opsW T G D ops.toList ops.toList tm m (Join B K)
 join := Join B
 toI n := n
 neq a b := a = b
 hiOk c h n l := h ≤ n ∨ c = true ∧ h ≤ l
 nat j _ K := K j
 and2 a b := a && b
 alt A B := A () ∨ B ()
 lzE f := f ()
 lzI f := f ()
 lzN f := f ()
 lzS f := f ()
 lzB f := f ()
end Go.Proofs.Ytbambclbeglgoaa.V
namespace Go.Proofs.Ytbambclbeglgoaa.V
open Go
@[simp] theorem bits_u8 : IntKind.u8.bits = 8 := rfl
@[simp] theorem bits_i64 : IntKind.i64.bits = 64 := rfl
@[simp] theorem bits_u64 : IntKind.u64.bits = 64 := rfl
@[simp] theorem natc (n : Nat) : Int.ofNat n = (n : Int) := rfl
@[simp] theorem encB_length (l : List UInt8) : (encB l).length = l.length := by simp [encB]
@[simp] theorem encB_append (a b : List UInt8) : encB (a ++ b) = encB a ++ encB b := by simp [encB]
@[simp] theorem encB_nil : encB [] = [] := rfl
@[simp] theorem encB_drop (l : List UInt8) (n : Nat) : (encB l).drop n = encB (l.drop n) := by simp [encB, List.map_drop]
@[simp] theorem encB_take (l : List UInt8) (n : Nat) : (encB l).take n = encB (l.take n) := by simp [encB, List.map_take]
def encI (l : List Int) : List (List CV) := l.map fun n => [.v (.int .i64 n)]
@[simp] theorem encI_length (l : List Int) : (encI l).length = l.length := by simp [encI]
end Go.Proofs.Ytbambclbeglgoaa.V
namespace Go.Proofs.Ytbambclbeglgoaa.V
open Go
def catOk (a b : Nat) : Prop := a + b ≤ 9223372036854775807
instance (a b : Nat) : Decidable (catOk a b) := inferInstanceAs (Decidable (a + b ≤ 9223372036854775807))
section
variable {O : Ops} {B : Nat} {T : Tab} {G : Glob} {D : Spec} (hO : O = std B T G D)
include hO
end
section
variable {m : Mem}
end
section
variable {P : Program} {O : Ops} {B : Nat} {T : Tab} {G : Glob} (hO : O = std B T G (Den P G))
include hO
end
end Go.Proofs.Ytbambclbeglgoaa.V
namespace Go.Proofs.Ytbambclbeglgoaa.V
open Go
theorem Ext.kept {w w' : World} (h : Ext (fun _ _ => False) w w') (may : MemPlace → Prop) : w.keptBut w' may := by
 refine ⟨h.os, h.output, fun i hi => ?_⟩
 rw [h.obj i hi (fun _ q => q)]
 cases w.heap[i]? with
 | none => trivial
 | some ob => cases ob <;> simp
end Go.Proofs.Ytbambclbeglgoaa.V
namespace Go.Proofs.Ytbambclbeglgoaa
open Go
open Go.RowKit
set_option maxRecDepth 100000
abbrev zt : Value := .agg #[.int .i64 0, .int .i64 0, .string ⟨#[]⟩, .slice none 0 0, .slice none 0 0]
abbrev th (n : Int) : Value := .agg #[.int .i64 0, .int .i64 0, .string ⟨#[]⟩, .slice none 0 0, .slice none 0 0, .int .i64 0, .int .i64 0, .string ⟨#[]⟩, .slice none 0 0, .slice none 0 0, .int .i64 n, .slice none 0 0]
theorem levels0 (w : World) : Calls Try.prog 38 #[.slice none 0 0, .slice none 0 0] w fun e w' => e = .returned (.slice none 0 0) ∧ w' = w := by
 go_enter Try.func38, Try.ntmps38
 go_wp2
 refine wp_loop_rounds 1 ?_
 rw [rounds_succ]
 go_wp2
 go_ret
 exact ⟨rfl, rfl⟩
theorem clone0 (w : World) : Calls Try.prog 20 #[.slice none 0 0] w fun e w' => e = .returned (.slice none 0 0) ∧ w' = w := by
 have he : ∀ w : World, (Sem.run Try.prog (binOp BinOp.eql 34 (Value.slice none 0 0) (Value.slice none 0 0)) w) = .ok (.bool true) w := fun w => by kernel_rfl
 go_enter Try.func20, Try.ntmps20
 go_wp2
 go_ret
 exact ⟨rfl, rfl⟩
abbrev ztc : Obj := .cells #[.int .i64 0, .int .i64 0, .string ⟨#[]⟩, .slice none 0 0, .slice none 0 0] 33
theorem lev0 (w : World) : Calls Try.prog 26 #[zt, .slice none 0 0] w fun e w' => e = .returned zt ∧ w' = (w.alloc ztc).alloc ztc := by
 go_enter Try.func26, Try.ntmps26
 go_wp2
 refine wp_loop_rounds 1 ?_
 rw [rounds_succ]
 go_wp2_with (go_at_call 38; refine (levels0 _).mono ?_; rintro e w' ⟨rfl, rfl⟩)
 refine bodyPost_ret (v := zt) (by simp [results, Try.results26, go_sem]) rfl ⟨rfl, rfl⟩
theorem Twin0 (w : World) : Calls Try.prog 19 #[zt] w fun e w' => e = .returned zt ∧ w' = (((w.alloc ztc).alloc ztc).alloc ztc).alloc ztc := by
 go_enter Try.func19, Try.ntmps19
 go_wp2_with (go_at_call 26; refine (lev0 _).mono ?_; rintro e w' ⟨rfl, rfl⟩)
 refine bodyPost_ret (v := zt) (by simp [results, Try.results19, go_sem]) rfl ⟨rfl, rfl⟩
abbrev kh : Value := .agg #[.int .u64 0, .int .u64 1]
theorem lkn24 (w : World) : (Instr.lookup 24 (.map none) kh false).run Try.prog w = .ok (.int .i64 0) w := by kernel_rfl
theorem chk (em : Bool) (w : World) : (Instr.checkKey em 10000 29 kh).run Try.prog w = .ok () w := by cases em <;> kernel_rfl
theorem fk0 (w : World) : (Instr.findKey 29 kh []).run Try.prog w = .ok none w := by kernel_rfl
theorem fk1 (v : Value) (b : Nat) (w : World) : (Instr.findKey 29 kh [⟨kh, v, b⟩]).run Try.prog w = .ok (some (0, v)) w := by kernel_rfl
def setB (w : World) (r : Nat) (o : Obj) : World := { w with heap := w.heap.setIfInBounds r o }
theorem upd {T E r clk : Nat} {w : World} (ht : Try.prog.underlying T = some (.map 29 E)) (hb : w.heap[r]? = some (.map #[] clk)) (v : Value) : (Instr.mapUpdate T (.map (some r)) kh v).run Try.prog w = .ok () (setB w r (.map #[⟨kh, v, clk⟩] (clk + 1))) := by
 simp [Instr.mapUpdate, run_underlying ht, MapKept.run_getObj_map hb, chk, fk0, MapKept.run_setObj_map _ hb, Result.andThen, setB]
theorem lk {T E r clk b : Nat} {v : Value} {w : World} (ht : Try.prog.underlying T = some (.map 29 E)) (hb : w.heap[r]? = some (.map #[⟨kh, v, b⟩] clk)) : (Instr.lookup T (.map (some r)) kh false).run Try.prog w = .ok v w := by
 simp [Instr.lookup, run_underlying ht, MapKept.run_getObj_map hb, chk, fk1, Result.andThen]
theorem lkok {T E r clk b : Nat} {v : Value} {w : World} (ht : Try.prog.underlying T = some (.map 29 E)) (hb : w.heap[r]? = some (.map #[⟨kh, v, b⟩] clk)) : (Instr.lookup T (.map (some r)) kh true).run Try.prog w = .ok (.tuple #[v, .bool true]) w := by
 simp [Instr.lookup, run_underlying ht, MapKept.run_getObj_map hb, chk, fk1, Result.andThen]
theorem ex_al {F : V.Area} {w w1 : World} (h : V.Ext F w w1) (o : Obj) : V.Ext F w (w1.alloc o) := V.Ext.trans h (V.Ext.alloc (fun _ _ => False) w1 o) (fun _ _ h => h.elim)
theorem ex_drew {F : V.Area} {w w1 : World} (h : V.Ext F w w1) : V.Ext F w w1.drew := ⟨h.os, h.tape, h.output, h.size, h.cell, h.shape, h.frz, h.obj⟩
theorem ex_set {F : V.Area} {w w1 : World} (h : V.Ext F w w1) (b o : Nat) (v : Value) (hF : F b o) : V.Ext F w (w1.setCell ⟨b, o, none⟩ v) :=
 V.Ext.trans h (V.Ext.setCells w1 b o [v]) (fun x k hk => .inl (by
  obtain ⟨rfl, h1, h2⟩ := hk
  have e : k = o := by simp only [List.length_cons, List.length_nil] at h2; omega
  rw [e]; exact hF))
theorem cellOf {w : World} {b : Nat} {c : Array Value} {t : TypeId} (h : w.heap[b]? = some (.cells c t)) (i : Nat) : w.cell? ⟨b, i, none⟩ = c[i]? := by simp [World.cell?, h]
theorem frzOf {w : World} {b : Nat} {c : Array Value} {t : TypeId} (h : w.heap[b]? = some (.cells c t)) (i : Nat) : w.frozen? ⟨b, i, none⟩ = false := by simp [World.frozen?, h]
theorem setOf {w : World} {b : Nat} {c : Array Value} {t : TypeId} (h : w.heap[b]? = some (.cells c t)) (i : Nat) (v : Value) : (w.setCell ⟨b, i, none⟩ v).heap[b]? = some (.cells (c.setIfInBounds i v) t) := by
 have hlt : b < w.heap.size := (Array.getElem?_eq_some_iff.1 h).1
 have h2 : w.heap[b] = .cells c t := (Array.getElem?_eq_some_iff.1 h).2
 simp [World.setCell, Array.getElem?_modify, h]
theorem setNe {w : World} {b r i : Nat} (h : r ≠ b) (v : Value) : (w.setCell ⟨b, i, none⟩ v).heap[r]? = w.heap[r]? := Below.heap_setCell _ _ _ _ h
abbrev kc : Obj := .cells #[.int .u64 0, .int .u64 1] 29
abbrev tc (n : Int) : Obj := .cells #[.int .i64 0, .int .i64 0, .string ⟨#[]⟩, .slice none 0 0, .slice none 0 0, .int .i64 0, .int .i64 0, .string ⟨#[]⟩, .slice none 0 0, .slice none 0 0, .int .i64 n, .slice none 0 0] 36
theorem al_at {w : World} {q : Nat} (o : Obj) (h : q = w.heap.size) : (w.alloc o).heap[q]? = some o := by subst h; exact Array.getElem?_push_size
theorem al_lt {w : World} {q : Nat} (o : Obj) (h : q < w.heap.size) : (w.alloc o).heap[q]? = w.heap[q]? := (V.Ext.alloc (fun _ _ => False) w o).obj q h (fun _ h => h)
theorem setB_ne {w : World} {r q : Nat} (h : q ≠ r) (o : Obj) : (setB w r o).heap[q]? = w.heap[q]? := by
 simp only [setB]; rw [Array.getElem?_setIfInBounds_ne (fun e => h e.symm)]
theorem setB_at {w : World} {r : Nat} (h : r < w.heap.size) (o : Obj) : (setB w r o).heap[r]? = some o := by simp [setB, h]
theorem setB_size (w : World) (r : Nat) (o : Obj) : (setB w r o).heap.size = w.heap.size := by simp [setB]
theorem ex_setB {F : V.Area} {w w1 : World} (h : V.Ext F w w1) (r : Nat) (o : Obj) (hr : w.heap.size ≤ r) : V.Ext F w (setB w1 r o) := by
 have hn : ∀ b, b < w.heap.size → (setB w1 r o).heap[b]? = w1.heap[b]? := fun b hb => setB_ne (by omega) o
 refine ⟨h.os, h.tape, h.output, by rw [setB_size]; exact h.size, fun b k hb hf => ?_, fun b hb => ?_, fun b k hb => ?_, fun b hb hf => ?_⟩
 ·rw [← h.cell b k hb hf]; simp only [V.cellAt, World.cell?, hn b hb]
 ·rw [← h.shape b hb]; simp only [World.shape?, hn b hb]
 ·rw [← h.frz b k hb]; simp only [World.frozen?, hn b hb]
 ·rw [hn b hb]; exact h.obj b hb hf
end Go.Proofs.Ytbambclbeglgoaa
namespace Go.Proofs.Ytbambclbeglgoaa
open Go
open Go.RowKit
set_option maxRecDepth 100000
theorem del {r clk b : Nat} {v : Value} {w : World} (hb : w.heap[r]? = some (.map #[⟨kh, v, b⟩] clk)) (t : TypeId) : (Builtin.delete_ #[23, 29] t #[.map (some r), kh]).run Try.prog w = .ok (.tuple #[]) (setB w r (.map #[] clk)) := by
 simp [Builtin.delete_, run_underlying Try.underlying23, MapKept.run_getObj_map hb, chk, fk1, MapKept.run_setObj_map _ hb, Result.andThen, setB, Array.eraseIdxIfInBounds]
theorem new2 (w : World) : Calls Try.prog 13 #[.int .i64 2] w fun e w' => e = .returned (.pointer (some ⟨w.heap.size, 0, none⟩)) ∧ w' = w.alloc (.cells #[.int .i64 2, .map none, .map none] 26) := by
 go_enter Try.func13, Try.ntmps13
 go_wp2
 go_ret
 exact ⟨rfl, rfl⟩
abbrev kz : Value := .agg #[.int .u64 0, .int .u64 0]
theorem getN (w : World) : Calls Try.prog 4 #[.pointer none, kz] w fun e w' => e = .returned (.tuple #[th 0, .int .i64 1]) ∧ V.Ext (fun _ _ => False) w w' := by
 go_enter Try.func4, Try.ntmps4
 go_wp2
 refine bodyPost_ret (v := .tuple #[th 0, .int .i64 1]) (by simp [results, Try.results4, go_sem]) rfl ⟨rfl, ?_⟩
 repeat (first | exact V.Ext.refl _ _ | apply ex_al | apply ex_drew)
theorem putN (w : World) : Calls Try.prog 6 #[.pointer none, kz, th 0] w fun e w' => e = .returned (.int .i64 1) ∧ V.Ext (fun _ _ => False) w w' := by
 go_enter Try.func6, Try.ntmps6
 go_wp2
 go_ret
 refine ⟨rfl, ?_⟩
 repeat (first | exact V.Ext.refl _ _ | apply ex_al | apply ex_drew)
theorem dropN (w : World) : Calls Try.prog 7 #[.pointer none, kz] w fun e w' => e = .returned (.int .i64 1) ∧ V.Ext (fun _ _ => False) w w' := by
 go_enter Try.func7, Try.ntmps7
 go_wp2
 go_ret
 refine ⟨rfl, ?_⟩
 repeat (first | exact V.Ext.refl _ _ | apply ex_al | apply ex_drew)
theorem hasN (w : World) : Calls Try.prog 8 #[.pointer none, kz] w fun e w' => e = .returned (.bool false) ∧ V.Ext (fun _ _ => False) w w' := by
 go_enter Try.func8, Try.ntmps8
 go_wp2
 go_ret
 refine ⟨rfl, ?_⟩
 repeat (first | exact V.Ext.refl _ _ | apply ex_al | apply ex_drew)
theorem lenN (w : World) : Calls Try.prog 9 #[.pointer none] w fun e w' => e = .returned (.int .i64 0) ∧ V.Ext (fun _ _ => False) w w' := by
 go_enter Try.func9, Try.ntmps9
 go_wp2
 go_ret
 refine ⟨rfl, ?_⟩
 repeat (first | exact V.Ext.refl _ _ | apply ex_al | apply ex_drew)
theorem handlesN (w : World) : Calls Try.prog 10 #[.pointer none] w fun e w' => e = .returned (.slice none 0 0) ∧ V.Ext (fun _ _ => False) w w' := by
 go_enter Try.func10, Try.ntmps10
 go_wp2
 go_ret
 refine ⟨rfl, ?_⟩
 repeat (first | exact V.Ext.refl _ _ | apply ex_al | apply ex_drew)
theorem copyN (w : World) : Calls Try.prog 11 #[.pointer none] w fun e w' => e = .returned (.pointer none) ∧ V.Ext (fun _ _ => False) w w' := by
 go_enter Try.func11, Try.ntmps11
 go_wp2
 go_ret
 refine ⟨rfl, ?_⟩
 repeat (first | exact V.Ext.refl _ _ | apply ex_al | apply ex_drew)
end Go.Proofs.Ytbambclbeglgoaa
namespace Go.Proofs.Ytbambclbeglgoaa
open Go
open Go.RowKit
set_option maxRecDepth 100000
theorem lkn24z (w : World) : (Instr.lookup 24 (.map none) (.agg #[.int .u64 0, .int .u64 0]) false).run Try.prog w = .ok (.int .i64 0) w := by kernel_rfl
theorem putZ (w : World) (b : Nat) (hT : w.heap[b]? = some (.cells #[.int .i64 0, .map none, .map none] 26)) : Calls Try.prog 6 #[.pointer (some ⟨b, 0, none⟩), .agg #[.int .u64 0, .int .u64 0], th 0] w fun e w' => e = .returned (.int .i64 24) ∧ V.Ext (fun _ _ => False) w w' := by
 have hb : b < w.heap.size := (Array.getElem?_eq_some_iff.1 hT).1
 have h0 := cellOf hT 0
 have h1 := cellOf hT 1
 have h2 := cellOf hT 2
 simp at h0 h1 h2
 have hl2 := lkn24z
 go_enter Try.func6, Try.ntmps6
 go_wp2
 go_region
 go_wp2
 go_region
 go_wp2
 go_ret
 refine ⟨rfl, ?_⟩
 repeat (first | exact V.Ext.refl _ _ | apply ex_al | apply ex_drew)
theorem lenZ (w : World) (b : Nat) (hT : w.heap[b]? = some (.cells #[.int .i64 0, .map none, .map none] 26)) : Calls Try.prog 9 #[.pointer (some ⟨b, 0, none⟩)] w fun e w' => e = .returned (.int .i64 0) ∧ V.Ext (fun _ _ => False) w w' := by
 have hb : b < w.heap.size := (Array.getElem?_eq_some_iff.1 hT).1
 have h1 := cellOf hT 1
 simp at h1
 go_enter Try.func9, Try.ntmps9
 go_wp2
 go_ret
 refine ⟨rfl, ?_⟩
 repeat (first | exact V.Ext.refl _ _ | apply ex_al | apply ex_drew)
theorem len1 (w : World) (b m1 m2 clk : Nat) (hT : w.heap[b]? = some (.cells #[.int .i64 2, .map (some m1), .map (some m2)] 26)) (hM : w.heap[m1]? = some (.map #[] clk)) : Calls Try.prog 9 #[.pointer (some ⟨b, 0, none⟩)] w fun e w' => e = .returned (.int .i64 0) ∧ V.Ext (fun _ _ => False) w w' := by
 have hb : b < w.heap.size := (Array.getElem?_eq_some_iff.1 hT).1
 have h1 := cellOf hT 1
 simp at h1
 have hl : ∀ t, (Builtin.len_ #[23] t #[.map (some m1)]).run Try.prog w = .ok (.int .i64 0) w := fun t => by
  simp [Builtin.len_, run_underlying Try.underlying23, MapKept.run_getObj_map hM, goInt, Result.andThen]
 go_enter Try.func9, Try.ntmps9
 go_wp2
 go_ret
 refine ⟨rfl, ?_⟩
 repeat (first | exact V.Ext.refl _ _ | apply ex_al | apply ex_drew)
theorem put2 (w : World) (b m1 m2 clk : Nat) (hT : w.heap[b]? = some (.cells #[.int .i64 2, .map (some m1), .map (some m2)] 26)) (hM : w.heap[m2]? = some (.map #[⟨kh, .int .i64 1, 0⟩] clk)) : Calls Try.prog 6 #[.pointer (some ⟨b, 0, none⟩), kh, th 3] w fun e w' => e = .returned (.int .i64 21) ∧ V.Ext (fun _ _ => False) w w' := by
 have hb : b < w.heap.size := (Array.getElem?_eq_some_iff.1 hT).1
 have hm : m2 < w.heap.size := (Array.getElem?_eq_some_iff.1 hM).1
 have h0 := cellOf hT 0
 have h1 := cellOf hT 1
 have h2 := cellOf hT 2
 simp at h0 h1 h2
 have X := ex_drew (ex_al (ex_al (V.Ext.refl (fun _ _ => False) w) kc) (tc 3))
 have hl2 := lk (w := ((w.alloc kc).alloc (tc 3)).drew) Try.underlying24 ((X.obj m2 hm (fun _ h => h)).trans hM)
 go_enter Try.func6, Try.ntmps6
 go_wp2
 go_region
 go_wp2
 go_ret
 refine ⟨rfl, ?_⟩
 repeat (first | exact V.Ext.refl _ _ | apply ex_al | apply ex_drew)
end Go.Proofs.Ytbambclbeglgoaa
namespace Go.Proofs.Ytbambclbeglgoaa
open Go
open Go.RowKit
set_option maxRecDepth 100000
set_option maxHeartbeats 4000000 in
theorem twin0 (n : Int) (w : World) : Calls Try.prog 12 #[th n] w fun e w' => e = .returned (th n) ∧ V.Ext (fun _ _ => False) w w' := by
 go_enter Try.func12, Try.ntmps12
 go_wp2
 go_region_with (first | (go_at_call 19; refine (Twin0 _).mono ?_; rintro e w' ⟨rfl, rfl⟩) | (go_at_call 20; refine (clone0 _).mono ?_; rintro e w' ⟨rfl, rfl⟩))
 all_goals
  go_wp2
  refine bodyPost_ret (v := th n) (by simp [results, Try.results12, go_sem]) rfl ⟨rfl, ?_⟩
  repeat (first | exact V.Ext.refl _ _ | apply ex_al | apply ex_drew)
end Go.Proofs.Ytbambclbeglgoaa
namespace Go.Proofs.Ytbambclbeglgoaa
open Go
open Go.RowKit
set_option maxRecDepth 100000
theorem drop1 (w : World) (b m1 m2 clk : Nat) (hT : w.heap[b]? = some (.cells #[.int .i64 2, .map (some m1), .map (some m2)] 26)) (hM : w.heap[m1]? = some (.map #[⟨kh, th 3, 0⟩] clk)) : Calls Try.prog 7 #[.pointer (some ⟨b, 0, none⟩), kh] w fun e w' => e = .returned (.int .i64 0) ∧ w'.heap[m1]? = some (.map #[] clk) ∧ w'.os = w.os ∧ w'.tape = w.tape ∧ w'.output = w.output ∧ w.heap.size ≤ w'.heap.size ∧ ∀ q, q < w.heap.size → q ≠ m1 → w'.heap[q]? = w.heap[q]? := by
 have hb : b < w.heap.size := (Array.getElem?_eq_some_iff.1 hT).1
 have hm : m1 < w.heap.size := (Array.getElem?_eq_some_iff.1 hM).1
 have h0 := cellOf hT 0
 have h1 := cellOf hT 1
 have h2 := cellOf hT 2
 simp at h0 h1 h2
 have hA := lkok (w := ((w.alloc kc)).drew) Try.underlying23 (((ex_drew (ex_al (V.Ext.refl (fun _ _ => False) w) kc)).obj m1 hm (fun _ h => h)).trans hM)
 have hB := fun o => lkok (w := ((w.alloc kc).alloc o).drew) Try.underlying23 (((ex_drew (ex_al (ex_al (V.Ext.refl (fun _ _ => False) w) kc) o)).obj m1 hm (fun _ h => h)).trans hM)
 have hD := fun t => del (w := ((w.alloc kc).alloc (tc 3)).drew.drew) (((ex_drew (ex_drew (ex_al (ex_al (V.Ext.refl (fun _ _ => False) w) kc) (tc 3)))).obj m1 hm (fun _ h => h)).trans hM) t
 go_enter Try.func7, Try.ntmps7
 go_wp2
 go_region
 go_wp2
 go_region
 all_goals go_wp2
 have X := ex_drew (ex_drew (ex_al (ex_al (V.Ext.refl (fun _ _ => False) w) kc) (tc 3)))
 go_ret
 exact ⟨rfl, setB_at (w := ((w.alloc kc).alloc (tc 3)).drew.drew) (Nat.lt_of_lt_of_le hm X.size) _, X.os, X.tape, X.output, Nat.le_trans X.size (Nat.le_of_eq (setB_size _ _ _).symm), fun q hq hn => (setB_ne (w := ((w.alloc kc).alloc (tc 3)).drew.drew) hn _).trans (X.obj q hq (fun _ h => h))⟩
theorem ex_setN {F : V.Area} {w w1 : World} (h : V.Ext F w w1) (b o : Nat) (v : Value) (hr : w.heap.size ≤ b) : V.Ext F w (w1.setCell ⟨b, o, none⟩ v) :=
 V.Ext.trans h (V.Ext.setCells w1 b o [v]) (fun x k hk => .inr (by rw [hk.1]; exact hr))
set_option maxHeartbeats 4000000 in
theorem get1 (w : World) (b m1 m2 clk : Nat) (hT : w.heap[b]? = some (.cells #[.int .i64 2, .map (some m1), .map (some m2)] 26)) (hM : w.heap[m1]? = some (.map #[⟨kh, th 3, 0⟩] clk)) : Calls Try.prog 4 #[.pointer (some ⟨b, 0, none⟩), kh] w fun e w' => e = .returned (.tuple #[th 3, .int .i64 0]) ∧ V.Ext (fun _ _ => False) w w' := by
 have hb : b < w.heap.size := (Array.getElem?_eq_some_iff.1 hT).1
 have hm : m1 < w.heap.size := (Array.getElem?_eq_some_iff.1 hM).1
 have h0 := cellOf hT 0
 have h1 := cellOf hT 1
 have h2 := cellOf hT 2
 simp at h0 h1 h2
 go_enter Try.func4, Try.ntmps4
 go_wp2
 have X := ex_al (ex_al (V.Ext.refl (fun _ _ => False) w) kc) (tc 0)
 have Y1 : ((w.alloc kc).alloc (tc 0)).heap[w.heap.size]? = some kc := (al_lt (w := w.alloc kc) (tc 0) (by simp)).trans (al_at kc rfl)
 have Y2 : ((w.alloc kc).alloc (tc 0)).heap[w.heap.size + 1]? = some (tc 0) := al_at (w := w.alloc kc) (tc 0) (by simp)
 revert X Y1 Y2
 generalize ((w.alloc kc).alloc (tc 0)) = w1
 intro X Y1 Y2
 have T1 := (X.obj b hb (fun _ h => h)).trans hT
 have M1 := (X.obj m1 hm (fun _ h => h)).trans hM
 have n1 := (Array.getElem?_eq_some_iff.1 T1).1
 have nk := (Array.getElem?_eq_some_iff.1 Y1).1
 have c1 := cellOf T1 1
 have k0 := cellOf Y1 0
 have k1 := cellOf Y1 1
 simp at c1 k0 k1
 have ny := (Array.getElem?_eq_some_iff.1 Y2).1
 have nm := (Array.getElem?_eq_some_iff.1 M1).1
 have hA := lkok (w := w1.drew) Try.underlying23 M1
 have hB := fun o => lkok (w := (w1.alloc o).drew) Try.underlying23 ((al_lt (w := w1) o nm).trans M1)
 go_region
 all_goals go_wp2_with (go_at_call 12; refine (twin0 3 _).mono ?_; rintro e w' ⟨rfl, hx⟩; have Z : w'.heap[w.heap.size + 1]? = some (tc 0) := (hx.obj _ (Nat.lt_of_lt_of_le ny (ex_drew (ex_al (V.Ext.refl (fun _ _ => False) w1) (tc 3))).size) (fun _ h => h)).trans ((al_lt (w := w1) (tc 3) ny).trans Y2); have q0 := cellOf Z 0; have f0 := frzOf Z 0; have q1 := cellOf Z 1; have f1 := frzOf Z 1; have q2 := cellOf Z 2; have f2 := frzOf Z 2; have q3 := cellOf Z 3; have f3 := frzOf Z 3; have q4 := cellOf Z 4; have f4 := frzOf Z 4; have q5 := cellOf Z 5; have f5 := frzOf Z 5; have q6 := cellOf Z 6; have f6 := frzOf Z 6; have q7 := cellOf Z 7; have f7 := frzOf Z 7; have q8 := cellOf Z 8; have f8 := frzOf Z 8; have q9 := cellOf Z 9; have f9 := frzOf Z 9; have q10 := cellOf Z 10; have f10 := frzOf Z 10; have q11 := cellOf Z 11; have f11 := frzOf Z 11; simp at q0 q1 q2 q3 q4 q5 q6 q7 q8 q9 q10 q11)
 have X5 := V.Ext.trans (V.Ext.trans X (ex_drew (ex_al (V.Ext.refl (fun _ _ => False) w1) (tc 3))) (fun _ _ h => h.elim)) hx (fun _ _ h => h.elim)
 have X6 : V.Ext (fun _ _ => False) w ((((((((((((w'.setCell ⟨w.heap.size + 1, 0, none⟩ (.int .i64 0)).setCell ⟨w.heap.size + 1, 1, none⟩ (.int .i64 0)).setCell ⟨w.heap.size + 1, 2, none⟩ (.string ⟨#[]⟩)).setCell ⟨w.heap.size + 1, 3, none⟩ (.slice none 0 0)).setCell ⟨w.heap.size + 1, 4, none⟩ (.slice none 0 0)).setCell ⟨w.heap.size + 1, 5, none⟩ (.int .i64 0)).setCell ⟨w.heap.size + 1, 6, none⟩ (.int .i64 0)).setCell ⟨w.heap.size + 1, 7, none⟩ (.string ⟨#[]⟩)).setCell ⟨w.heap.size + 1, 8, none⟩ (.slice none 0 0)).setCell ⟨w.heap.size + 1, 9, none⟩ (.slice none 0 0)).setCell ⟨w.heap.size + 1, 10, none⟩ (.int .i64 3)).setCell ⟨w.heap.size + 1, 11, none⟩ (.slice none 0 0)) := (ex_setN (ex_setN (ex_setN (ex_setN (ex_setN (ex_setN (ex_setN (ex_setN (ex_setN (ex_setN (ex_setN (ex_setN X5 _ 0 _ (Nat.le_succ _)) _ 1 _ (Nat.le_succ _)) _ 2 _ (Nat.le_succ _)) _ 3 _ (Nat.le_succ _)) _ 4 _ (Nat.le_succ _)) _ 5 _ (Nat.le_succ _)) _ 6 _ (Nat.le_succ _)) _ 7 _ (Nat.le_succ _)) _ 8 _ (Nat.le_succ _)) _ 9 _ (Nat.le_succ _)) _ 10 _ (Nat.le_succ _)) _ 11 _ (Nat.le_succ _))
 have S0 := setOf Z 0 (.int .i64 0)
 have S1 := setOf S0 1 (.int .i64 0)
 have S2 := setOf S1 2 (.string ⟨#[]⟩)
 have S3 := setOf S2 3 (.slice none 0 0)
 have S4 := setOf S3 4 (.slice none 0 0)
 have S5 := setOf S4 5 (.int .i64 0)
 have S6 := setOf S5 6 (.int .i64 0)
 have S7 := setOf S6 7 (.string ⟨#[]⟩)
 have S8 := setOf S7 8 (.slice none 0 0)
 have S9 := setOf S8 9 (.slice none 0 0)
 have S10 := setOf S9 10 (.int .i64 3)
 have S11 := setOf S10 11 (.slice none 0 0)
 have SF : ((((((((((((w'.setCell ⟨w.heap.size + 1, 0, none⟩ (.int .i64 0)).setCell ⟨w.heap.size + 1, 1, none⟩ (.int .i64 0)).setCell ⟨w.heap.size + 1, 2, none⟩ (.string ⟨#[]⟩)).setCell ⟨w.heap.size + 1, 3, none⟩ (.slice none 0 0)).setCell ⟨w.heap.size + 1, 4, none⟩ (.slice none 0 0)).setCell ⟨w.heap.size + 1, 5, none⟩ (.int .i64 0)).setCell ⟨w.heap.size + 1, 6, none⟩ (.int .i64 0)).setCell ⟨w.heap.size + 1, 7, none⟩ (.string ⟨#[]⟩)).setCell ⟨w.heap.size + 1, 8, none⟩ (.slice none 0 0)).setCell ⟨w.heap.size + 1, 9, none⟩ (.slice none 0 0)).setCell ⟨w.heap.size + 1, 10, none⟩ (.int .i64 3)).setCell ⟨w.heap.size + 1, 11, none⟩ (.slice none 0 0)).heap[w.heap.size + 1]? = some (tc 3) := S11
 clear S0 S1 S2 S3 S4 S5 S6 S7 S8 S9 S10 S11 q0 f0 q1 f1 q2 f2 q3 f3 q4 f4 q5 f5 q6 f6 q7 f7 q8 f8 q9 f9 q10 f10 q11 f11
 revert X6 SF
 generalize ((((((((((((w'.setCell ⟨w.heap.size + 1, 0, none⟩ (.int .i64 0)).setCell ⟨w.heap.size + 1, 1, none⟩ (.int .i64 0)).setCell ⟨w.heap.size + 1, 2, none⟩ (.string ⟨#[]⟩)).setCell ⟨w.heap.size + 1, 3, none⟩ (.slice none 0 0)).setCell ⟨w.heap.size + 1, 4, none⟩ (.slice none 0 0)).setCell ⟨w.heap.size + 1, 5, none⟩ (.int .i64 0)).setCell ⟨w.heap.size + 1, 6, none⟩ (.int .i64 0)).setCell ⟨w.heap.size + 1, 7, none⟩ (.string ⟨#[]⟩)).setCell ⟨w.heap.size + 1, 8, none⟩ (.slice none 0 0)).setCell ⟨w.heap.size + 1, 9, none⟩ (.slice none 0 0)).setCell ⟨w.heap.size + 1, 10, none⟩ (.int .i64 3)).setCell ⟨w.heap.size + 1, 11, none⟩ (.slice none 0 0)) = w5
 intro X6 SF
 have r0 := cellOf SF 0
 have r1 := cellOf SF 1
 have r2 := cellOf SF 2
 have r3 := cellOf SF 3
 have r4 := cellOf SF 4
 have r5 := cellOf SF 5
 have r6 := cellOf SF 6
 have r7 := cellOf SF 7
 have r8 := cellOf SF 8
 have r9 := cellOf SF 9
 have r10 := cellOf SF 10
 have r11 := cellOf SF 11
 simp at r0 r1 r2 r3 r4 r5 r6 r7 r8 r9 r10 r11
 refine bodyPost_ret (v := .tuple #[th 3, .int .i64 0]) (by simp [results, Try.results4, go_sem, r0, r1, r2, r3, r4, r5, r6, r7, r8, r9, r10, r11]) rfl ⟨rfl, X6⟩
end Go.Proofs.Ytbambclbeglgoaa
namespace Go.Proofs.Ytbambclbeglgoaa
open Go
open Go.RowKit
set_option maxRecDepth 100000
set_option maxHeartbeats 4000000 in
theorem put1 (w : World) (b : Nat) (hT : w.heap[b]? = some (.cells #[.int .i64 2, .map none, .map none] 26)) : Calls Try.prog 6 #[.pointer (some ⟨b, 0, none⟩), kh, th 3] w fun e w' => e = .returned (.int .i64 0) ∧ ∃ m1 m2 : Nat, w'.heap[b]? = some (.cells #[.int .i64 2, .map (some m1), .map (some m2)] 26) ∧ w'.heap[m1]? = some (.map #[⟨kh, th 3, 0⟩] 1) ∧ w'.heap[m2]? = some (.map #[⟨kh, .int .i64 1, 0⟩] 1) ∧ w.heap.size ≤ m1 ∧ w.heap.size ≤ m2 ∧ m1 ≠ m2 ∧ V.Ext (fun x _ => x = b) w w' := by
 have hb : b < w.heap.size := (Array.getElem?_eq_some_iff.1 hT).1
 have h0 := cellOf hT 0
 have h1 := cellOf hT 1
 have h2 := cellOf hT 2
 simp at h0 h1 h2
 have hl2 : ∀ w, (Instr.lookup 24 (.map none) (.agg #[.int .u64 0, .int .u64 1]) false).run Try.prog w = .ok (.int .i64 0) w := lkn24
 have hq : ∀ w, Sem.run Try.prog (binOp BinOp.eql 23 (.map none) (.map none)) w = .ok (.bool true) w := fun w => by kernel_rfl
 have hmm := @run_makeMap Try.prog
 go_enter Try.func6, Try.ntmps6
 go_wp2
 go_region
 go_wp2
 go_region
 have X := ex_drew (ex_drew (ex_al (ex_al (V.Ext.refl (fun _ _ => False) w) kc) (tc 3)))
 have Y1 : ((w.alloc kc).alloc (tc 3)).drew.drew.heap[w.heap.size]? = some kc := (al_lt (w := w.alloc kc) (tc 3) (by simp)).trans (al_at kc rfl)
 have Y2 : ((w.alloc kc).alloc (tc 3)).drew.drew.heap[w.heap.size + 1]? = some (tc 3) := al_at (w := w.alloc kc) (tc 3) (by simp)
 revert X Y1 Y2
 generalize ((w.alloc kc).alloc (tc 3)).drew.drew = w1
 intro X Y1 Y2
 have hT1 : w1.heap[b]? = some (.cells #[.int .i64 2, .map none, .map none] 26) := by rw [X.obj b hb (fun _ h => h)]; exact hT
 have hb1 : b < w1.heap.size := Nat.lt_of_lt_of_le hb X.size
 have hT1' : ((w1.alloc (.map #[] 0)).alloc (.map #[] 0)).heap[b]? = some (.cells #[.int .i64 2, .map none, .map none] 26) := by
  rw [(ex_al (ex_al (V.Ext.refl (fun _ _ => False) w1) _) _).obj b hb1 (fun _ h => h)]; exact hT1
 have c1 := cellOf hT1 1
 have d1 := cellOf hT1' 1
 have d2 := cellOf hT1' 2
 have e1 := frzOf hT1' 1
 have hS0 := setOf hT1 1 (.map (some w1.heap.size))
 have hb2 : b < (w1.setCell ⟨b, 1, none⟩ (.map (some w1.heap.size))).heap.size := by simp; exact hb1
 have hS : (((w1.setCell ⟨b, 1, none⟩ (.map (some w1.heap.size))).alloc (.map #[] 0)).alloc (.map #[] 0)).heap[b]? = some (.cells #[.int .i64 2, .map (some w1.heap.size), .map none] 26) := by
  rw [(ex_al (ex_al (V.Ext.refl (fun _ _ => False) _) _) _).obj b hb2 (fun _ h => h)]; exact hS0
 have d3 := cellOf hS 2
 have e2 := frzOf hS 2
 simp at c1 d1 d2 d3
 go_wp2
 have X1 : V.Ext (fun x _ => x = b) w ((((w1.setCell ⟨b, 1, none⟩ (.map (some w1.heap.size))).setCell ⟨b, 2, none⟩ (.map (some (w1.heap.size + 1)))).alloc (.map #[] 0)).alloc (.map #[] 0)) :=
  ex_al (ex_al (ex_set (ex_set (V.Ext.mono X fun _ _ h => h.elim) b 1 _ rfl) b 2 _ rfl) _) _
 have hz : ((w1.setCell ⟨b, 1, none⟩ (.map (some w1.heap.size))).setCell ⟨b, 2, none⟩ (.map (some (w1.heap.size + 1)))).heap.size = w1.heap.size := by simp
 have hsz : ∀ q, q < w1.heap.size → ((((w1.setCell ⟨b, 1, none⟩ (.map (some w1.heap.size))).setCell ⟨b, 2, none⟩ (.map (some (w1.heap.size + 1)))).alloc (.map #[] 0)).alloc (.map #[] 0)).heap[q]? = ((w1.setCell ⟨b, 1, none⟩ (.map (some w1.heap.size))).setCell ⟨b, 2, none⟩ (.map (some (w1.heap.size + 1)))).heap[q]? := fun q hq =>
  (ex_al (ex_al (V.Ext.refl (fun _ _ => False) _) _) _).obj q (by rw [hz]; exact hq) (fun _ h => h)
 have l1 := (Array.getElem?_eq_some_iff.1 Y1).1
 have l2 := (Array.getElem?_eq_some_iff.1 Y2).1
 have G1 := (hsz b hb1).trans (setOf hS0 2 (.map (some (w1.heap.size + 1))))
 have G4 := (hsz _ l1).trans ((setNe (by omega) _).trans ((setNe (by omega) _).trans Y1))
 have G5 := (hsz _ l2).trans ((setNe (by omega) _).trans ((setNe (by omega) _).trans Y2))
 have G2 : ((((w1.setCell ⟨b, 1, none⟩ (.map (some w1.heap.size))).setCell ⟨b, 2, none⟩ (.map (some (w1.heap.size + 1)))).alloc (.map #[] 0)).alloc (.map #[] 0)).heap[w1.heap.size]? = some (.map #[] 0) := (al_lt _ (by simp)).trans (al_at _ (by simp))
 have G3 : ((((w1.setCell ⟨b, 1, none⟩ (.map (some w1.heap.size))).setCell ⟨b, 2, none⟩ (.map (some (w1.heap.size + 1)))).alloc (.map #[] 0)).alloc (.map #[] 0)).heap[w1.heap.size + 1]? = some (.map #[] 0) := al_at _ (by simp)
 have hw1 : w.heap.size ≤ w1.heap.size := X.size
 clear hsz hz hS hS0 d1 d2 d3 e1 e2 c1 hT1' hT1 hb2
 revert X1 G1 G2 G3 G4 G5
 generalize ((((w1.setCell ⟨b, 1, none⟩ (.map (some w1.heap.size))).setCell ⟨b, 2, none⟩ (.map (some (w1.heap.size + 1)))).alloc (.map #[] 0)).alloc (.map #[] 0)) = w2
 intro X1 G1 G4 G5 G2 G3
 simp at G1
 have c1 := cellOf G1 1
 have k0 := cellOf G4 0
 have k1 := cellOf G4 1
 have t0 := cellOf G5 0
 have t1 := cellOf G5 1
 have t2 := cellOf G5 2
 have t3 := cellOf G5 3
 have t4 := cellOf G5 4
 have t5 := cellOf G5 5
 have t6 := cellOf G5 6
 have t7 := cellOf G5 7
 have t8 := cellOf G5 8
 have t9 := cellOf G5 9
 have t10 := cellOf G5 10
 have t11 := cellOf G5 11
 simp at c1 k0 k1 t0 t1 t2 t3 t4 t5 t6 t7 t8 t9 t10 t11
 have n1 := (Array.getElem?_eq_some_iff.1 G1).1
 have n2 := (Array.getElem?_eq_some_iff.1 G2).1
 have n3 := (Array.getElem?_eq_some_iff.1 G3).1
 have n4 := (Array.getElem?_eq_some_iff.1 G4).1
 go_region_with (go_at_call 12; refine (twin0 3 _).mono ?_; rintro e w' ⟨rfl, hx⟩; have q1 := cellOf ((hx.obj b n1 (fun _ h => h)).trans G1) 1; have q2 := cellOf ((hx.obj _ n4 (fun _ h => h)).trans G4) 0; have q3 := cellOf ((hx.obj _ n4 (fun _ h => h)).trans G4) 1; have u := upd (T := 23) Try.underlying23 ((hx.obj _ n2 (fun _ h => h)).trans G2) (th 3); simp at q1 q2 q3)
 all_goals
  have hx' : V.Ext (fun x _ => x = b) w2 w' := V.Ext.mono (F := fun _ _ => False) (a := w2) (b := w') ⟨hx.os, hx.tape, hx.output, hx.size, hx.cell, hx.shape, hx.frz, hx.obj⟩ (fun _ _ h => h.elim)
  have X3 := ex_setB (V.Ext.trans X1 hx' fun _ _ h => .inl h) w1.heap.size (.map #[⟨kh, th 3, 0⟩] 1) hw1
  have ns : w1.heap.size < w'.heap.size := Nat.lt_of_lt_of_le n2 hx.size
  have H1 := (setB_ne (w := w') (r := w1.heap.size) (q := b) (by omega) (.map #[⟨kh, th 3, 0⟩] 1)).trans ((hx.obj b n1 (fun _ h => h)).trans G1)
  have H2 := setB_at (w := w') ns (.map #[⟨kh, th 3, 0⟩] 1)
  have H3 := (setB_ne (w := w') (r := w1.heap.size) (q := w1.heap.size + 1) (by omega) (.map #[⟨kh, th 3, 0⟩] 1)).trans ((hx.obj _ n3 (fun _ h => h)).trans G3)
  have H4 := (setB_ne (w := w') (r := w1.heap.size) (q := w.heap.size) (by omega) (.map #[⟨kh, th 3, 0⟩] 1)).trans ((hx.obj _ n4 (fun _ h => h)).trans G4)
  revert X3 H1 H2 H3 H4
  generalize setB w' w1.heap.size (.map #[⟨kh, th 3, 0⟩] 1) = w3
  intro X3 H1 H2 H3 H4
  have r1 := cellOf H1 2
  have r2 := cellOf H4 0
  have r3 := cellOf H4 1
  have u2 := upd (w := w3.drew) (T := 24) Try.underlying24 H3 (.int .i64 1)
  simp at r1 r2 r3
  go_wp2
  go_region
  go_wp2
  have X4 := ex_setB (ex_drew X3) (w1.heap.size + 1) (.map #[⟨kh, .int .i64 1, 0⟩] 1) (by omega)
  have s3 := (Array.getElem?_eq_some_iff.1 H3).1
  have J1 := (setB_ne (w := w3.drew) (r := w1.heap.size + 1) (q := b) (by omega) (.map #[⟨kh, .int .i64 1, 0⟩] 1)).trans H1
  have J2 := (setB_ne (w := w3.drew) (r := w1.heap.size + 1) (q := w1.heap.size) (by omega) (.map #[⟨kh, .int .i64 1, 0⟩] 1)).trans H2
  have J3 := setB_at (w := w3.drew) s3 (.map #[⟨kh, .int .i64 1, 0⟩] 1)
  go_ret
  exact ⟨rfl, _, _, J1, J2, J3, hw1, by omega, by omega, X4⟩
end Go.Proofs.Ytbambclbeglgoaa
namespace Go.Proofs.Ytbambclbeglgoaa
open Go
open Go.RowKit
set_option maxRecDepth 100000
abbrev T0 : Obj := .cells #[.int .i64 2, .map none, .map none] 26
theorem ext_heap {w w' : World} (h1 : w'.os = w.os) (h2 : w'.tape = w.tape) (h3 : w'.output = w.output) (h4 : w.heap.size ≤ w'.heap.size) (h5 : ∀ q, q < w.heap.size → w'.heap[q]? = w.heap[q]?) : V.Ext (fun _ _ => False) w w' :=
 ⟨h1, h2, h3, h4, fun b o hb _ => by simp only [V.cellAt, World.cell?, h5 b hb], fun b hb => by simp only [World.shape?, h5 b hb], fun b o hb => by simp only [World.frozen?, h5 b hb], fun b hb _ => h5 b hb⟩
set_option maxHeartbeats 4000000 in
theorem begun1 (w : World) : Calls Try.prog 5 #[] w fun e w' => e = .returned (.bool true) ∧ V.Ext (fun _ _ => False) w w' := by
 go_enter Try.func5, Try.ntmps5
 go_wp2_with (go_at_call 13; refine (new2 _).mono ?_; rintro e w' ⟨rfl, rfl⟩)
 have P1 : ((w.alloc T0).alloc kc).heap[w.heap.size]? = some T0 := (al_lt (w := w.alloc T0) kc (by simp)).trans (al_at T0 rfl)
 have P2 : ((w.alloc T0).alloc kc).heap[w.heap.size + 1]? = some kc := al_at (w := w.alloc T0) kc (by simp)
 have X0 := ex_al (ex_al (V.Ext.refl (fun _ _ => False) w) T0) kc
 have z0 : ((w.alloc T0).alloc kc).heap.size = w.heap.size + 1 + 1 := by simp
 refine (put1 _ _ P1).mono ?_
 rintro e w1 ⟨rfl, m1, m2, A1, A2, A3, A4, A5, A6, X1⟩
 have n2 := (Array.getElem?_eq_some_iff.1 P2).1
 have B1 := (X1.obj _ n2 (fun _ h => by simp at h)).trans P2
 have k0 := cellOf B1 0
 have k1 := cellOf B1 1
 simp at k0 k1
 have a1 := (Array.getElem?_eq_some_iff.1 A1).1
 have a2 := (Array.getElem?_eq_some_iff.1 A2).1
 have a3 := (Array.getElem?_eq_some_iff.1 A3).1
 have b1 := (Array.getElem?_eq_some_iff.1 B1).1
 go_wp2_with (go_at_call 4; refine (get1 _ _ _ _ _ A1 A2).mono ?_; rintro e w2 ⟨rfl, X2⟩; have C := (al_lt (w := w2) (tc 3) (Nat.lt_of_lt_of_le b1 X2.size)).trans ((X2.obj _ b1 (fun _ h => h)).trans B1); have q0 := cellOf C 0; have q1 := cellOf C 1; simp at q0 q1)
 have C1 := (al_lt (w := w2) (tc 3) (Nat.lt_of_lt_of_le a1 X2.size)).trans ((X2.obj _ a1 (fun _ h => h)).trans A1)
 have C2 := (al_lt (w := w2) (tc 3) (Nat.lt_of_lt_of_le a2 X2.size)).trans ((X2.obj _ a2 (fun _ h => h)).trans A2)
 have C3 := (al_lt (w := w2) (tc 3) (Nat.lt_of_lt_of_le a3 X2.size)).trans ((X2.obj _ a3 (fun _ h => h)).trans A3)
 have C5 := al_at (w := w2) (tc 3) rfl
 have l1 := (Array.getElem?_eq_some_iff.1 C1).1
 have l3 := (Array.getElem?_eq_some_iff.1 C3).1
 have l4 := (Array.getElem?_eq_some_iff.1 C).1
 have l5 := (Array.getElem?_eq_some_iff.1 C5).1
 have s12 := X1.size
 have s22 := X2.size
 refine (drop1 _ _ _ _ _ C1 C2).mono ?_
 rintro e w3 ⟨rfl, D1, D2, D3, D4, D5, D6⟩
 have E1 := (D6 _ l1 (by omega)).trans C1
 have E3 := (D6 _ l3 (by omega)).trans C3
 have E4 := (D6 _ l4 (by omega)).trans C
 have E5 := (D6 _ l5 (by omega)).trans C5
 have u0 := cellOf E4 0
 have u1 := cellOf E4 1
 have t0 := cellOf E5 0
 have t1 := cellOf E5 1
 have t2 := cellOf E5 2
 have t3 := cellOf E5 3
 have t4 := cellOf E5 4
 have t5 := cellOf E5 5
 have t6 := cellOf E5 6
 have t7 := cellOf E5 7
 have t8 := cellOf E5 8
 have t9 := cellOf E5 9
 have t10 := cellOf E5 10
 have t11 := cellOf E5 11
 simp at u0 u1 t0 t1 t2 t3 t4 t5 t6 t7 t8 t9 t10 t11
 have v1 := (Array.getElem?_eq_some_iff.1 E1).1
 have v2 := (Array.getElem?_eq_some_iff.1 D1).1
 go_wp2_with (first | (go_at_call 6; refine (put2 _ _ _ _ _ E1 E3).mono ?_; rintro e w4 ⟨rfl, X4⟩) | (go_at_call 9; refine (len1 _ _ _ _ _ ((X4.obj _ v1 (fun _ h => h)).trans E1) ((X4.obj _ v2 (fun _ h => h)).trans D1)).mono ?_; rintro e w5 ⟨rfl, X5⟩))
 go_ret
 have y1 := X0.size
 have y4 := X4.size
 have y5 := X5.size
 have y2 : (w2.alloc (tc 3)).heap.size = w2.heap.size + 1 := by simp
 refine ⟨rfl, ext_heap (X5.os.trans (X4.os.trans (D2.trans (X2.os.trans (X1.os.trans X0.os))))) (X5.tape.trans (X4.tape.trans (D3.trans (X2.tape.trans (X1.tape.trans X0.tape))))) (X5.output.trans (X4.output.trans (D4.trans (X2.output.trans (X1.output.trans X0.output))))) (by omega) fun q hq => ?_⟩
 rw [X5.obj q (by omega) (fun _ h => h), X4.obj q (by omega) (fun _ h => h), D6 q (by omega) (by omega), al_lt (w := w2) (tc 3) (by omega), X2.obj q (by omega) (fun _ h => h), X1.obj q (by omega) (fun _ h => by omega), X0.obj q hq (fun _ h => h)]
end Go.Proofs.Ytbambclbeglgoaa
namespace Go.Proofs.Ytbambclbeglgoaa
open Go
open Go.RowKit
set_option maxRecDepth 100000
abbrev Z0 : Obj := .cells #[.int .i64 0, .map none, .map none] 26
abbrev kzc : Obj := .cells #[.int .u64 0, .int .u64 0] 29
set_option maxHeartbeats 1000000 in
theorem none1 (w : World) : Calls Try.prog 3 #[] w fun e w' => e = .returned (.bool true) ∧ V.Ext (fun _ _ => False) w w' := by
 have hp : ∀ w : World, Sem.run Try.prog (binOp BinOp.eql 22 (.pointer none) (.pointer none)) w = .ok (.bool true) w := fun w => by kernel_rfl
 go_enter Try.func3, Try.ntmps3
 go_wp2_with (go_at_call 4; refine (getN _).mono ?_; rintro e w1 ⟨rfl, hx⟩)
 have K : (w1.alloc (tc 0)).heap[w.heap.size + 1]? = some kzc := by
  have P : ((w.alloc Z0).alloc kzc).heap[w.heap.size + 1]? = some kzc := al_at (w := w.alloc Z0) kzc (by simp)
  have l := (Array.getElem?_eq_some_iff.1 P).1
  exact (al_lt (w := w1) (tc 0) (Nat.lt_of_lt_of_le l hx.size)).trans ((hx.obj _ l (fun _ h => h)).trans P)
 have Z : (w1.alloc (tc 0)).heap[w.heap.size]? = some Z0 := by
  have P : ((w.alloc Z0).alloc kzc).heap[w.heap.size]? = some Z0 := (al_lt (w := w.alloc Z0) kzc (by simp)).trans (al_at Z0 rfl)
  have l := (Array.getElem?_eq_some_iff.1 P).1
  exact (al_lt (w := w1) (tc 0) (Nat.lt_of_lt_of_le l hx.size)).trans ((hx.obj _ l (fun _ h => h)).trans P)
 have X := ex_al (V.Ext.trans (ex_al (ex_al (V.Ext.refl (fun _ _ => False) w) Z0) kzc) hx (fun _ _ h => h.elim)) (tc 0)
 refine (begun1 _).mono ?_
 rintro e w2 ⟨rfl, hy⟩
 replace K := (hy.obj _ (Array.getElem?_eq_some_iff.1 K).1 (fun _ h => h)).trans K
 replace Z := (hy.obj _ (Array.getElem?_eq_some_iff.1 Z).1 (fun _ h => h)).trans Z
 replace X := V.Ext.trans X hy (fun _ _ h => h.elim)
 have q0 := cellOf K 0
 have q1 := cellOf K 1
 simp at q0 q1
 go_wp2_with (first | (go_at_call 6; (with_reducible refine (putN _).mono ?_); rintro e w' ⟨rfl, hx⟩; have K := (hx.obj _ (Array.getElem?_eq_some_iff.1 K).1 (fun _ h => h)).trans K; have Z := (hx.obj _ (Array.getElem?_eq_some_iff.1 Z).1 (fun _ h => h)).trans Z; have X := V.Ext.trans X hx (fun _ _ h => h.elim); have q0 := cellOf K 0; have q1 := cellOf K 1; simp at q0 q1) | (go_at_call 6; (with_reducible refine (putZ _ _ Z).mono ?_); rintro e w' ⟨rfl, hx⟩; have K := (hx.obj _ (Array.getElem?_eq_some_iff.1 K).1 (fun _ h => h)).trans K; have Z := (hx.obj _ (Array.getElem?_eq_some_iff.1 Z).1 (fun _ h => h)).trans Z; have X := V.Ext.trans X hx (fun _ _ h => h.elim); have q0 := cellOf K 0; have q1 := cellOf K 1; simp at q0 q1) | (go_at_call 7; (with_reducible refine (dropN _).mono ?_); rintro e w' ⟨rfl, hx⟩; have K := (hx.obj _ (Array.getElem?_eq_some_iff.1 K).1 (fun _ h => h)).trans K; have Z := (hx.obj _ (Array.getElem?_eq_some_iff.1 Z).1 (fun _ h => h)).trans Z; have X := V.Ext.trans X hx (fun _ _ h => h.elim); have q0 := cellOf K 0; have q1 := cellOf K 1; simp at q0 q1) | (go_at_call 8; (with_reducible refine (hasN _).mono ?_); rintro e w' ⟨rfl, hx⟩; have K := (hx.obj _ (Array.getElem?_eq_some_iff.1 K).1 (fun _ h => h)).trans K; have Z := (hx.obj _ (Array.getElem?_eq_some_iff.1 Z).1 (fun _ h => h)).trans Z; have X := V.Ext.trans X hx (fun _ _ h => h.elim); have q0 := cellOf K 0; have q1 := cellOf K 1; simp at q0 q1) | (go_at_call 9; (with_reducible refine (lenN _).mono ?_); rintro e w' ⟨rfl, hx⟩; have K := (hx.obj _ (Array.getElem?_eq_some_iff.1 K).1 (fun _ h => h)).trans K; have Z := (hx.obj _ (Array.getElem?_eq_some_iff.1 Z).1 (fun _ h => h)).trans Z; have X := V.Ext.trans X hx (fun _ _ h => h.elim); have q0 := cellOf K 0; have q1 := cellOf K 1; simp at q0 q1) | (go_at_call 9; (with_reducible refine (lenZ _ _ Z).mono ?_); rintro e w' ⟨rfl, hx⟩; have K := (hx.obj _ (Array.getElem?_eq_some_iff.1 K).1 (fun _ h => h)).trans K; have Z := (hx.obj _ (Array.getElem?_eq_some_iff.1 Z).1 (fun _ h => h)).trans Z; have X := V.Ext.trans X hx (fun _ _ h => h.elim); have q0 := cellOf K 0; have q1 := cellOf K 1; simp at q0 q1) | (go_at_call 10; (with_reducible refine (handlesN _).mono ?_); rintro e w' ⟨rfl, hx⟩; have K := (hx.obj _ (Array.getElem?_eq_some_iff.1 K).1 (fun _ h => h)).trans K; have Z := (hx.obj _ (Array.getElem?_eq_some_iff.1 Z).1 (fun _ h => h)).trans Z; have X := V.Ext.trans X hx (fun _ _ h => h.elim); have q0 := cellOf K 0; have q1 := cellOf K 1; simp at q0 q1) | (go_at_call 11; (with_reducible refine (copyN _).mono ?_); rintro e w' ⟨rfl, hx⟩; have K := (hx.obj _ (Array.getElem?_eq_some_iff.1 K).1 (fun _ h => h)).trans K; have Z := (hx.obj _ (Array.getElem?_eq_some_iff.1 Z).1 (fun _ h => h)).trans Z; have X := V.Ext.trans X hx (fun _ _ h => h.elim); have q0 := cellOf K 0; have q1 := cellOf K 1; simp at q0 q1))
 go_ret
 exact ⟨rfl, X⟩
end Go.Proofs.Ytbambclbeglgoaa
