/- The abstract execution over the record. Conditions: none. -/
import Derived.Test.YthncmjlcmlmnmaaVO
namespace Go.Proofs.Ythncmjlcmlmnmaa.V
open Go
/-- A condition that is to be reckoned out. -/
def need (b : Bool) (A : Unit → Prop) : Prop := match b with | true => A () | false => False
section
variable (O : Ops)
def brO (x : AV) (A B : Unit → Prop) : Prop := match x with | .c (.v (.bool v)) => O.br v A B | _ => False
def closeO (m : Mem) : AV → (CV → Mem → Prop) → Prop
  | .c x, K => K (normC x) m
  | .t id ver n, K => match m.get id with
    | some (.arr v sz es cap _) => need (Nat.beq v ver) fun _ => O.view n es fun xs => K (.sl sz xs none) (m.upd id (.arr v sz es cap true))
    | _ => False
  | _, _ => False
def closeLO (m : Mem) : List AV → (List CV → Mem → Prop) → Prop
  | [], K => K [] m
  | a :: l, K => closeO O m a fun x m => closeLO m l fun xs m => K (x :: xs) m
def sBinO (op : BinOp) : Value → Value → (Value → Prop) → Prop
  | .int k a, .int k' b, K => match op with
    | .shl | .shr => O.ile 0 b ∧ K (.int k (O.bin op k a b))
    | .quo | .rem => need (decide (k = k')) fun _ => O.nz b ∧ K (.int k (O.bin op k a b))
    | .add | .sub | .mul | .and | .or | .xor | .andNot => need (decide (k = k')) fun _ => K (.int k (O.bin op k a b))
    | .eql | .neq | .lss | .leq | .gtr | .geq => need (decide (k = k')) fun _ => K (.bool (O.cmp op a b))
  | .string a, .string b, K => match op with
    | .add => O.ile (O.plus (O.ssz a) (O.ssz b)) 9223372036854775807 ∧ K (.string (O.sadd a b))
    | .eql | .neq | .lss | .leq | .gtr | .geq => K (.bool (O.scmp op a b))
    | _ => False
  | _, _, _ => False
def binO (op : BinOp) (k : TK) (m : Mem) (x y : AV) (K : KK) : Prop := match x, y with
  | .c (.v (.bool a)), .c (.v (.bool b)) => match op, k with
    | .eql, .bool => K (.c (.v (.bool (O.beq2 a b)))) m
    | .neq, .bool => K (.c (.v (.bool (O.bnot (O.beq2 a b))))) m
    | _, _ => False
  | .c (.v (.int i a)), .c (.v b) => sBinO O op (.int i a) b fun r => K (.c (.v r)) m
  | .c (.v (.string a)), .c (.v b) => sBinO O op (.string a) b fun r => K (.c (.v r)) m
  | x, y => match op, k, isNil x, isNil y with
    | .eql, .pt _ _, some a, some b => need (a || b) fun _ => K (.c (.v (.bool (a && b)))) m
    | .neq, .pt _ _, some a, some b => need (a || b) fun _ => K (.c (.v (.bool !(a && b)))) m
    | _, _, _, _ => False
def cellEqO : Nat → AV → AV → Option Bool
  | 1, .c (.v (.int k a)), .c (.v (.int k' b)) => if k = k' then some (O.cmp .eql a b) else none
  | 2, .c (.v (.bool a)), .c (.v (.bool b)) => some (O.beq2 a b)
  | 3, .c (.v (.string a)), .c (.v (.string b)) => some (O.scmp .eql a b)
  | _, _, _ => none
def cellsEqO : List Nat → List AV → List AV → Option Bool
  | [], [], [] => some true
  | c :: cs, x :: xs, y :: ys => match cellEqO O c x y, cellsEqO cs xs ys with | some a, some b => some (O.and2 a b) | _, _ => none
  | _, _, _ => none
def eqO (op : BinOp) (ti : TI) (m : Mem) (xs ys : List AV) (K : KK) : Prop := match ti.k, ti.eq with
  | .st _, c :: cs => match op, cellsEqO O (c :: cs) xs ys with
    | .eql, some b => K (.c (.v (.bool b))) m
    | .neq, some b => K (.c (.v (.bool (O.bnot b)))) m
    | _, _ => False
  | _, _ => False
def unO (op : UnOp) (m : Mem) (x : AV) (K : KK) : Prop := match op, x with
  | .neg, .c (.v (.int k n)) => K (.c (.v (.int k (O.un .neg k n)))) m
  | .xor, .c (.v (.int k n)) => K (.c (.v (.int k (O.un .xor k n)))) m
  | .not, .c (.v (.bool b)) => K (.c (.v (.bool (O.bnot b)))) m
  | _, _ => False
def viewO (esz : Nat) (m : Mem) (x : AV) (K : EL → Prop) : Prop := match x with
  | .c (.sl sz es _) => need (Nat.beq sz esz) fun _ => K es
  | .t id ver n => match m.get id with
    | some (.arr v sz es _ _) => need (Nat.beq v ver && Nat.beq sz esz) fun _ => O.view n es K
    | _ => False
  | _ => False
def convO (src dst : TK) (site : Nat) (m : Mem) (x : AV) (K : KK) : Prop := match src, dst, x with
  | .int _, .int k, .c (.v (.int _ n)) => K (.c (.v (.int k (O.wrap k n)))) m
  | .str, .str, .c (.v (.string s)) => K (.c (.v (.string s))) m
  | .str, .sl 1 false 1 true, .c (.v (.string s)) => K (.t site m.clk (O.ssz s)) (m.new site fun v => .arr v 1 (O.ofb s) none true)
  | .sl 1 false 1 true, .str, x => viewO O 1 m x fun es => O.tob es fun s => K (.c (.v (.string s))) m
  | _, _, _ => False
def rdA (agg : Bool) (s : Nat) (cs : List AV) (K : AV → Prop) : Prop := match agg with
  | true => need (Nat.ble s cs.length) fun _ => K (.agg (cs.take s))
  | false => match cs with | x :: _ => K x | [] => False
def loadO (agg : Bool) (s : Nat) (m : Mem) (x : AV) (K : KK) : Prop := match x with
  | .p id ver o => match m.get id with
    | some (.blk v cs) => need (Nat.beq v ver) fun _ => rdA agg s (cs.drop o) fun y => K y m
    | _ => False
  | .c (.rp cs) => rdA agg s (cs.map .c) fun y => K y m
  | .tp id ver i o => match m.get id with
    | some (.arr v _ es _ _) => need (Nat.beq v ver) fun _ => O.nle (O.plus i 1) (O.len es) ∧ O.elem es i fun cs => rdA agg s ((cs.drop o).map .c) fun y => K y m
    | _ => False
  | _ => False
def storeO (s : Nat) (m : Mem) (x y : AV) (K : Mem → Prop) : Prop := match x with
  | .p id ver o => match m.get id with
    | some (.blk v cs) => need (Nat.beq v ver && y.cells.length.beq s && y.cells.all AV.solid && Nat.ble (o + s) cs.length && ((cs.drop o).take s).all (fun x => !x.isDead)) fun _ => K (m.upd id (.blk v (putAt cs o y.cells)))
    | _ => False
  | .tp id ver i o => closeLO O m y.cells fun ys m => match m.get id with
    | some (.arr v sz es cap pub) => need (Nat.beq v ver && !pub && ys.length.beq s) fun _ => O.nle (O.plus i 1) (O.len es) ∧ O.nle (o + s) (O.width es i) ∧
        K (m.upd id (.arr v sz (O.setE es i o ys) cap pub))
    | _ => False
  | _ => False
def boxO (site : Nat) (m : Mem) (y : AV) (K : KK) : Prop := need (y.cells.all AV.solid) fun _ => K (.p site m.clk 0) (m.new site fun v => .blk v y.cells)
def buildSliceO (site esz : Nat) (zero : List CV) (len : Nat) (parts : List (Nat × AV)) (m : Mem) (K : KK) : Prop := need (Nat.ble (len * esz) 16777216) fun _ =>
  match fillA (fun i => some (i * esz, esz)) ((repL len zero).map .c) parts with
  | some cs => closeLO O m cs fun xs m => K (.t site m.clk len) (m.new site fun v => .arr v esz (chunks esz len xs) (some len) false)
  | none => False
def makeSliceO (site esz ebytes : Nat) (zero : List CV) (m : Mem) (l c : AV) (K : KK) : Prop := match l, c with
  | .c (.v (.int _ l)), .c (.v (.int _ c)) => O.ile 0 l ∧ O.ile l c ∧ O.ile (O.itimes c ebytes) 70368744177664 ∧
      K (.t site m.clk (O.toN l)) (m.new site fun v => .arr v esz (O.rep (O.toN l) zero) (some (O.toN c)) false)
  | _, _ => False
def sliceO (k : TK) (m : Mem) (x : AV) (lo hi mx : Option AV) (K : KK) : Prop := match k, x with
  | .str, .c (.v (.string s)) => need mx.isNone fun _ => bnd 0 lo fun l => bnd (O.ssz s) hi fun h => O.ile 0 l ∧ O.ile l h ∧ O.ile h (O.ssz s) ∧ K (.c (.v (.string (O.sext s (O.toN l) (O.toN h))))) m
  | .sl esz _ _ _, .c (.sl sz es sp) => need (Nat.beq sz esz) fun _ => bnd 0 lo fun l => bnd (O.len es) hi fun h => match mx with
    | none => O.ile 0 l ∧ O.ile l h ∧ match sp with
      | some sp => O.ile h (O.plus (O.len es) (O.len sp)) ∧ K (.c (.sl sz (O.drop (O.toN l) (O.take (O.toN h) (O.app es sp))) (some (O.drop (O.toN h) (O.app es sp))))) m
      | none => O.ile h (O.len es) ∧ K (.c (.sl sz (O.drop (O.toN l) (O.take (O.toN h) es)) none)) m
    | some mx => need hi.isSome fun _ => bnd 0 (some mx) fun c => O.ile 0 l ∧ O.ile l h ∧ O.ile h c ∧ O.ile c (O.len es) ∧
        K (.c (.sl sz (O.drop (O.toN l) (O.take (O.toN h) es)) (some (O.drop (O.toN h) (O.take (O.toN c) es))))) m
  | .sl esz _ _ _, .t id ver n => match m.get id with
    | some (.arr v sz es cap _) => need (Nat.beq v ver && Nat.beq sz esz && mx.isNone) fun _ => O.nle n (O.len es) ∧ bnd n hi fun h => match lo with
      | none => O.ile 0 h ∧ O.hiOk cap.isSome h n (O.len es) ∧ K (.t id ver (O.toN h)) m
      | some _ => bnd 0 lo fun l => O.ile 0 l ∧ O.ile l h ∧ O.ile h n ∧ K (.c (.sl sz (O.drop (O.toN l) (O.take (O.toN h) es)) none)) (m.upd id (.arr v sz es cap true))
    | _ => False
  | _, _ => False
/-- 'lit': the index is a constant of the text. -/
def indexAddrO (lit : Bool) (k : TK) (m : Mem) (x i : AV) (K : KK) : Prop := match i with
  | .c (.v (.int _ i)) => match k, x with
    | .ar n esz _, .p id ver o => match lit with
      | true => need (Nat.ble 2 n && decide (0 ≤ i) && decide (i < n)) fun _ => K (.p id ver (o + i.toNat * esz)) m
      | false => need (Nat.ble 2 n) fun _ => O.ile 0 i ∧ O.ilt i n ∧ O.nat (O.toN i) n fun j => K (.p id ver (o + j * esz)) m
    | .ar n esz _, .c (.rp cs) => match lit with
      | true => need (Nat.ble 2 n && decide (0 ≤ i) && decide (i < n)) fun _ => K (.c (.rp (cs.drop (i.toNat * esz)))) m
      | false => need (Nat.ble 2 n) fun _ => O.ile 0 i ∧ O.ilt i n ∧ O.sub cs (O.toN i) esz fun cs => K (.c (.rp cs)) m
    | .sl esz _ _ _, .c (.sl sz es _) => need (Nat.beq sz esz) fun _ => O.ile 0 i ∧ O.ilt i (O.len es) ∧ O.elem es (O.toN i) fun cs => K (.c (.rp cs)) m
    | .sl esz _ _ _, .t id ver n => match m.get id with
      | some (.arr v sz es _ _) => need (Nat.beq v ver && Nat.beq sz esz) fun _ => O.nle n (O.len es) ∧ O.ile 0 i ∧ O.ilt i n ∧ K (.tp id ver (O.toN i) 0) m
      | _ => False
    | _, _ => False
  | _ => False
def indexO (lit : Bool) (k : TK) (m : Mem) (x i : AV) (K : KK) : Prop := match i with
  | .c (.v (.int _ i)) => match k, x with
    | .str, .c (.v (.string s)) => O.ile 0 i ∧ O.ilt i (O.ssz s) ∧ K (.c (.v (.int .u8 (O.sget s (O.toN i))))) m
    | .ar n esz eagg, .agg cs => match lit with
      | true => need (decide (0 ≤ i) && decide (i < n)) fun _ => rdA eagg esz (cs.drop (i.toNat * esz)) fun y => K y m
      | false => O.ile 0 i ∧ O.ilt i n ∧ O.nat (O.toN i) n fun j => rdA eagg esz (cs.drop (j * esz)) fun y => K y m
    | _, _ => False
  | _ => False
def fieldO (f : Nat × Nat × Bool) (m : Mem) (x : AV) (K : KK) : Prop := match x with
  | .agg cs => rdA f.2.2 f.2.1 (cs.drop f.1) fun y => K y m
  | _ => False
def lenO (k : TK) (m : Mem) (x : AV) (K : KK) : Prop := match k, x with
  | .str, .c (.v (.string s)) => K (.c (.v (.int .i64 (O.toI (O.ssz s))))) m
  | .ar n _ _, _ => K (.c (.v (.int .i64 n))) m
  | .sl _ _ _ _, .c (.sl _ es _) => K (.c (.v (.int .i64 (O.toI (O.len es))))) m
  | .sl _ _ _ _, .t _ _ n => K (.c (.v (.int .i64 (O.toI n)))) m
  | _, _ => False
def capO (k : TK) (m : Mem) (x : AV) (K : KK) : Prop := match k, x with
  | .sl _ _ _ _, .c (.sl _ es (some sp)) => K (.c (.v (.int .i64 (O.toI (O.plus (O.len es) (O.len sp)))))) m
  | .sl _ _ _ _, .t id ver _ => match m.get id with
    | some (.arr v _ _ (some c) _) => need (Nat.beq v ver) fun _ => K (.c (.v (.int .i64 (O.toI c)))) m
    | _ => False
  | _, _ => False
def minmaxO (mx : Bool) (m : Mem) : List AV → KK → Prop
  | [.c (.v (.int k a)), .c (.v (.int k' b))], K => need (decide (k = k')) fun _ => K (.c (.v (.int k (O.least mx a b)))) m
  | _, _ => False
def srcO (esz : Nat) (m : Mem) (x : AV) (K : EL → Prop) : Prop := match x with
  | .c (.v (.string s)) => need (Nat.beq esz 1) fun _ => K (O.ofb s)
  | x => viewO O esz m x fun es => K es
def appendO (site esz ebytes : Nat) (m : Mem) (s x : AV) (K : KK) : Prop := srcO O esz m x fun ns => match s with
  | .c (.sl sz es (some [])) => need (Nat.beq sz esz) fun _ => O.nle (O.times (O.plus (O.len es) (O.len ns)) ebytes) 35184372088832 ∧
      O.emp ns (fun _ => K s m) (fun _ => K (.t site m.clk (O.len (O.app es ns))) (m.new site fun v => .arr v esz (O.app es ns) none false))
  | .t id ver n => match m.get id with
    | some (.arr v sz es _ pub) => need (Nat.beq v ver && Nat.beq sz esz) fun _ => O.neq n (O.len es) ∧ O.nle (O.times (O.plus (O.len es) (O.len ns)) ebytes) 35184372088832 ∧
        K (.t id m.clk (O.len (O.app es ns))) ((m.del id).new id fun v => .arr v sz (O.app es ns) none pub)
    | _ => False
  | _ => False
def copyO (esz : Nat) (m : Mem) (d x : AV) (K : KK) : Prop := srcO O esz m x fun ns => match d with
  | .t id ver n => match m.get id with
    | some (.arr v sz es cap false) => need (Nat.beq v ver && Nat.beq sz esz) fun _ => O.nle n (O.len es) ∧
        K (.c (.v (.int .i64 (O.toI (O.least2 (O.len ns) n))))) (m.upd id (.arr v sz (O.over ns es (O.least2 (O.len ns) n)) cap false))
    | _ => False
  | _ => False
def packO : Nat → Mem → AV → (OV → Mem → Prop) → Prop
  | 0, _, _, _ => False
  | k + 1, m, x, K => match x with
    | .c x => K (.c x) m
    | .t id ver n => match m.get id with
      | some (.arr v sz es cap pub) => need (Nat.beq v ver) fun _ => O.nle n (O.len es) ∧ K (.arr sz es cap pub n) (m.del id)
      | _ => False
    | .p id ver 0 => match m.get id with
      | some (.blk v cs) => need (Nat.beq v ver) fun _ => packLW (packO k) (m.del id) cs fun os m => K (.ptr os) m
      | _ => False
    | .agg cs => packLW (packO k) m cs fun os m => K (.agg os) m
    | .tup cs => packLW (packO k) m cs fun os m => K (.tup os) m
    | _ => False
def shutO (m : Mem) (x : AV) (K : OV → Mem → Prop) : Prop := match x with
  | .agg cs => closeLO O m cs fun xs m => K (.agg (xs.map .c)) m
  | x => closeO O m x fun y m => K (.c y) m
def argO (md : Mode) (m : Mem) (x : AV) (K : OV → Mem → Prop) : Prop := match md with
  | .shut => shutO O m x K
  | .keep => match x with | .c y => K (.c y) m | _ => False
  | .own => packO O depth m x K
  | .ref s => match x with
    | .p id ver o => match m.get id with
      | some (.blk v cs) => need (Nat.beq v ver && Nat.ble (o + s) cs.length && ((cs.drop o).take s).all (fun x => !x.isDead)) fun _ => packLW (packO O depth) (m.upd id (.blk v (putAt cs o (List.replicate s .dead)))) ((cs.drop o).take s) fun os m => K (.ptr os) m
      | _ => False
    | _ => False
def argsO (m : Mem) : List Mode → List AV → (List OV → Mem → Prop) → Prop
  | [], [], K => K [] m
  | md :: mds, x :: xs, K => argO O md m x fun o m => argsO m mds xs fun os m => K (o :: os) m
  | _, _, _ => False
def backO (id : Nat) (m : Mem) : List Mode → List AV → List OV → (Nat → Mem → Prop) → Prop
  | [], [], [], K => K id m
  | md :: mds, x :: xs, o :: l, K => match md with
    | .ref s => match x, o with
      | .p i ver o, .ptr os => match (unpackL (unpack depth) (1000000 * (i + 1)) m os).2.2.get i with
        | some (.blk v cs) => need (os.length.beq s && Nat.beq v ver && Nat.ble (o + s) cs.length) fun _ => backO id ((unpackL (unpack depth) (1000000 * (i + 1)) m os).2.2.upd i (.blk v (putAt cs o (unpackL (unpack depth) (1000000 * (i + 1)) m os).1))) mds xs l K
        | _ => False
      | _, _ => False
    | _ => backO id m mds xs l K
  | _, _, _, _ => False
def evAc (f : Unit → Nat) : Value → AV
  | .slice none 0 0 => .c (.sl (f ()) [] (some []))
  | v => if solidV v then .c (.v v) else .dead
def evA (A : Nat → TI) (G : Glob) (tm : List AV) (ty : Nat) : Operand → AV
  | .tmp t => tm.getD t .dead
  | .const v => evAc (fun _ => match (A ty).k with | .sl e _ _ _ => e | _ => 0) v
  | .global g => match G g with | some cs => .c (.rp cs) | none => .dead
  | .func f => .c (.v (.func (.func f) #[] #[]))
def evLA (A : Nat → TI) (G : Glob) (tm : List AV) : List Operand → List TypeId → List AV
  | [], _ => []
  | x :: xs, tys => evA A G tm (tys.headD 0) x :: evLA A G tm xs tys.tail
def builtinO (A : Nat → TI) (site : Nat) (m : Mem) (b : Builtin) (tys : List TypeId) (args : List AV) (K : KK) : Prop := match b, args, tys with
  | .len, [x], [t] => lenO O (A t).k m x K
  | .cap, [x], [t] => capO O (A t).k m x K
  | .min, l, _ => minmaxO O false m l K
  | .max, l, _ => minmaxO O true m l K
  | .append, [s, x], [t, t2] => match (A t).k, (A t2).k with
    | .sl esz _ ebytes _, .sl _ _ _ _ => appendO O site esz ebytes m s x K
    | .sl esz _ ebytes _, .str => appendO O site esz ebytes m s x K
    | _, _ => False
  | .copy, [d, x], [t, _] => match (A t).k with
    | .sl esz _ _ _ => copyO O esz m d x K
    | _ => False
  | _, _, _ => False
def isLit : Operand → Bool | .const _ => true | _ => false
def opO (A : Nat → TI) (G : Glob) (tm : List AV) (o : Oper) (m : Mem) (K : KK) : Prop := match o.op with
  | .move x | .assign x => K (evA A G tm o.type x) m
  | .pick c a b => brO O (evA A G tm 0 c) (fun _ => K (evA A G tm o.type a) m) (fun _ => K (evA A G tm o.type b) m)
  | .alloc e => match (A e).size with | 0 => False | _ + 1 => allocW (siteOf o.dst) (A e).zero m K
  | .box e x => boxO (siteOf o.dst) m (evA A G tm e x) K
  | .build t ps => match (A t).k with
    | .st fs => buildW (stPlace fs) (A t).zero (ps.toList.map fun p => (p.1, evA A G tm 0 p.2)) m K
    | .ar _ esz _ => buildW (fun i => some (i * esz, esz)) (A t).zero (ps.toList.map fun p => (p.1, evA A G tm 0 p.2)) m K
    | _ => False
  | .buildSlice t len ps => match (A t).k with
    | .sl esz _ _ _ => buildSliceO O (siteOf o.dst) esz (A t).ezero len (ps.toList.map fun p => (p.1, evA A G tm 0 p.2)) m K
    | _ => False
  | .load t a => match (A t).size with | 0 => False | s + 1 => loadO O (A t).agg (s + 1) m (evA A G tm 0 a) K
  | .store t a x => match (A t).size with | 0 => False | s + 1 => storeO O (s + 1) m (evA A G tm 0 a) (evA A G tm t x) fun m => K .dead m
  | .nilCheck x => nilCheckW m (evA A G tm 0 x) K
  | .binOp op t x y _ => match aggs (evA A G tm t x) (evA A G tm t y) with
    | some p => eqO O op (A t) m p.1 p.2 K
    | none => binO O op (A t).k m (evA A G tm t x) (evA A G tm t y) K
  | .unOp op _ x => unO O op m (evA A G tm 0 x) K
  | .convert s d x => convO O (A s).k (A d).k (siteOf o.dst) m (evA A G tm s x) K
  | .makeSlice t l c => match (A t).k with
    | .sl esz _ ebytes _ => makeSliceO O (siteOf o.dst) esz ebytes (A t).ezero m (evA A G tm 0 l) (evA A G tm 0 c) K
    | _ => False
  | .slice t x lo hi mx => sliceO O (A t).k m (evA A G tm t x) (lo.map (evA A G tm 0)) (hi.map (evA A G tm 0)) (mx.map (evA A G tm 0)) K
  | .fieldAddr s x f => match (A s).k with
    | .st fs => match fs[f]? with
      | some (off, _ + 1, _) => fieldAddrW off m (evA A G tm 0 x) K
      | some (_, 0, _) => False
      | none => False
    | _ => False
  | .field t x f => match (A t).k with
    | .st fs => match fs[f]? with
      | some f => fieldO f m (evA A G tm 0 x) K
      | none => False
    | _ => False
  | .indexAddr t x i => indexAddrO O (isLit i) (A t).k m (evA A G tm t x) (evA A G tm 0 i) K
  | .index t x i => indexO O (isLit i) (A t).k m (evA A G tm t x) (evA A G tm 0 i) K
  | .extract x i => extractW i m (evA A G tm 0 x) K
  | .call c => match c.callee with
    | .builtin b => builtinO O A (siteOf o.dst) m b c.argTypes.toList (evLA A G tm c.args.toList c.argTypes.toList) K
    | .value f => match evA A G tm 0 f with
      | .c (.v (.func (.func g) first captured)) => need (first.isEmpty && captured.isEmpty) fun _ => O.call (siteOf o.dst) m g (evLA A G tm c.args.toList c.argTypes.toList) K
      | _ => False
    | _ => False
  | _ => False
def guardO (all : List Oper) (tm : List AV) (g : Option (Nat × Bool)) (go skip : Unit → Prop) : Prop := match g with
  | none => go ()
  | some (j, want) => match (all[j]?).bind (·.dst) with
    | some d => match isSkip (tm.getD d .dead) with
      | true => skip ()
      | false => match want with
        | true => brO O (tm.getD d .dead) go skip
        | false => brO O (tm.getD d .dead) skip go
    | none => False
def opsO (A : Nat → TI) (G : Glob) (all : List Oper) : List Oper → List AV → Mem → (List AV → Mem → Prop) → Prop
  | [], tm, m, K => K tm m
  | o :: r, tm, m, K => match mvT o tm with
    | none => guardO O all tm o.guard (fun _ => opO O A G tm o m fun v m => opsO A G all r (setO tm o.dst v) m K) (fun _ => opsO A G all r (setO tm o.dst skipA) m K)
    | some s => O.alt (fun _ => opO O A G tm o m fun v m => opsO A G all r (setO tm o.dst v) m K)
        (fun _ => closeO O m (tm.getD s .dead) fun y m => opsO A G all r (setO (setO tm (some s) (.c y)) o.dst (tm.getD s .dead)) m K)
/-- Operations that are taken first, over the record. -/
def hoistO (A : Nat → TI) (G : Glob) (wr : List Nat) (tm : List AV) (o : Oper) (m : Mem) (K : AV → Prop) : Prop := match o.op with
  | .move x | .assign x => K (evA A G tm o.type x)
  | .pick c a b => brO O (evA A G tm 0 c) (fun _ => K (evA A G tm o.type a)) (fun _ => K (evA A G tm o.type b))
  | .nilCheck x => nilCheckW m (evA A G tm 0 x) fun v _ => K v
  | .fieldAddr s x f => match (A s).k with
    | .st fs => match fs[f]? with
      | some (off, _ + 1, _) => fieldAddrW off m (evA A G tm 0 x) fun v _ => K v
      | some (_, 0, _) => False
      | none => False
    | _ => False
  | .field t x f => match (A t).k with
    | .st fs => match fs[f]? with
      | some f => fieldO f m (evA A G tm 0 x) fun v _ => K v
      | none => False
    | _ => False
  | .extract x i => extractW i m (evA A G tm 0 x) fun v _ => K v
  | .binOp op t x y _ => match aggs (evA A G tm t x) (evA A G tm t y) with
    | some p => eqO O op (A t) m p.1 p.2 fun v _ => K v
    | none => binO O op (A t).k m (evA A G tm t x) (evA A G tm t y) fun v _ => K v
  | .unOp op _ x => unO O op m (evA A G tm 0 x) fun v _ => K v
  | .load t a => match (A t).size with
    | 0 => False
    | s + 1 => match evA A G tm 0 a with
      | .p id ver o => need (!wr.contains id) fun _ => loadO O (A t).agg (s + 1) m (.p id ver o) fun v _ => K v
      | .c x => loadO O (A t).agg (s + 1) m (.c x) fun v _ => K v
      | _ => False
  | .indexAddr t x i => match evA A G tm t x with
    | .t id ver n => need (!wr.contains id) fun _ => indexAddrO O (isLit i) (A t).k m (.t id ver n) (evA A G tm 0 i) fun v _ => K v
    | x => indexAddrO O (isLit i) (A t).k m x (evA A G tm 0 i) fun v _ => K v
  | .index t x i => indexO O (isLit i) (A t).k m (evA A G tm t x) (evA A G tm 0 i) fun v _ => K v
  | .convert s d x => match (A d).k, evA A G tm s x with
    | .int k, .c x => convO O (A s).k (.int k) 0 m (.c x) fun v _ => K v
    | .str, .c x => convO O (A s).k .str 0 m (.c x) fun v _ => K v
    | .str, .t id ver n => need (!wr.contains id) fun _ => convO O (A s).k .str 0 m (.t id ver n) fun v _ => K v
    | _, _ => False
  | .slice t x lo hi mx => match evA A G tm t x with
    | .c x => sliceO O (A t).k m (.c x) (lo.map (evA A G tm 0)) (hi.map (evA A G tm 0)) (mx.map (evA A G tm 0)) fun v _ => K v
    | .t id ver n => need (lo.isNone && !wr.contains id) fun _ => sliceO O (A t).k m (.t id ver n) none (hi.map (evA A G tm 0)) (mx.map (evA A G tm 0)) fun v _ => K v
    | _ => False
  | .call c => match c.callee with
    | .builtin .len => builtinO O A 0 m .len c.argTypes.toList (evLA A G tm c.args.toList c.argTypes.toList) fun v _ => K v
    | .builtin .min => builtinO O A 0 m .min c.argTypes.toList (evLA A G tm c.args.toList c.argTypes.toList) fun v _ => K v
    | .builtin .max => builtinO O A 0 m .max c.argTypes.toList (evLA A G tm c.args.toList c.argTypes.toList) fun v _ => K v
    | _ => False
  | .build t ps => match (A t).k with
    | .st fs => buildW (stPlace fs) (A t).zero (ps.toList.map fun p => (p.1, evA A G tm 0 p.2)) m fun v _ => K v
    | .ar _ esz _ => buildW (fun i => some (i * esz, esz)) (A t).zero (ps.toList.map fun p => (p.1, evA A G tm 0 p.2)) m fun v _ => K v
    | _ => False
  | _ => False
def planO (A : Nat → TI) (G : Glob) (wr : List (List Nat)) (all : List Oper) : List (Nat × Bool × Bool) → List AV → Mem → (List AV → Mem → Prop) → Prop
  | [], tm, m, K => K tm m
  | (i, h, lb) :: r, tm, m, K => match all[i]? with
    | none => False
    | some o => match h with
      | true => guardO O all tm o.guard (fun _ => hoistO O A G (wr.headD []) tm o m fun v => planO A G wr all r (setO tm o.dst v) m K) (fun _ => planO A G wr all r (setO tm o.dst skipA) m K)
      | false => guardO O all tm o.guard (fun _ => opO O A G tm o m fun v m' => match lb with
        | true => planO A G (dnW wr) all r (setO tm o.dst v) m' K
        | false => O.agree (wr.headD []) m m' ∧ planO A G (dnW wr) all r (setO tm o.dst v) m' K) (fun _ => planO A G (dnW wr) all r (setO tm o.dst skipA) m K)
def thenK (N R : List AV → Mem → Prop) (X : Nat → List AV → Mem → Prop) : KX := fun e tm m => match e with | .norm => N tm m | .ret => R tm m | .ex i => X i tm m
def execO (A : Nat → TI) (G : Glob) : Code → List AV → Mem → KX → Prop
  | .skip, tm, m, K => K .norm tm m
  | .label _, tm, m, K => K .norm tm m
  | .region _ ops draw, tm, m, K => match draw, hasG ops.toList with
    | false, false => opsO O A G ops.toList ops.toList tm m (K .norm)
    | false, true => O.reg ops tm m (K .norm)
    | true, _ => O.drawn ops tm m (K .norm)
  | .seq a b, tm, m, K => execO A G a tm m fun e tm m => match e with | .norm => execO A G b tm m K | .ret => K .ret tm m | .ex i => K (.ex i) tm m
  | .cond c a b, tm, m, K => brO O (evA A G tm 0 c) (fun _ => execO A G a tm m (thenK (O.join (K .norm)) (K .ret) (fun i => K (.ex i))))
      (fun _ => execO A G b tm m (thenK (O.join (K .norm)) (K .ret) (fun i => K (.ex i))))
  | .block id c, tm, m, K => execO A G c tm m fun e tm m => match e with | .norm => K .norm tm m | .ret => K .ret tm m | .ex i => match Nat.beq i id with | true => K .norm tm m | false => K (.ex i) tm m
  | .loop c, tm, m, K => O.loop c tm m K
  | .exit id, tm, m, K => K (.ex id) tm m
  | .ret, tm, m, K => K .ret tm m
  | _, _, _, _ => False
def resultsO (A : Nat → TI) (tm : List AV) (m : Mem) : List ResultVar → (List AV → Prop) → Prop
  | [], K => K []
  | .tmp t :: r, K => resultsO A tm m r fun l => K (tm.getD t .dead :: l)
  | .cell a t :: r, K => match (A t).size with | 0 => False | s + 1 => loadO O (A t).agg (s + 1) m (tm.getD a .dead) fun x _ => resultsO A tm m r fun l => K (x :: l)
def outsO (m : Mem) : List OV → List AV → (List OV → Mem → Prop) → Prop
  | [], _, K => K [] m
  | o :: os, xs, K => match o with
    | .ptr _ => match xs with
      | .p id ver 0 :: xs => match m.get id with
        | some (.blk v cs) => need (Nat.beq v ver) fun _ => packLW (packO O depth) (m.del id) cs fun ps m => outsO m os xs fun l m => K (.ptr ps :: l) m
        | _ => False
      | _ => False
    | o => outsO m os xs.tail fun l m => K (o :: l) m
def shutAO (m : Mem) (x : AV) (K : AV → Mem → Prop) : Prop := match x with
  | .agg cs => closeLO O m cs fun xs m => K (.agg (xs.map .c)) m
  | .c x => K (.c (normC x)) m
  | .t id ver n => closeO O m (.t id ver n) fun y m => K (.c y) m
  | x => K x m
def shutAsO (m : Mem) : List AV → (List AV → Mem → Prop) → Prop
  | [], K => K [] m
  | x :: xs, K => shutAO O m x fun y m => shutAsO m xs fun ys m => K (y :: ys) m
def shutIfO (sh : Bool) (m : Mem) (xs : List AV) (K : List AV → Mem → Prop) : Prop := match sh with
  | true => shutAsO O m xs K
  | false => K xs m
def FnO (A : Nat → TI) (G : Glob) (fn : Func) (body : Code) (args : List OV) (Q : OV → List OV → Prop) (sh : Bool) : Prop :=
  execO O A G body ((unpackL (unpack depth) 0 ⟨[], 0⟩ args).1 ++ List.replicate (fn.ntmps - args.length) .dead) (unpackL (unpack depth) 0 ⟨[], 0⟩ args).2.2 (thenK
    (fun tm m => resultsO O A tm m fn.results.toList fun rs => shutIfO O sh m rs fun rs m => packO O depth m (oneOf rs) fun r m => outsO O m args (unpackL (unpack depth) 0 ⟨[], 0⟩ args).1 fun bs _ => Q r bs)
    (fun tm m => resultsO O A tm m fn.results.toList fun rs => shutIfO O sh m rs fun rs m => packO O depth m (oneOf rs) fun r m => outsO O m args (unpackL (unpack depth) 0 ⟨[], 0⟩ args).1 fun bs _ => Q r bs)
    (fun _ _ _ => False))
end
end Go.Proofs.Ythncmjlcmlmnmaa.V
