/- A part of the proof. Conditions: none. -/
import Derived.Test.YthncmjlcmlmnmaaCX3
import Derived.IntWalk
import Derived.Laws.Bits64
import GoSem.ClaimChange
import Derived.Test.YthncmjlcmlmnmaaProg
import Derived.KernelRfl
namespace Go.Proofs.Ythncmjlcmlmnmaa.V
open Go
def need (b:Bool) (A:Unit→Prop):Prop:=match b with | true=>A () | false=>False
section
variable (O:Ops)
def brO (x:AV) (A B:Unit→Prop):Prop:=match x with | .c (.v (.bool v))=>O.br v A B | _=>False
def z8s (m:Mem):AV→(CV→Mem→Prop)→Prop
 | .c x,K=>K (normC x) m
 | .t id ver n,K=>match m.get id with
  | some (.arr v sz es cap _)=>need (Nat.beq v ver) fun _=>O.view n es fun xs=>K (.sl sz xs none) (m.upd id (.arr v sz es cap true))
  | _=>False
 | _,_=>False
def z5l (m:Mem):List AV→(List CV→Mem→Prop)→Prop
 | [],K=>K [] m
 | a :: l,K=>z8s O m a fun x m=>z5l m l fun xs m=>K (x :: xs) m
def sBinO (op:BinOp):Value→Value→(Value→Prop)→Prop
 | .int k a,.int k' b,K=>match op with
  | .shl | .shr=>O.ile 0 b∧K (.int k (O.bin op k a b))
  | .quo | .rem=>need (decide (k=k')) fun _=>O.nz b∧K (.int k (O.bin op k a b))
  | .add | .sub | .mul | .and | .or | .xor | .andNot=>need (decide (k=k')) fun _=>K (.int k (O.bin op k a b))
  | .eql | .neq | .lss | .leq | .gtr | .geq=>need (decide (k=k')) fun _=>K (.bool (O.cmp op a b))
 | .string a,.string b,K=>match op with
  | .add=>O.ile (O.plus (O.ssz a) (O.ssz b)) 9223372036854775807∧K (.string (O.sadd a b))
  | .eql | .neq | .lss | .leq | .gtr | .geq=>K (.bool (O.scmp op a b))
  | _=>False
 | _,_,_=>False
def binO (op:BinOp) (k:TK) (m:Mem) (x y:AV) (K:KK):Prop:=match x,y with
 | .c (.v (.bool a)),.c (.v (.bool b))=>match op,k with
  | .eql,.bool=>K (.c (.v (.bool (O.beq2 a b)))) m
  | .neq,.bool=>K (.c (.v (.bool (O.bnot (O.beq2 a b))))) m
  | _,_=>False
 | .c (.v (.int i a)),.c (.v b)=>sBinO O op (.int i a) b fun r=>K (.c (.v r)) m
 | .c (.v (.string a)),.c (.v b)=>sBinO O op (.string a) b fun r=>K (.c (.v r)) m
 | x,y=>match op,k,isNil x,isNil y with
  | .eql,.pt _ _,some a,some b=>need (a || b) fun _=>K (.c (.v (.bool (a && b)))) m
  | .neq,.pt _ _,some a,some b=>need (a || b) fun _=>K (.c (.v (.bool !(a && b)))) m
  | _,_,_,_=>False
def w9r:Nat→AV→AV→Option Bool
 | 1,.c (.v (.int k a)),.c (.v (.int k' b))=>if k=k' then some (O.cmp .eql a b) else none
 | 2,.c (.v (.bool a)),.c (.v (.bool b))=>some (O.beq2 a b)
 | 3,.c (.v (.string a)),.c (.v (.string b))=>some (O.scmp .eql a b)
 | _,_,_=>none
def z4c:List Nat→List AV→List AV→Option Bool
 | [],[],[]=>some true
 | c :: cs,x :: xs,y :: ys=>match w9r O c x y,z4c cs xs ys with | some a,some b=>some (O.and2 a b) | _,_=>none
 | _,_,_=>none
def eqO (op:BinOp) (ti:TI) (m:Mem) (xs ys:List AV) (K:KK):Prop:=match ti.k,ti.eq with
 | .st _,c :: cs=>match op,z4c O (c :: cs) xs ys with
  | .eql,some b=>K (.c (.v (.bool b))) m
  | .neq,some b=>K (.c (.v (.bool (O.bnot b)))) m
  | _,_=>False
 | _,_=>False
def unO (op:UnOp) (m:Mem) (x:AV) (K:KK):Prop:=match op,x with
 | .neg,.c (.v (.int k n))=>K (.c (.v (.int k (O.un .neg k n)))) m
 | .xor,.c (.v (.int k n))=>K (.c (.v (.int k (O.un .xor k n)))) m
 | .not,.c (.v (.bool b))=>K (.c (.v (.bool (O.bnot b)))) m
 | _,_=>False
def viewO (esz:Nat) (m:Mem) (x:AV) (K:EL→Prop):Prop:=match x with
 | .c (.sl sz es _)=>need (Nat.beq sz esz) fun _=>K es
 | .t id ver n=>match m.get id with
  | some (.arr v sz es _ _)=>need (Nat.beq v ver && Nat.beq sz esz) fun _=>O.view n es K
  | _=>False
 | _=>False
def convO (src dst:TK) (site:Nat) (m:Mem) (x:AV) (K:KK):Prop:=match src,dst,x with
 | .int _,.int k,.c (.v (.int _ n))=>K (.c (.v (.int k (O.wrap k n)))) m
 | .str,.str,.c (.v (.string s))=>K (.c (.v (.string s))) m
 | .str,.sl 1 false 1 true,.c (.v (.string s))=>K (.t site m.clk (O.ssz s)) (m.new site fun v=>.arr v 1 (O.ofb s) none true)
 | .sl 1 false 1 true,.str,x=>viewO O 1 m x fun es=>O.tob es fun s=>K (.c (.v (.string s))) m
 | _,_,_=>False
def rdA (agg:Bool) (s:Nat) (cs:List AV) (K:AV→Prop):Prop:=match agg with
 | true=>need (Nat.ble s cs.length) fun _=>K (.agg (cs.take s))
 | false=>match cs with | x :: _=>K x | []=>False
def loadO (agg:Bool) (s:Nat) (m:Mem) (x:AV) (K:KK):Prop:=match x with
 | .p id ver o=>match m.get id with
  | some (.blk v cs)=>need (Nat.beq v ver) fun _=>rdA agg s (cs.drop o) fun y=>K y m
  | _=>False
 | .c (.rp cs)=>rdA agg s (cs.map .c) fun y=>K y m
 | .tp id ver i o=>match m.get id with
  | some (.arr v _ es _ _)=>need (Nat.beq v ver) fun _=>O.nle (O.plus i 1) (O.len es)∧O.elem es i fun cs=>rdA agg s ((cs.drop o).map .c) fun y=>K y m
  | _=>False
 | _=>False
def w7k (s:Nat) (m:Mem) (x y:AV) (K:Mem→Prop):Prop:=match x with
 | .p id ver o=>match m.get id with
  | some (.blk v cs)=>need (Nat.beq v ver && y.cells.length.beq s && y.cells.all AV.solid && Nat.ble (o + s) cs.length && ((cs.drop o).take s).all (fun x=>!x.isDead)) fun _=>K (m.upd id (.blk v (putAt cs o y.cells)))
  | _=>False
 | .tp id ver i o=>z5l O m y.cells fun ys m=>match m.get id with
  | some (.arr v sz es cap pub)=>need (Nat.beq v ver && !pub && ys.length.beq s) fun _=>O.nle (O.plus i 1) (O.len es)∧O.nle (o + s) (O.width es i) ∧
    K (m.upd id (.arr v sz (O.setE es i o ys) cap pub))
  | _=>False
 | _=>False
def boxO (site:Nat) (m:Mem) (y:AV) (K:KK):Prop:=need (y.cells.all AV.solid) fun _=>K (.p site m.clk 0) (m.new site fun v=>.blk v y.cells)
def z5n (site esz:Nat) (zero:List CV) (len:Nat) (parts:List (Nat × AV)) (m:Mem) (K:KK):Prop:=need (Nat.ble (len * esz) 16777216) fun _ =>
 match fillA (fun i=>some (i * esz,esz)) ((repL len zero).map .c) parts with
 | some cs=>z5l O m cs fun xs m=>K (.t site m.clk len) (m.new site fun v=>.arr v esz (z5e esz len xs) (some len) false)
 | none=>False
def z9q (site esz ebytes:Nat) (zero:List CV) (m:Mem) (l c:AV) (K:KK):Prop:=match l,c with
 | .c (.v (.int _ l)),.c (.v (.int _ c))=>O.ile 0 l∧O.ile l c∧O.ile (O.itimes c ebytes) 70368744177664 ∧
   K (.t site m.clk (O.toN l)) (m.new site fun v=>.arr v esz (O.rep (O.toN l) zero) (some (O.toN c)) false)
 | _,_=>False
def w1g (k:TK) (m:Mem) (x:AV) (lo hi mx:Option AV) (K:KK):Prop:=match k,x with
 | .str,.c (.v (.string s))=>need mx.isNone fun _=>bnd 0 lo fun l=>bnd (O.ssz s) hi fun h=>O.ile 0 l∧O.ile l h∧O.ile h (O.ssz s)∧K (.c (.v (.string (O.sext s (O.toN l) (O.toN h))))) m
 | .sl esz _ _ _,.c (.sl sz es sp)=>need (Nat.beq sz esz) fun _=>bnd 0 lo fun l=>bnd (O.len es) hi fun h=>match mx with
  | none=>O.ile 0 l∧O.ile l h∧match sp with
   | some sp=>O.ile h (O.plus (O.len es) (O.len sp))∧K (.c (.sl sz (O.drop (O.toN l) (O.take (O.toN h) (O.app es sp))) (some (O.drop (O.toN h) (O.app es sp))))) m
   | none=>O.ile h (O.len es)∧K (.c (.sl sz (O.drop (O.toN l) (O.take (O.toN h) es)) none)) m
  | some mx=>need hi.isSome fun _=>bnd 0 (some mx) fun c=>O.ile 0 l∧O.ile l h∧O.ile h c∧O.ile c (O.len es) ∧
    K (.c (.sl sz (O.drop (O.toN l) (O.take (O.toN h) es)) (some (O.drop (O.toN h) (O.take (O.toN c) es))))) m
 | .sl esz _ _ _,.t id ver n=>match m.get id with
  | some (.arr v sz es cap _)=>need (Nat.beq v ver && Nat.beq sz esz && mx.isNone) fun _=>O.nle n (O.len es)∧bnd n hi fun h=>match lo with
   | none=>O.ile 0 h∧O.hiOk cap.isSome h n (O.len es)∧K (.t id ver (O.toN h)) m
   | some _=>bnd 0 lo fun l=>O.ile 0 l∧O.ile l h∧O.ile h n∧K (.c (.sl sz (O.drop (O.toN l) (O.take (O.toN h) es)) none)) (m.upd id (.arr v sz es cap true))
  | _=>False
 | _,_=>False
def z3p (lit:Bool) (k:TK) (m:Mem) (x i:AV) (K:KK):Prop:=match i with
 | .c (.v (.int _ i))=>match k,x with
  | .ar n esz _,.p id ver o=>match lit with
   | true=>need (Nat.ble 2 n && decide (0≤i) && decide (i < n)) fun _=>K (.p id ver (o + i.toNat * esz)) m
   | false=>need (Nat.ble 2 n) fun _=>O.ile 0 i∧O.ilt i n∧O.nat (O.toN i) n fun j=>K (.p id ver (o + j * esz)) m
  | .ar n esz _,.c (.rp cs)=>match lit with
   | true=>need (Nat.ble 2 n && decide (0≤i) && decide (i < n)) fun _=>K (.c (.rp (cs.drop (i.toNat * esz)))) m
   | false=>need (Nat.ble 2 n) fun _=>O.ile 0 i∧O.ilt i n∧O.sub cs (O.toN i) esz fun cs=>K (.c (.rp cs)) m
  | .sl esz _ _ _,.c (.sl sz es _)=>need (Nat.beq sz esz) fun _=>O.ile 0 i∧O.ilt i (O.len es)∧O.elem es (O.toN i) fun cs=>K (.c (.rp cs)) m
  | .sl esz _ _ _,.t id ver n=>match m.get id with
   | some (.arr v sz es _ _)=>need (Nat.beq v ver && Nat.beq sz esz) fun _=>O.nle n (O.len es)∧O.ile 0 i∧O.ilt i n∧K (.tp id ver (O.toN i) 0) m
   | _=>False
  | _,_=>False
 | _=>False
def w5q (lit:Bool) (k:TK) (m:Mem) (x i:AV) (K:KK):Prop:=match i with
 | .c (.v (.int _ i))=>match k,x with
  | .str,.c (.v (.string s))=>O.ile 0 i∧O.ilt i (O.ssz s)∧K (.c (.v (.int .u8 (O.sget s (O.toN i))))) m
  | .ar n esz eagg,.agg cs=>match lit with
   | true=>need (decide (0≤i) && decide (i < n)) fun _=>rdA eagg esz (cs.drop (i.toNat * esz)) fun y=>K y m
   | false=>O.ile 0 i∧O.ilt i n∧O.nat (O.toN i) n fun j=>rdA eagg esz (cs.drop (j * esz)) fun y=>K y m
  | _,_=>False
 | _=>False
def w5v (f:Nat × Nat × Bool) (m:Mem) (x:AV) (K:KK):Prop:=match x with
 | .agg cs=>rdA f.2.2 f.2.1 (cs.drop f.1) fun y=>K y m
 | _=>False
def lenO (k:TK) (m:Mem) (x:AV) (K:KK):Prop:=match k,x with
 | .str,.c (.v (.string s))=>K (.c (.v (.int .i64 (O.toI (O.ssz s))))) m
 | .ar n _ _,_=>K (.c (.v (.int .i64 n))) m
 | .sl _ _ _ _,.c (.sl _ es _)=>K (.c (.v (.int .i64 (O.toI (O.len es))))) m
 | .sl _ _ _ _,.t _ _ n=>K (.c (.v (.int .i64 (O.toI n)))) m
 | _,_=>False
def capO (k:TK) (m:Mem) (x:AV) (K:KK):Prop:=match k,x with
 | .sl _ _ _ _,.c (.sl _ es (some sp))=>K (.c (.v (.int .i64 (O.toI (O.plus (O.len es) (O.len sp)))))) m
 | .sl _ _ _ _,.t id ver _=>match m.get id with
  | some (.arr v _ _ (some c) _)=>need (Nat.beq v ver) fun _=>K (.c (.v (.int .i64 (O.toI c)))) m
  | _=>False
 | _,_=>False
def w0p (mx:Bool) (m:Mem):List AV→KK→Prop
 | [.c (.v (.int k a)),.c (.v (.int k' b))],K=>need (decide (k=k')) fun _=>K (.c (.v (.int k (O.least mx a b)))) m
 | _,_=>False
def srcO (esz:Nat) (m:Mem) (x:AV) (K:EL→Prop):Prop:=match x with
 | .c (.v (.string s))=>need (Nat.beq esz 1) fun _=>K (O.ofb s)
 | x=>viewO O esz m x fun es=>K es
def w0y (site esz ebytes:Nat) (m:Mem) (s x:AV) (K:KK):Prop:=srcO O esz m x fun ns=>match s with
 | .c (.sl sz es (some []))=>need (Nat.beq sz esz) fun _=>O.nle (O.times (O.plus (O.len es) (O.len ns)) ebytes) 35184372088832 ∧
   O.emp ns (fun _=>K s m) (fun _=>K (.t site m.clk (O.len (O.app es ns))) (m.new site fun v=>.arr v esz (O.app es ns) none false))
 | .t id ver n=>match m.get id with
  | some (.arr v sz es _ pub)=>need (Nat.beq v ver && Nat.beq sz esz) fun _=>O.neq n (O.len es)∧O.nle (O.times (O.plus (O.len es) (O.len ns)) ebytes) 35184372088832 ∧
    K (.t id m.clk (O.len (O.app es ns))) ((m.del id).new id fun v=>.arr v sz (O.app es ns) none pub)
  | _=>False
 | _=>False
def copyO (esz:Nat) (m:Mem) (d x:AV) (K:KK):Prop:=srcO O esz m x fun ns=>match d with
 | .t id ver n=>match m.get id with
  | some (.arr v sz es cap false)=>need (Nat.beq v ver && Nat.beq sz esz) fun _=>O.nle n (O.len es) ∧
    K (.c (.v (.int .i64 (O.toI (O.least2 (O.len ns) n))))) (m.upd id (.arr v sz (O.over ns es (O.least2 (O.len ns) n)) cap false))
  | _=>False
 | _=>False
def packO:Nat→Mem→AV→(OV→Mem→Prop)→Prop
 | 0,_,_,_=>False
 | k + 1,m,x,K=>match x with
  | .c x=>K (.c x) m
  | .t id ver n=>match m.get id with
   | some (.arr v sz es cap pub)=>need (Nat.beq v ver) fun _=>O.nle n (O.len es)∧K (.arr sz es cap pub n) (m.del id)
   | _=>False
  | .p id ver 0=>match m.get id with
   | some (.blk v cs)=>need (Nat.beq v ver) fun _=>z2u (packO k) (m.del id) cs fun os m=>K (.ptr os) m
   | _=>False
  | .agg cs=>z2u (packO k) m cs fun os m=>K (.agg os) m
  | .tup cs=>z2u (packO k) m cs fun os m=>K (.tup os) m
  | _=>False
def shutO (m:Mem) (x:AV) (K:OV→Mem→Prop):Prop:=match x with
 | .agg cs=>z5l O m cs fun xs m=>K (.agg (xs.map .c)) m
 | x=>z8s O m x fun y m=>K (.c y) m
def argO (md:Mode) (m:Mem) (x:AV) (K:OV→Mem→Prop):Prop:=match md with
 | .shut=>shutO O m x K
 | .keep=>match x with | .c y=>K (.c y) m | _=>False
 | .own=>packO O depth m x K
 | .ref s=>match x with
  | .p id ver o=>match m.get id with
   | some (.blk v cs)=>need (Nat.beq v ver && Nat.ble (o + s) cs.length && ((cs.drop o).take s).all (fun x=>!x.isDead)) fun _=>z2u (packO O depth) (m.upd id (.blk v (putAt cs o (List.replicate s .dead)))) ((cs.drop o).take s) fun os m=>K (.ptr os) m
   | _=>False
  | _=>False
def argsO (m:Mem):List Mode→List AV→(List OV→Mem→Prop)→Prop
 | [],[],K=>K [] m
 | md :: mds,x :: xs,K=>argO O md m x fun o m=>argsO m mds xs fun os m=>K (o :: os) m
 | _,_,_=>False
def backO (id:Nat) (m:Mem):List Mode→List AV→List OV→(Nat→Mem→Prop)→Prop
 | [],[],[],K=>K id m
 | md :: mds,x :: xs,o :: l,K=>match md with
  | .ref s=>match x,o with
   | .p i ver o,.ptr os=>match (z0w (z1b depth) (1000000 * (i + 1)) m os).2.2.get i with
    | some (.blk v cs)=>need (os.length.beq s && Nat.beq v ver && Nat.ble (o + s) cs.length) fun _=>backO id ((z0w (z1b depth) (1000000 * (i + 1)) m os).2.2.upd i (.blk v (putAt cs o (z0w (z1b depth) (1000000 * (i + 1)) m os).1))) mds xs l K
    | _=>False
   | _,_=>False
  | _=>backO id m mds xs l K
 | _,_,_,_=>False
def evAc (f:Unit→Nat):Value→AV
 | .slice none 0 0=>.c (.sl (f ()) [] (some []))
 | v=>if z9g v then .c (.v v) else .dead
def evA (A:Nat→TI) (G:Glob) (tm:List AV) (ty:Nat):Operand→AV
 | .tmp t=>tm.getD t .dead
 | .const v=>evAc (fun _=>match (A ty).k with | .sl e _ _ _=>e | _=>0) v
 | .global g=>match G g with | some cs=>.c (.rp cs) | none=>.dead
 | .func f=>.c (.v (.func (.func f) #[] #[]))
def evLA (A:Nat→TI) (G:Glob) (tm:List AV):List Operand→List TypeId→List AV
 | [],_=>[]
 | x :: xs,tys=>evA A G tm (tys.headD 0) x :: evLA A G tm xs tys.tail
def z4y (A:Nat→TI) (site:Nat) (m:Mem) (b:Builtin) (tys:List TypeId) (args:List AV) (K:KK):Prop:=match b,args,tys with
 | .len,[x],[t]=>lenO O (A t).k m x K
 | .cap,[x],[t]=>capO O (A t).k m x K
 | .min,l,_=>w0p O false m l K
 | .max,l,_=>w0p O true m l K
 | .append,[s,x],[t,t2]=>match (A t).k,(A t2).k with
  | .sl esz _ ebytes _,.sl _ _ _ _=>w0y O site esz ebytes m s x K
  | .sl esz _ ebytes _,.str=>w0y O site esz ebytes m s x K
  | _,_=>False
 | .copy,[d,x],[t,_]=>match (A t).k with
  | .sl esz _ _ _=>copyO O esz m d x K
  | _=>False
 | _,_,_=>False
def isLit:Operand→Bool | .const _=>true | _=>false
def opO (A:Nat→TI) (G:Glob) (tm:List AV) (o:Oper) (m:Mem) (K:KK):Prop:=match o.op with
 | .move x | .assign x=>K (evA A G tm o.type x) m
 | .pick c a b=>brO O (evA A G tm 0 c) (fun _=>K (evA A G tm o.type a) m) (fun _=>K (evA A G tm o.type b) m)
 | .alloc e=>match (A e).size with | 0=>False | _ + 1=>k0a (z5r o.dst) (A e).zero m K
 | .box e x=>boxO (z5r o.dst) m (evA A G tm e x) K
 | .build t ps=>match (A t).k with
  | .st fs=>z2n (z5f fs) (A t).zero (ps.toList.map fun p=>(p.1,evA A G tm 0 p.2)) m K
  | .ar _ esz _=>z2n (fun i=>some (i * esz,esz)) (A t).zero (ps.toList.map fun p=>(p.1,evA A G tm 0 p.2)) m K
  | _=>False
 | .buildSlice t len ps=>match (A t).k with
  | .sl esz _ _ _=>z5n O (z5r o.dst) esz (A t).ezero len (ps.toList.map fun p=>(p.1,evA A G tm 0 p.2)) m K
  | _=>False
 | .load t a=>match (A t).size with | 0=>False | s + 1=>loadO O (A t).agg (s + 1) m (evA A G tm 0 a) K
 | .store t a x=>match (A t).size with | 0=>False | s + 1=>w7k O (s + 1) m (evA A G tm 0 a) (evA A G tm t x) fun m=>K .dead m
 | .nilCheck x=>z1m m (evA A G tm 0 x) K
 | .binOp op t x y _=>match aggs (evA A G tm t x) (evA A G tm t y) with
  | some p=>eqO O op (A t) m p.1 p.2 K
  | none=>binO O op (A t).k m (evA A G tm t x) (evA A G tm t y) K
 | .unOp op _ x=>unO O op m (evA A G tm 0 x) K
 | .convert s d x=>convO O (A s).k (A d).k (z5r o.dst) m (evA A G tm s x) K
 | .makeSlice t l c=>match (A t).k with
  | .sl esz _ ebytes _=>z9q O (z5r o.dst) esz ebytes (A t).ezero m (evA A G tm 0 l) (evA A G tm 0 c) K
  | _=>False
 | .slice t x lo hi mx=>w1g O (A t).k m (evA A G tm t x) (lo.map (evA A G tm 0)) (hi.map (evA A G tm 0)) (mx.map (evA A G tm 0)) K
 | .fieldAddr s x f=>match (A s).k with
  | .st fs=>match fs[f]? with
   | some (off,_ + 1,_)=>z1j off m (evA A G tm 0 x) K
   | some (_,0,_)=>False
   | none=>False
  | _=>False
 | .field t x f=>match (A t).k with
  | .st fs=>match fs[f]? with
   | some f=>w5v f m (evA A G tm 0 x) K
   | none=>False
  | _=>False
 | .indexAddr t x i=>z3p O (isLit i) (A t).k m (evA A G tm t x) (evA A G tm 0 i) K
 | .index t x i=>w5q O (isLit i) (A t).k m (evA A G tm t x) (evA A G tm 0 i) K
 | .extract x i=>z3h i m (evA A G tm 0 x) K
 | .call c=>match c.callee with
  | .builtin b=>z4y O A (z5r o.dst) m b c.argTypes.toList (evLA A G tm c.args.toList c.argTypes.toList) K
  | .value f=>match evA A G tm 0 f with
   | .c (.v (.func (.func g) first captured))=>need (first.isEmpty && captured.isEmpty) fun _=>O.call (z5r o.dst) m g (evLA A G tm c.args.toList c.argTypes.toList) K
   | _=>False
  | _=>False
 | _=>False
def z8m (all:List Oper) (tm:List AV) (g:Option (Nat × Bool)) (go skip:Unit→Prop):Prop:=match g with
 | none=>go ()
 | some (j,want)=>match (all[j]?).bind (·.dst) with
  | some d=>match z6d (tm.getD d .dead) with
   | true=>skip ()
   | false=>match want with
    | true=>brO O (tm.getD d .dead) go skip
    | false=>brO O (tm.getD d .dead) skip go
  | none=>False
def opsO (A:Nat→TI) (G:Glob) (all:List Oper):List Oper→List AV→Mem→(List AV→Mem→Prop)→Prop
 | [],tm,m,K=>K tm m
 | o :: r,tm,m,K=>match mvT o tm with
  | none=>z8m O all tm o.guard (fun _=>opO O A G tm o m fun v m=>opsO A G all r (setO tm o.dst v) m K) (fun _=>opsO A G all r (setO tm o.dst skipA) m K)
  | some s=>O.alt (fun _=>opO O A G tm o m fun v m=>opsO A G all r (setO tm o.dst v) m K)
    (fun _=>z8s O m (tm.getD s .dead) fun y m=>opsO A G all r (setO (setO tm (some s) (.c y)) o.dst (tm.getD s .dead)) m K)
def w5r (A:Nat→TI) (G:Glob) (wr:List Nat) (tm:List AV) (o:Oper) (m:Mem) (K:AV→Prop):Prop:=match o.op with
 | .move x | .assign x=>K (evA A G tm o.type x)
 | .pick c a b=>brO O (evA A G tm 0 c) (fun _=>K (evA A G tm o.type a)) (fun _=>K (evA A G tm o.type b))
 | .nilCheck x=>z1m m (evA A G tm 0 x) fun v _=>K v
 | .fieldAddr s x f=>match (A s).k with
  | .st fs=>match fs[f]? with
   | some (off,_ + 1,_)=>z1j off m (evA A G tm 0 x) fun v _=>K v
   | some (_,0,_)=>False
   | none=>False
  | _=>False
 | .field t x f=>match (A t).k with
  | .st fs=>match fs[f]? with
   | some f=>w5v f m (evA A G tm 0 x) fun v _=>K v
   | none=>False
  | _=>False
 | .extract x i=>z3h i m (evA A G tm 0 x) fun v _=>K v
 | .binOp op t x y _=>match aggs (evA A G tm t x) (evA A G tm t y) with
  | some p=>eqO O op (A t) m p.1 p.2 fun v _=>K v
  | none=>binO O op (A t).k m (evA A G tm t x) (evA A G tm t y) fun v _=>K v
 | .unOp op _ x=>unO O op m (evA A G tm 0 x) fun v _=>K v
 | .load t a=>match (A t).size with
  | 0=>False
  | s + 1=>match evA A G tm 0 a with
   | .p id ver o=>need (!wr.contains id) fun _=>loadO O (A t).agg (s + 1) m (.p id ver o) fun v _=>K v
   | .tp id ver i o=>need (!wr.contains id) fun _=>loadO O (A t).agg (s + 1) m (.tp id ver i o) fun v _=>K v
   | .c x=>loadO O (A t).agg (s + 1) m (.c x) fun v _=>K v
   | _=>False
 | .indexAddr t x i=>match evA A G tm t x with
  | .t id ver n=>need (!wr.contains id) fun _=>z3p O (isLit i) (A t).k m (.t id ver n) (evA A G tm 0 i) fun v _=>K v
  | x=>z3p O (isLit i) (A t).k m x (evA A G tm 0 i) fun v _=>K v
 | .index t x i=>w5q O (isLit i) (A t).k m (evA A G tm t x) (evA A G tm 0 i) fun v _=>K v
 | .convert s d x=>match (A d).k,evA A G tm s x with
  | .int k,.c x=>convO O (A s).k (.int k) 0 m (.c x) fun v _=>K v
  | .str,.c x=>convO O (A s).k .str 0 m (.c x) fun v _=>K v
  | .str,.t id ver n=>need (!wr.contains id) fun _=>convO O (A s).k .str 0 m (.t id ver n) fun v _=>K v
  | _,_=>False
 | .slice t x lo hi mx=>match evA A G tm t x with
  | .c x=>w1g O (A t).k m (.c x) (lo.map (evA A G tm 0)) (hi.map (evA A G tm 0)) (mx.map (evA A G tm 0)) fun v _=>K v
  | .t id ver n=>need (lo.isNone && !wr.contains id) fun _=>w1g O (A t).k m (.t id ver n) none (hi.map (evA A G tm 0)) (mx.map (evA A G tm 0)) fun v _=>K v
  | _=>False
 | .call c=>match c.callee with
  | .builtin .len=>z4y O A 0 m .len c.argTypes.toList (evLA A G tm c.args.toList c.argTypes.toList) fun v _=>K v
  | .builtin .min=>z4y O A 0 m .min c.argTypes.toList (evLA A G tm c.args.toList c.argTypes.toList) fun v _=>K v
  | .builtin .max=>z4y O A 0 m .max c.argTypes.toList (evLA A G tm c.args.toList c.argTypes.toList) fun v _=>K v
  | _=>False
 | .build t ps=>match (A t).k with
  | .st fs=>z2n (z5f fs) (A t).zero (ps.toList.map fun p=>(p.1,evA A G tm 0 p.2)) m fun v _=>K v
  | .ar _ esz _=>z2n (fun i=>some (i * esz,esz)) (A t).zero (ps.toList.map fun p=>(p.1,evA A G tm 0 p.2)) m fun v _=>K v
  | _=>False
 | _=>False
def planO (A:Nat→TI) (G:Glob) (wr:List (List Nat)) (all:List Oper):List (Nat × Bool × Bool)→List AV→Mem→(List AV→Mem→Prop)→Prop
 | [],tm,m,K=>K tm m
 | (i,h,lb) :: r,tm,m,K=>match all[i]? with
  | none=>False
  | some o=>match h with
   | true=>z8m O all tm o.guard (fun _=>w5r O A G (wr.headD []) tm o m fun v=>planO A G wr all r (setO tm o.dst v) m K) (fun _=>planO A G wr all r (setO tm o.dst skipA) m K)
   | false=>z8m O all tm o.guard (fun _=>opO O A G tm o m fun v m'=>match lb with
    | true=>planO A G (dnW wr) all r (setO tm o.dst v) m' K
    | false=>O.agree (wr.headD []) m m'∧planO A G (dnW wr) all r (setO tm o.dst v) m' K) (fun _=>planO A G (dnW wr) all r (setO tm o.dst skipA) m K)
def nhO (A:Nat→TI) (G:Glob) (wr:List Nat) (all:List Oper) (o:Oper) (lb:Bool) (tm:List AV) (m:Mem) (K:List AV→Mem→Prop):Prop :=
 z8m O all tm o.guard (fun _=>opO O A G tm o m fun v m'=>match lb with
  | true=>K (setO tm o.dst v) m'
  | false=>O.agree wr m m'∧K (setO tm o.dst v) m') (fun _=>K (setO tm o.dst skipA) m)
def z5b (A:Nat→TI) (G:Glob) (all:List Oper):List (List Nat)→PL→List AV→Mem→(List AV→Mem→Prop)→Prop
 | _,.nil,tm,m,K=>K tm m
 | wr,.op i h lb r,tm,m,K=>match all[i]? with
  | none=>False
  | some o=>match h with
   | true=>z8m O all tm o.guard (fun _=>w5r O A G (wr.headD []) tm o m fun v=>z5b A G all wr r (setO tm o.dst v) m K) (fun _=>z5b A G all wr r (setO tm o.dst skipA) m K)
   | false=>nhO O A G (wr.headD []) all o lb tm m fun tm m=>z5b A G all (dnW wr) r tm m K
 | wr,.alt i j li lj a b,tm,m,K=>match all[i]?,all[j]? with
  | some oi,some oj=>nhO O A G (wr.headD []) all oi li tm m (fun tm m=>z5b A G all wr a tm m K)∧nhO O A G (wr.headD []) all oj lj tm m (fun tm m=>z5b A G all wr b tm m K)
  | _,_=>False
def thenK (N R:List AV→Mem→Prop) (X:Nat→List AV→Mem→Prop):KX:=fun e tm m=>match e with | .norm=>N tm m | .ret=>R tm m | .ex i=>X i tm m
def execO (A:Nat→TI) (G:Glob):Code→List AV→Mem→KX→Prop
 | .skip,tm,m,K=>K .norm tm m
 | .label _,tm,m,K=>K .norm tm m
 | .region _ ops draw,tm,m,K=>match draw,hasG ops.toList with
  | false,false=>opsO O A G ops.toList ops.toList tm m (K .norm)
  | false,true=>O.reg ops tm m (K .norm)
  | true,_=>O.drawn ops tm m (K .norm)
 | .seq a b,tm,m,K=>execO A G a tm m fun e tm m=>match e with | .norm=>execO A G b tm m K | .ret=>K .ret tm m | .ex i=>K (.ex i) tm m
 | .cond c a b,tm,m,K=>brO O (evA A G tm 0 c) (fun _=>execO A G a tm m (thenK (O.join (K .norm)) (K .ret) (fun i=>K (.ex i))))
   (fun _=>execO A G b tm m (thenK (O.join (K .norm)) (K .ret) (fun i=>K (.ex i))))
 | .block id c,tm,m,K=>execO A G c tm m fun e tm m=>match e with | .norm=>K .norm tm m | .ret=>K .ret tm m | .ex i=>match Nat.beq i id with | true=>K .norm tm m | false=>K (.ex i) tm m
 | .loop c,tm,m,K=>O.loop c tm m K
 | .exit id,tm,m,K=>K (.ex id) tm m
 | .ret,tm,m,K=>K .ret tm m
 | _,_,_,_=>False
def z3w (A:Nat→TI) (tm:List AV) (m:Mem):List ResultVar→(List AV→Prop)→Prop
 | [],K=>K []
 | .tmp t :: r,K=>z3w A tm m r fun l=>K (tm.getD t .dead :: l)
 | .cell a t :: r,K=>match (A t).size with | 0=>False | s + 1=>loadO O (A t).agg (s + 1) m (tm.getD a .dead) fun x _=>z3w A tm m r fun l=>K (x :: l)
def outsO (m:Mem):List OV→List AV→(List OV→Mem→Prop)→Prop
 | [],_,K=>K [] m
 | o :: os,xs,K=>match o with
  | .ptr _=>match xs with
   | .p id ver 0 :: xs=>match m.get id with
    | some (.blk v cs)=>need (Nat.beq v ver) fun _=>z2u (packO O depth) (m.del id) cs fun ps m=>outsO m os xs fun l m=>K (.ptr ps :: l) m
    | _=>False
   | _=>False
  | o=>outsO m os xs.tail fun l m=>K (o :: l) m
def w7o (m:Mem) (x:AV) (K:AV→Mem→Prop):Prop:=match x with
 | .agg cs=>z5l O m cs fun xs m=>K (.agg (xs.map .c)) m
 | .c x=>K (.c (normC x)) m
 | .t id ver n=>z8s O m (.t id ver n) fun y m=>K (.c y) m
 | x=>K x m
def w0f (m:Mem):List AV→(List AV→Mem→Prop)→Prop
 | [],K=>K [] m
 | x :: xs,K=>w7o O m x fun y m=>w0f m xs fun ys m=>K (y :: ys) m
def w3t (sh:Bool) (m:Mem) (xs:List AV) (K:List AV→Mem→Prop):Prop:=match sh with
 | true=>w0f O m xs K
 | false=>K xs m
def FnO (A:Nat→TI) (G:Glob) (fn:Func) (body:Code) (args:List OV) (Q:OV→List OV→Prop) (sh:Bool):Prop :=
 execO O A G body ((z0w (z1b depth) 0 ⟨[],0⟩ args).1++List.replicate (fn.ntmps - args.length) .dead) (z0w (z1b depth) 0 ⟨[],0⟩ args).2.2 (thenK
  (fun tm m=>z3w O A tm m fn.results.toList fun rs=>w3t O sh m rs fun rs m=>packO O depth m (oneOf rs) fun r m=>outsO O m args (z0w (z1b depth) 0 ⟨[],0⟩ args).1 fun bs _=>Q r bs)
  (fun tm m=>z3w O A tm m fn.results.toList fun rs=>w3t O sh m rs fun rs m=>packO O depth m (oneOf rs) fun r m=>outsO O m args (z0w (z1b depth) 0 ⟨[],0⟩ args).1 fun bs _=>Q r bs)
  (fun _ _ _=>False))
end
end Go.Proofs.Ythncmjlcmlmnmaa.V
namespace Go.Proofs.Ythncmjlcmlmnmaa.V
open Go
section
variable {B:Nat} {T:Tab} {G:Glob} {D:Spec}
theorem z0y (b:Bool) (A:Unit→Prop):need b A=(b=true∧A ()):=by cases b<;>simp [need]
theorem z1k (a b:Nat):(Nat.beq a b=true)=(a=b):=by simp
theorem w4q (x:AV) (A A':Unit→Prop):brO (std B T G D) x A A'=condB x (A ()) (A' ()):=rfl
theorem w7y (ag:Bool) (s:Nat) (cs:List AV) (K:AV→Prop):rdA ag s cs K=readA ag s cs K:=by
 cases ag
 ·rfl
 ·simp [rdA,readA,z0y]
theorem z4x (m:Mem) (x:AV) (K:CV→Mem→Prop):z8s (std B T G D) m x K=z3a m x K:=by
 unfold z8s z3a;simp only [z0y,z1k];rfl
theorem z2z:∀ (l:List AV) (m:Mem) (K:List CV→Mem→Prop),z5l (std B T G D) m l K=z4h m l K
 | [],_,_=>rfl
 | a :: l,m,K=>by simp only [z5l,z4h,z4x,z2z l]
theorem w7r (op:BinOp) (x y:Value) (K:Value→Prop):sBinO (std B T G D) op x y K=sBin op x y K:=by
 cases x<;>cases y<;>first | rfl | (cases op<;>first | rfl | (simp only [sBinO,sBin,z0y,decide_eq_true_eq];rfl))
theorem w6b (op:BinOp) (k:TK) (m:Mem) (x y:AV) (K:KK):binO (std B T G D) op k m x y K=binW op k m x y K:=by
 unfold binO binW;simp only [w7r,z0y,Bool.or_eq_true];rfl
theorem w4o (c:Nat) (x y:AV):w9r (std B T G D) c x y=z9y c x y:=rfl
theorem z7d:∀ (cs:List Nat) (xs ys:List AV),z4c (std B T G D) cs xs ys=z1w cs xs ys
 | [],[],[]=>rfl
 | [],[],_ :: _=>rfl
 | [],_ :: _,_=>by unfold z4c z1w;rfl
 | _ :: _,[],_=>by unfold z4c z1w;rfl
 | _ :: _,_ :: _,[]=>by unfold z4c z1w;rfl
 | c :: cs,x :: xs,y :: ys=>by simp only [z4c,z1w,w4o,z7d cs xs ys];rfl
theorem w9g (op:BinOp) (ti:TI) (m:Mem) (xs ys:List AV) (K:KK):eqO (std B T G D) op ti m xs ys K=eqW op ti m xs ys K:=by
 unfold eqO eqW;simp only [z7d];rfl
theorem w7h (op:UnOp) (m:Mem) (x:AV) (K:KK):unO (std B T G D) op m x K=unW op m x K:=rfl
theorem w0z (esz:Nat) (m:Mem) (x:AV) (K:EL→Prop):viewO (std B T G D) esz m x K=viewS esz m x K:=by
 unfold viewO viewS;simp only [z0y,Bool.and_eq_true,z1k,and_assoc];rfl
theorem w3b (s d:TK) (site:Nat) (m:Mem) (x:AV) (K:KK):convO (std B T G D) s d site m x K=convW s d site m x K:=by
 unfold convO convW;simp only [w0z];rfl
theorem z8g (ag:Bool) (s:Nat) (m:Mem) (x:AV) (K:KK):loadO (std B T G D) ag s m x K=loadW ag s m x K:=by
 unfold loadO loadW;simp only [z0y,z1k,w7y];rfl
theorem k1d (site:Nat) (m:Mem) (y:AV) (K:KK):boxO site m y K=boxW site m y K:=by
 unfold boxO boxW;simp [z0y]
theorem w6g (s:Nat) (m:Mem) (x y:AV) (K:Mem→Prop):w7k (std B T G D) s m x y K=w1e s m x y K:=by
 unfold w7k w1e
 simp only [z2z,z0y,Bool.and_eq_true,z1k,List.all_eq_true,Bool.not_eq_true',and_assoc,Nat.ble_eq];rfl
theorem z8w (site esz:Nat) (z:List CV) (n:Nat) (ps:List (Nat × AV)) (m:Mem) (K:KK):z5n (std B T G D) site esz z n ps m K=z4d site esz z n ps m K:=by
 unfold z5n z4d;simp only [z2z,z0y,Nat.ble_eq];rfl
theorem z9a (site esz eb:Nat) (z:List CV) (m:Mem) (l c:AV) (K:KK):z9q (std B T G D) site esz eb z m l c K=z4v site esz eb z m l c K:=rfl
theorem z9h (k:TK) (m:Mem) (x:AV) (lo hi mx:Option AV) (K:KK):w1g (std B T G D) k m x lo hi mx K=z3d k m x lo hi mx K:=by
 unfold w1g z3d
 simp only [z0y,Bool.and_eq_true,z1k,and_assoc]
 have h:∀ (a b c:Prop),(a∧b∧c)=(b∧a∧c):=fun a b c=>propext (by constructor<;>rintro ⟨h1,h2,h3⟩<;>exact⟨h2,h1,h3⟩)
 conv=>lhs;simp only [h (mx.isNone=true)]
 rfl
theorem z5c (lit:Bool) (k:TK) (m:Mem) (x i:AV) (K:KK):z3p (std B T G D) lit k m x i K=z1e k m x i K:=by
 unfold z3p z1e
 cases lit<;>simp only [z0y,Bool.and_eq_true,decide_eq_true_eq,and_assoc,Nat.ble_eq,z1k]<;>rfl
theorem z9s (lit:Bool) (k:TK) (m:Mem) (x i:AV) (K:KK):w5q (std B T G D) lit k m x i K=z6e k m x i K:=by
 unfold w5q z6e
 cases lit<;>simp only [z0y,Bool.and_eq_true,decide_eq_true_eq,and_assoc,w7y]<;>rfl
theorem w2t (f:Nat × Nat × Bool) (m:Mem) (x:AV) (K:KK):w5v f m x K=z7b f m x K:=by
 unfold w5v z7b;simp only [w7y];rfl
theorem k0u (k:TK) (m:Mem) (x:AV) (K:KK):lenO (std B T G D) k m x K=lenW k m x K:=rfl
theorem k1c (k:TK) (m:Mem) (x:AV) (K:KK):capO (std B T G D) k m x K=capW k m x K:=by
 unfold capO capW;simp only [z0y,z1k];rfl
theorem w4b (b:Bool) (m:Mem) (l:List AV) (K:KK):w0p (std B T G D) b m l K=z2v b m l K:=by
 unfold w0p z2v;simp only [z0y,decide_eq_true_eq];rfl
theorem w5b (esz:Nat) (m:Mem) (x:AV) (K:EL→Prop):srcO (std B T G D) esz m x K=srcW esz m x K:=by
 unfold srcO srcW;simp only [z0y,z1k,w0z];rfl
theorem w4s (site esz eb:Nat) (m:Mem) (s x:AV) (K:KK):w0y (std B T G D) site esz eb m s x K=z6v site esz eb m s x K:=by
 have e:∀ es ns:EL,(std B T G D).len ((std B T G D).app es ns)=es.length + ns.length:=fun es ns=>List.length_append
 unfold w0y z6v;simp only [w5b,z0y,Bool.and_eq_true,z1k,and_assoc,e];rfl
theorem w9l (esz:Nat) (m:Mem) (d x:AV) (K:KK):copyO (std B T G D) esz m d x K=copyW esz m d x K:=by
 unfold copyO copyW;simp only [w5b,z0y,Bool.and_eq_true,z1k,and_assoc];rfl
theorem w5x (tm:List AV) (ty:Nat) (x:Operand):evA (fun t=>T.at t) G tm ty x=evO T G tm ty x:=by
 cases x<;>rfl
theorem w4h (tm:List AV):∀ (l:List Operand) (tys:List TypeId),evLA (fun t=>T.at t) G tm l tys=evL T G tm l tys
 | [],_=>rfl
 | x :: xs,tys=>by simp only [evLA,evL,w5x,w4h tm xs]
theorem z7f (site:Nat) (m:Mem) (b:Builtin) (tys:List TypeId) (args:List AV) (K:KK):z4y (std B T G D) (fun t=>T.at t) site m b tys args K=z1g T site m b tys args K:=by
 unfold z4y z1g;simp only [k0u,k1c,w4b,w4s,w9l];rfl
theorem w0n (tm:List AV) (o:Oper) (m:Mem) (K:KK):opO (std B T G D) (fun t=>T.at t) G tm o m K=opW T G D tm o m K:=by
 unfold opO opW
 dsimp only
 simp only [w5x,w4h,w4q,k1d,z8w,z8g,w6g,w6b,w9g,w7h,w3b,z9a,z9h,z5c,z9s,z7f,w2t,z0y,Bool.and_eq_true,Array.isEmpty_iff,and_assoc]
 rfl
theorem z3q (all:List Oper) (tm:List AV) (g:Option (Nat × Bool)) (go skip:Unit→Prop):z8m (std B T G D) all tm g go skip=z1v all tm g (go ()) (skip ()):=by
 rcases g with _ | ⟨j,want⟩
 ·rfl
 ·simp only [z8m,z1v]
  cases (all[j]?).bind (·.dst) with
  | none=>rfl
  | some d =>
   dsimp only
   cases z6d (tm.getD d .dead)
   ·cases want<;>rfl
   ·rfl
theorem z7m (all:List Oper):∀ (l:List Oper) (tm:List AV) (m:Mem) (K:List AV→Mem→Prop),opsO (std B T G D) (fun t=>T.at t) G all l tm m K=opsW T G D all l tm m K
 | [],_,_,_=>rfl
 | o :: r,tm,m,K=>by
  simp only [opsO,opsW]
  cases mvT o tm with
  | none=>simp only [z3q,w0n,z7m all r]
  | some s =>
   show (opO (std B T G D) (fun t=>T.at t) G tm o m _∨z8s (std B T G D) m _ _)=_
   simp only [w0n,z4x,z7m all r]
theorem z9t (wr:List Nat) (tm:List AV) (o:Oper) (m:Mem) (K:AV→Prop):w5r (std B T G D) (fun t=>T.at t) G wr tm o m K=z6g T G wr tm o m K:=by
 have hw:∀ id:Nat,(wr.contains id=false)=(id ∉ wr):=fun id=>by simp
 unfold w5r z6g
 dsimp only
 simp only [w5x,w4h,w4q,z8g,w6b,w9g,w7h,w3b,z9h,z5c,z9s,z7f,w2t,z0y,Bool.and_eq_true,Bool.not_eq_true',hw,and_assoc,Option.isNone_iff_eq_none]
 rfl
def w4f (all:List Oper) (l:List (Nat × Bool × Bool)):Bool:=l.all fun x=>x.2.1 || match all[x.1]? with | some o=>x.2.2 == z4f all o | none=>true
theorem w2b (all:List Oper):∀ (wr:List (List Nat)) (l:List (Nat × Bool × Bool)) (tm:List AV) (m:Mem) (K:List AV→Mem→Prop),w4f all l=true→planO (std B T G D) (fun t=>T.at t) G wr all l tm m K=planW T G D wr all (l.map fun x=>(x.1,x.2.1)) tm m K
 | _,[],_,_,_,_=>rfl
 | wr,(i,h,lb) :: r,tm,m,K,hf=>by
  simp only [w4f,List.all_cons,Bool.and_eq_true] at hf
  obtain⟨hf1,hf2⟩:=hf
  have ih:=fun wr tm m K=>w2b all wr r tm m K hf2
  simp only [planO,List.map_cons,planW]
  cases ho:all[i]? with
  | none=>rfl
  | some o =>
   cases h with
   | true=>simp only [z3q,z9t,ih,if_true]
   | false =>
    simp only [ho,Bool.false_or,beq_iff_eq] at hf1
    subst hf1
    simp only [z3q,w0n,ih,Bool.false_eq_true,if_false]
    congr 2;funext v m'
    cases z4f all o<;>simp [std]
theorem w4a (wr:List Nat) (ops:Array Oper) (i:Nat) (o:Oper) (ho:ops.toList[i]?=some o) (lb:Bool) (hl:w2j ops i lb=true) (tm:List AV) (m:Mem) (K:List AV→Mem→Prop):nhO (std B T G D) (fun t=>T.at t) G wr ops.toList o lb tm m K=nhW T G D wr ops.toList o tm m K:=by
 simp only [w2j,ho,beq_iff_eq] at hl
 subst hl
 unfold nhO nhW
 simp only [z3q,w0n]
 congr 2;funext v m'
 cases z4f ops.toList o<;>simp [std]
theorem z4u (ops:Array Oper):∀ (t:PL) (wr:List (List Nat)) (listed:Array Bool) (tm:List AV) (m:Mem) (K:List AV→Mem→Prop),z3c T ops listed t=true→z5b (std B T G D) (fun t=>T.at t) G ops.toList wr t tm m K=z3f T G D ops.toList wr t tm m K
 | .nil,_,_,_,_,_,_=>rfl
 | .op i h lb r,wr,listed,tm,m,K,ht=>by
  simp only [z3c,Bool.and_eq_true] at ht
  have ih:=fun wr tm m K=>z4u ops r wr _ tm m K ht.2
  simp only [z5b,z3f]
  cases ho:ops.toList[i]? with
  | none=>rfl
  | some o =>
   cases h with
   | true=>simp only [z3q,z9t,ih]
   | false =>
    have h1:=ht.1
    simp only [Bool.and_eq_true] at h1
    simp only [w4a _ _ _ _ ho _ h1.2,ih]
 | .alt i j li lj a b,wr,listed,tm,m,K,ht=>by
  simp only [z3c,Bool.and_eq_true] at ht
  obtain⟨⟨⟨⟨_,h1⟩,h2⟩,h3⟩,h4⟩:=ht
  have iha:=fun wr tm m K=>z4u ops a wr _ tm m K h3
  have ihb:=fun wr tm m K=>z4u ops b wr _ tm m K h4
  simp only [z5b,z3f]
  cases ho:ops.toList[i]? with
  | none=>rfl
  | some oi =>
   cases ho2:ops.toList[j]? with
   | none=>rfl
   | some oj=>simp only [w4a _ _ _ _ ho _ h1,w4a _ _ _ _ ho2 _ h2,iha,ihb]
theorem z2y:∀ (c:Code) (tm:List AV) (m:Mem) (K:KX),execO (std B T G D) (fun t=>T.at t) G c tm m K=execW B T G D c tm m K
 | .skip,_,_,_=>rfl
 | .label _,_,_,_=>rfl
 | .region _ ops draw,tm,m,K=>by
  cases draw
  ·cases h:hasG ops.toList
   ·simp only [execO,execW,z7m,h]
   ·simp only [execO,execW,h];rfl
  ·rfl
 | .seq a b,tm,m,K=>by simp only [execO,execW,z2y a,z2y b];rfl
 | .cond c a b,tm,m,K=>by
  simp only [execO,execW,z2y a,z2y b,w4q,w5x]
  have:(thenK ((std B T G D).join (K .norm)) (K .ret) fun i=>K (.ex i))=fun e tm m=>match e with | .norm=>Join B (K .norm) tm m | .ret=>K .ret tm m | .ex i=>K (.ex i) tm m:=by
   funext e tm m;cases e<;>rfl
  rw [this];rfl
 | .block id c,tm,m,K=>by
  simp only [execO,execW,z2y c]
  congr 1;funext e tm m
  cases e with
  | ex i =>
   dsimp only
   by_cases h:i=id
   ·rw [if_pos h,h];simp
   ·rw [if_neg h];rw [show Nat.beq i id=false from by cases hq:Nat.beq i id;rfl;exact absurd (Nat.eq_of_beq_eq_true hq) h]
  | _=>rfl
 | .loop c,_,_,_=>rfl
 | .exit _,_,_,_=>rfl
 | .ret,_,_,_=>rfl
 | .rangeFunc _ _ _ _,_,_,_=>rfl
 | .scope _,_,_,_=>rfl
 | .goto _,_,_,_=>rfl
 | .refuse _,_,_,_=>rfl
theorem z8a:∀ (n:Nat) (m:Mem) (x:AV) (K:OV→Mem→Prop),packO (std B T G D) n m x K=packW n m x K
 | 0,_,_,_=>rfl
 | n + 1,m,x,K=>by
  have:packO (std B T G D) n=packW n:=by funext m x K;exact z8a n m x K
  unfold packO packW;simp only [this,z0y,z1k];rfl
theorem w2d (n:Nat):packO (std B T G D) n=packW n:=by funext m x K;exact z8a n m x K
theorem w7n (m:Mem) (x:AV) (K:OV→Mem→Prop):shutO (std B T G D) m x K=shutW m x K:=by
 unfold shutO shutW;simp only [z2z,z4x];rfl
theorem k1e (md:Mode) (m:Mem) (x:AV) (K:OV→Mem→Prop):argO (std B T G D) md m x K=argW md m x K:=by
 have h:∀ l:List AV,(l.all (fun x=>!x.isDead)=true)=(∀ x ∈ l,x.isDead=false):=fun l=>by simp
 unfold argO argW;simp only [w7n,w2d,z0y,Bool.and_eq_true,z1k,Nat.ble_eq,h,and_assoc];rfl
theorem w3l:∀ (mds:List Mode) (l:List AV) (m:Mem) (K:List OV→Mem→Prop),argsO (std B T G D) m mds l K=argsW m mds l K
 | [],[],_,_=>rfl
 | [],_ :: _,_,_=>rfl
 | _ :: _,[],_,_=>rfl
 | md :: mds,a :: l,m,K=>by simp only [argsO,argsW,k1e,w3l mds l]
theorem z6k (id:Nat):∀ (mds:List Mode) (l:List AV) (os:List OV) (m:Mem) (K:Nat→Mem→Prop),backO id m mds l os K→backW id m mds l os K
 | [],[],[],_,_=>fun h=>h
 | [],[],_ :: _,_,_=>fun h=>h.elim
 | [],_ :: _,_,_,_=>fun h=>h.elim
 | md :: _,[],_,_,_=>fun h=>h.elim
 | md :: _,_ :: _,[],_,_=>fun h=>h.elim
 | md :: mds,x :: xs,o :: l,m,K=>fun h=>by
  unfold backO at h
  cases md with
  | ref s =>
   dsimp only at h
   split at h
   ·rename_i i ver off os
    split at h
    ·rename_i v cs hg
     simp only [z0y,Bool.and_eq_true,z1k,Nat.ble_eq] at h
     obtain⟨⟨⟨h1,h2⟩,h3⟩,h⟩:=h
     unfold backW
     refine⟨by simpa using h1,?_⟩
     rw [hg]
     exact⟨h2,h3,z6k id mds xs l _ K h⟩
    ·exact h.elim
   ·exact h.elim
  | shut=>unfold backW;exact z6k id mds xs l m K h
  | keep=>unfold backW;exact z6k id mds xs l m K h
  | own=>unfold backW;exact z6k id mds xs l m K h
theorem z4l (tm:List AV) (m:Mem):∀ (l:List ResultVar) (K:List AV→Prop),z3w (std B T G D) (fun t=>T.at t) tm m l K=z2h T tm m l K
 | [],_=>rfl
 | .tmp t :: r,K=>by simp only [z3w,z2h,z4l tm m r]
 | .cell a t :: r,K=>by simp only [z3w,z2h,z4l tm m r,z8g];rfl
theorem z8b:∀ (os:List OV) (xs:List AV) (m:Mem) (K:List OV→Mem→Prop),outsO (std B T G D) m os xs K=outsW m os xs K
 | [],_,_,_=>by simp only [outsO,outsW]
 | o :: os,xs,m,K=>by
  cases o with
  | ptr cs =>
   rcases xs with _ | ⟨x,xs⟩
   ·simp only [outsO,outsW]
   ·cases x with
    | p id ver off =>
     cases off with
     | zero =>
      simp only [outsO,outsW]
      cases m.get id with
      | none=>rfl
      | some ob=>cases ob<;>first | rfl | (simp only [z0y,z1k,w2d,z8b os])
     | succ n=>simp only [outsO,outsW]
    | _=>simp only [outsO,outsW]
  | _=>simp only [outsO,outsW,z8b os]
theorem w6m (m:Mem) (x:AV) (K:AV→Mem→Prop):w7o (std B T G D) m x K=shutA m x K:=by
 unfold w7o shutA;simp only [z2z,z4x];rfl
theorem z7u:∀ (l:List AV) (m:Mem) (K:List AV→Mem→Prop),w0f (std B T G D) m l K=w1i m l K
 | [],_,_=>rfl
 | x :: xs,m,K=>by simp only [w0f,w1i,w6m,z7u xs]
theorem w3s (sh:Bool) (m:Mem) (l:List AV) (K:List AV→Mem→Prop):w3t (std B T G D) sh m l K=w5c sh m l K:=by
 cases sh
 ·rfl
 ·exact z7u l m K
theorem k2w (fn:Func) (body:Code) (args:List OV) (Q:OV→List OV→Prop) (sh:Bool) (hB:(z0w (z1b depth) 0 ⟨[],0⟩ args).2.2.clk=B):FnO (std B T G D) (fun t=>T.at t) G fn body args Q sh=FnW T G D fn body args Q sh:=by
 subst hB
 unfold FnO FnW
 rw [z2y]
 simp only [z4l,w3s,z8a,z8b]
 congr 1
 funext e tm m
 cases e<;>rfl
end
end Go.Proofs.Ythncmjlcmlmnmaa.V
namespace Go.Proofs.Ythncmjlcmlmnmaa.V
open Go
def frame:Nat→Nat→List (Nat × AV)→List AV
 | _,0,_=>[]
 | i,n + 1,[]=>.dead :: frame (i + 1) n []
 | i,n + 1,(k,x) :: l=>match Nat.beq i k with | true=>x :: frame (i + 1) n l | false=>.dead :: frame (i + 1) n ((k,x) :: l)
section rules
variable {B:Nat} {T:Tab} {G:Glob} {D:Spec} {K:KX} {tm:List AV} {m:Mem} {O:Ops} (hO:O=std B T G D)
include hO
theorem br_of {v:Bool} {A B:Unit→Prop} (h1:v=true→A ()) (h2:v=false→B ()):O.br v A B:=by subst hO;exact⟨h1,h2⟩
theorem br_t {v:Bool} {A B:Unit→Prop} (h:v=true) (h1:A ()):O.br v A B:=by subst hO h;exact⟨fun _=>h1,fun q=>by simp at q⟩
theorem br_f {v:Bool} {A B:Unit→Prop} (h:v=false) (h1:B ()):O.br v A B:=by subst hO h;exact⟨fun q=>by simp at q,fun _=>h1⟩
omit hO in
def oppO:BinOp→BinOp
 | .eql=>.neq
 | .neq=>.eql
 | .lss=>.geq
 | .geq=>.lss
 | .leq=>.gtr
 | .gtr=>.leq
 | o=>o
theorem z2d (op op':BinOp) (hop:oppO op=op') (hc:(op == .eql || op == .neq || op == .lss || op == .geq || op == .leq || op == .gtr)=true) {a b:Int} {v v':Bool} (hv:(!v)=v') (h:O.cmp op a b=v):O.cmp op' a b=v':=by
 subst hO hop hv h
 show z0a (oppO op) a b=!z0a op a b
 cases op<;>first | (exact absurd hc (by decide)) | (simp only [oppO,z0a,bne,Bool.not_not];try rfl) | skip
 all_goals (by_cases h1:a < b<;>by_cases h2:b < a<;>simp [h1,h2]<;>omega)
theorem z0b {K:List AV→Mem→Prop} (h:K tm m):O.join K tm m:=by subst hO;exact .inl h
theorem z4r {K:List AV→Mem→Prop} (live ids caps:List Nat) (h:K (fgT B live ids tm m) (fgM B ids caps m)):O.join K tm m:=by subst hO;exact .inr ⟨live,ids,caps,h⟩
theorem k2p {A:Nat→TI} (hA:A=fun t=>T.at t) {v:Bool} {a b:Code} {tm₁ tm₂:List AV} {m₁ m₂:Mem} {N Rt:List AV→Mem→Prop} {X:Nat→List AV→Mem→Prop} (live ids caps:List Nat) (R:List AV→Mem→Prop)
  (h1:v=true→∀ L:List AV→Mem→Prop,(∀ tm m,R (fgT B live ids tm m) (fgM B ids caps m)→L tm m)→execO O A G a tm₁ m₁ (thenK L Rt X))
  (h2:v=false→∀ L:List AV→Mem→Prop,(∀ tm m,R (fgT B live ids tm m) (fgM B ids caps m)→L tm m)→execO O A G b tm₂ m₂ (thenK L Rt X))
  (h:∀ tm m,R tm m→N tm m) :
  O.br v (fun _=>execO O A G a tm₁ m₁ (thenK (O.join N) Rt X)) (fun _=>execO O A G b tm₂ m₂ (thenK (O.join N) Rt X)) :=
 br_of hO (fun hv=>h1 hv _ fun tm m hr=>z4r hO live ids caps (h _ _ hr)) (fun hv=>h2 hv _ fun tm m hr=>z4r hO live ids caps (h _ _ hr))
theorem alt_l {A A':Unit→Prop} (h:A ()):O.alt A A':=by subst hO;exact .inl h
theorem alt_r {A A':Unit→Prop} (h:A' ()):O.alt A A':=by subst hO;exact .inr h
theorem z0m {es:EL} {i:Nat} {K:List CV→Prop} (row:List CV) (h:es.getD i []=row) (hk:K row):O.elem es i K:=by subst hO h;exact hk
theorem z0o {es:EL} {K:EL→Prop} (h:K es):O.view (O.len es) es K:=by
 subst hO;refine⟨Nat.le_refl _,?_⟩;rw [show List.take ((std B T G D).len es) es=es from List.take_length];exact h
theorem z0s {n:Nat} {es:EL} {K:EL→Prop} (g:n≤es.length) (h:K (O.take n es)):O.view n es K:=by subst hO;exact⟨g,h⟩
theorem emp_of {es:EL} {A B:Unit→Prop} (h1:es=[]→A ()) (h2:es≠[]→B ()):O.emp es A B:=by
 subst hO;show (if es=[] then A () else B ());split
 ·exact h1 (by assumption)
 ·exact h2 (by assumption)
theorem z4g {es:EL} {A B:Unit→Prop} (h:es≠[]) (h2:B ()):O.emp es A B:=emp_of hO (fun q=>absurd q h) (fun _=>h2)
def ordOk (T:Tab) (ops:Array Oper) (ord:List (Nat × Bool × Bool)):Bool:=Region.noSelect ops && (plan T ops ops.size (Array.replicate ops.size false) == some (ord.map fun x=>(x.1,x.2.1))) && w4f ops.toList ord
theorem z0h {A:Nat→TI} (hA:A=fun t=>T.at t) {ops:Array Oper} {K:List AV→Mem→Prop} (wr:List (List Nat)) (ord:List (Nat × Bool × Bool)) (h1:ordOk T ops ord=true) (h:planO O A G wr ops.toList ord tm m (O.join K)):O.drawn ops tm m K:=by
 subst hO hA
 simp only [ordOk,Bool.and_eq_true,beq_iff_eq] at h1
 show z7c T G D ops tm m (Join B K)
 unfold z7c;rw [h1.1.1,h1.1.2];exact⟨rfl,.inl ⟨wr,by rw [← w2b (B:=B) _ _ _ _ _ _ h1.2];exact h⟩⟩
def w3q (T:Tab) (ops:Array Oper) (t:PL):Bool:=Region.noSelect ops && z3c T ops (Array.replicate ops.size false) t && Nat.ble t.deep ops.size
theorem w9j {A:Nat→TI} (hA:A=fun t=>T.at t) {ops:Array Oper} {K:List AV→Mem→Prop} (wr:List (List Nat)) (t:PL) (h1:w3q T ops t=true) (h:z5b O A G ops.toList wr t tm m (O.join K)):O.drawn ops tm m K:=by
 subst hO hA
 simp only [w3q,Bool.and_eq_true] at h1
 show z7c T G D ops tm m (Join B K)
 unfold z7c;rw [h1.1.1];exact⟨rfl,.inr ⟨t,wr,h1.1.2,Nat.le_of_ble_eq_true h1.2,by rw [← z4u (B:=B) _ _ _ _ _ _ _ h1.1.2];exact h⟩⟩
theorem k3b {A:Nat→TI} (hA:A=fun t=>T.at t) {ops:Array Oper} {K:List AV→Mem→Prop} (h:opsO O A G ops.toList ops.toList tm m (O.join K)):O.reg ops tm m K:=by
 subst hO hA
 show opsW T G D ops.toList ops.toList tm m (Join B K)
 rw [← z7m (B:=B)];exact h
theorem z0u {A:Nat→TI} (hA:A=fun t=>T.at t) {ops:Array Oper} {K:List AV→Mem→Prop} (live ids caps:List Nat) (R:List AV→Mem→Prop)
  (h1:∀ L:List AV→Mem→Prop,(∀ tm m,R (fgT B live ids tm m) (fgM B ids caps m)→L tm m)→opsO O A G ops.toList ops.toList tm m L)
  (h2:∀ tm m,R tm m→K tm m):O.reg ops tm m K:=k3b hO hA (h1 _ fun tm m hr=>z4r hO live ids caps (h2 _ _ hr))
theorem z0v {A:Nat→TI} (hA:A=fun t=>T.at t) {ops:Array Oper} {K:List AV→Mem→Prop} (wr:List (List Nat)) (ord:List (Nat × Bool × Bool)) (h0:ordOk T ops ord=true) (live ids caps:List Nat) (R:List AV→Mem→Prop)
  (h1:∀ L:List AV→Mem→Prop,(∀ tm m,R (fgT B live ids tm m) (fgM B ids caps m)→L tm m)→planO O A G wr ops.toList ord tm m L)
  (h2:∀ tm m,R tm m→K tm m):O.drawn ops tm m K:=z0h hO hA wr ord h0 (h1 _ fun tm m hr=>z4r hO live ids caps (h2 _ _ hr))
theorem z5j {A:Nat→TI} (hA:A=fun t=>T.at t) {ops:Array Oper} {K:List AV→Mem→Prop} (wr:List (List Nat)) (t:PL) (h0:w3q T ops t=true) (live ids caps:List Nat) (R:List AV→Mem→Prop)
  (h1:∀ L:List AV→Mem→Prop,(∀ tm m,R (fgT B live ids tm m) (fgM B ids caps m)→L tm m)→z5b O A G ops.toList wr t tm m L)
  (h2:∀ tm m,R tm m→K tm m):O.drawn ops tm m K:=w9j hO hA wr t h0 (h1 _ fun tm m hr=>z4r hO live ids caps (h2 _ _ hr))
omit hO in
def dropL (ids:List Nat):List (Nat × Ob)→List (Nat × Ob)
 | []=>[]
 | (i,o) :: r=>if ids.contains i then dropL ids r else (i,o) :: dropL ids r
omit hO in
def stayL (ks:List (Nat × Ob)):List (Nat × Ob)→List (Nat × Ob)
 | []=>[]
 | (i,o) :: r=>if (ks.map (·.1)).contains i then (i,o) :: stayL ks r else stayL ks r
omit hO in
theorem w5s:∀ (l:List (Nat × Ob)) (j:Nat) (ob:Ob),getL l j=some ob→j ∈ l.map (·.1)
 | (k,p) :: r,j,ob,h=>by
  simp only [getL] at h
  split at h
  ·rename_i hj;simp [hj]
  ·simp only [List.map_cons,List.mem_cons];exact .inr (w5s r j ob h)
omit hO in
theorem w9c (ks l:List (Nat × Ob)) (j:Nat) (ob:Ob) (hj:getL ks j=some ob):getL (stayL ks l) j=getL l j:=by
 have hm:=w5s ks j ob hj
 induction l with
 | nil=>rfl
 | cons a r ih =>
  obtain⟨k,p⟩:=a
  simp only [stayL]
  split
  ·simp only [getL,ih]
  ·rename_i hk;rw [ih];simp only [getL]
   rw [if_neg (fun h=>hk (by subst h;simpa using hm))]
omit hO in
theorem w2o (ids:List Nat) (l:List (Nat × Ob)) (j:Nat) (hj:j ∉ ids):getL (dropL ids l) j=getL l j:=by
 induction l with
 | nil=>rfl
 | cons a r ih =>
  obtain⟨k,p⟩:=a
  simp only [dropL]
  split
  ·rename_i hk;rw [ih];simp only [getL]
   rw [if_neg (fun h=>hj (by subst h;simpa using hk))]
  ·simp only [getL,ih]
theorem k1f {wr:List Nat} {m m':Mem} (h:m.clk≤m'.clk) (h2:dropL wr m.obs=dropL wr (stayL m.obs m'.obs)):O.agree wr m m':=by
 subst hO
 exact⟨h,fun id ob hid hg=>by
  have h3:getL m.obs id=getL m'.obs id:=by rw [← w9c m.obs m'.obs id _ hg,← w2o wr m.obs id hid,h2,w2o wr _ id hid]
  unfold Mem.get at hg ⊢;rw [← h3,hg];exact Ob.same_refl _⟩
theorem agr {wr:List Nat} {m m':Mem} {K:Prop} (h:Nat.ble m.clk m'.clk=true) (h2:dropL wr m.obs=dropL wr (stayL m.obs m'.obs)) (k:K):O.agree wr m m'∧K:=⟨k1f hO (Nat.le_of_ble_eq_true h) h2,k⟩
omit hO in
theorem w5o {live ids caps:List Nat} {X:List AV→Mem→KX→Prop} {α:Type} (R:α→List AV→Mem→Prop) (μ:α→Nat)
  (step:∀ a tm m (L:List AV→Mem→Prop),R a tm m→(∀ b tm m,μ b < μ a→R b (fgT B live ids tm m) (fgM B ids caps m)→L tm m)→X tm m fun e tm m=>match e with | .norm=>L tm m | .ret=>K .ret tm m | .ex i=>K (.ex i) tm m) :
  ∀ (N:Nat) (a:α) (tm:List AV) (m:Mem),μ a≤N→R a (fgT B live ids tm m) (fgM B ids caps m)→loopW B live ids caps X K (N + 1) tm m
 | 0,a,tm,m,hn,hI=>step a _ _ _ hI fun b tm m hb _=>by omega
 | N + 1,a,tm,m,hn,hI=>step a _ _ _ hI fun b tm m hb hI=>w5o R μ step N b tm m (by omega) hI
theorem z0r {A:Nat→TI} (hA:A=fun t=>T.at t) (live ids caps:List Nat) {α:Type} (R:α→List AV→Mem→Prop) (μ:α→Nat) {c:Code} (a:α) (h0:R a (fgT B live ids tm m) (fgM B ids caps m))
  (step:∀ a tm m (L:List AV→Mem→Prop),R a tm m→(∀ b tm m,μ b < μ a→R b (fgT B live ids tm m) (fgM B ids caps m)→L tm m)→execO O A G c tm m (thenK L (K .ret) fun i=>K (.ex i))) :
  O.loop c tm m K:=by
 subst hO hA
 refine⟨live,ids,caps,μ a + 1,w5o R μ (fun a tm m L hr hl=>?_) _ a tm m (Nat.le_refl _) h0⟩
 have:=step a tm m L hr hl
 rw [z2y] at this
 have e:(thenK L (K .ret) fun i=>K (.ex i))=fun e tm m=>match e with | .norm=>L tm m | .ret=>K .ret tm m | .ex i=>K (.ex i) tm m:=by funext e tm m;cases e<;>rfl
 rw [e] at this;exact this
end rules
section mono
theorem z8u {m:Mem} {x:AV} {K K':CV→Mem→Prop} (h:∀ x m,K x m→K' x m) (hk:z3a m x K):z3a m x K':=by
 unfold z3a at *;split at hk
 ·exact h _ _ hk
 ·split at hk
  ·exact⟨hk.1,hk.2.1,h _ _ hk.2.2⟩
  ·exact hk.elim
 ·exact hk.elim
theorem z8t:∀ (l:List AV) {m:Mem} {K K':List CV→Mem→Prop} (_:∀ x m,K x m→K' x m) (_:z4h m l K),z4h m l K'
 | [],_,_,_,h,hk=>h _ _ hk
 | a :: l,_,_,_,h,hk=>z8u (fun x m hk=>z8t l (fun xs m hk=>h _ _ hk) hk) hk
theorem z2t {pk:Mem→AV→(OV→Mem→Prop)→Prop} (hp:∀ m x (K K':OV→Mem→Prop),(∀ o m,K o m→K' o m)→pk m x K→pk m x K'):∀ (l:List AV) {m:Mem} {K K':List OV→Mem→Prop} (_:∀ x m,K x m→K' x m) (_:z2u pk m l K),z2u pk m l K'
 | [],_,_,_,h,hk=>h _ _ hk
 | a :: l,_,_,_,h,hk=>hp _ _ _ _ (fun x m hk=>z2t hp l (fun xs m hk=>h _ _ hk) hk) hk
theorem z3n:∀ (n:Nat) (m:Mem) (x:AV) (K K':OV→Mem→Prop),(∀ o m,K o m→K' o m)→packW n m x K→packW n m x K'
 | 0,_,_,_,_,_,hk=>hk.elim
 | n + 1,m,x,K,K',h,hk=>by
  unfold packW at *
  split at hk
  ·exact h _ _ hk
  ·split at hk
   ·exact⟨hk.1,hk.2.1,h _ _ hk.2.2⟩
   ·exact hk.elim
  ·split at hk
   ·exact⟨hk.1,z2t (z3n n) _ (fun _ _ hk=>h _ _ hk) hk.2⟩
   ·exact hk.elim
  ·exact z2t (z3n n) _ (fun _ _ hk=>h _ _ hk) hk
  ·exact z2t (z3n n) _ (fun _ _ hk=>h _ _ hk) hk
  ·exact hk.elim
theorem w6l {m:Mem} {x:AV} {K K':OV→Mem→Prop} (h:∀ x m,K x m→K' x m) (hk:shutW m x K):shutW m x K':=by
 unfold shutW at *;split at hk
 ·exact z8t _ (fun _ _ hk=>h _ _ hk) hk
 ·exact z8u (fun _ _ hk=>h _ _ hk) hk
theorem w9w (md:Mode) {m:Mem} {x:AV} {K K':OV→Mem→Prop} (h:∀ x m,K x m→K' x m) (hk:argW md m x K):argW md m x K':=by
 cases md with
 | shut=>exact w6l h hk
 | keep=>cases x<;>first | exact hk.elim | exact h _ _ hk
 | own=>exact z3n _ _ _ _ _ h hk
 | ref s =>
  simp only [argW] at *
  split at hk
  ·split at hk
   ·exact⟨hk.1,hk.2.1,hk.2.2.1,z2t (z3n _) _ (fun _ _ hk=>h _ _ hk) hk.2.2.2⟩
   ·exact hk.elim
  ·exact hk.elim
theorem w0c:∀ (mds:List Mode) (l:List AV) (m:Mem) {K K':List OV→Mem→Prop} (_:∀ x m,K x m→K' x m) (_:argsW m mds l K),argsW m mds l K'
 | [],[],_,_,_,h,hk=>h _ _ hk
 | [],_ :: _,_,_,_,_,hk=>hk.elim
 | _ :: _,[],_,_,_,_,hk=>hk.elim
 | md :: mds,a :: l,_,_,_,h,hk=>w9w md (fun x m hk=>w0c mds l m (fun xs m hk=>h _ _ hk) hk) hk
end mono
section calls
variable {P:Program} {B:Nat} {T:Tab} {G:Glob} {O:Ops} (hO:O=std B T G (Den P G))
include hO
theorem k2o (mds:List Mode){os:List OV}{Q:OV→List OV→Prop}{f:FuncId} (hd:Den P G f os Q) {site:Nat} {m:Mem} {args:List AV} {K:KK}
  (hh:argsO O m mds args fun os' m=>os'=os∧∀ r bs,Q r bs→backO site m mds args bs fun id m=>K (z1b depth id m r).1 (z1b depth id m r).2.2):O.call site m f args K:=by
 subst hO
 refine .inl ⟨mds,?_⟩
 rw [w3l] at hh
 refine w0c mds args m ?_ hh
 rintro os' m' ⟨rfl,h⟩
 exact⟨Q,hd,fun r bs hq=>z6k _ _ _ _ _ _ (h r bs hq)⟩
theorem k2k {A : Nat → TI} (hA : A = fun t => T.at t) (hm : P.follows .mixedOrders = true) (hT : TabOk P T) {f : FuncId} {fn : Func} {body : Code} (hf : P.funcs[f]? = some fn) (hb : fn.body = some body) (hname : (fn.name == "runtime.NumGoroutine") = false)
  {os:List OV} {Q:OV→List OV→Prop} (hlen:Nat.ble os.length fn.ntmps=true) (hB:(z0w (z1b depth) 0 ⟨[],0⟩ os).2.2.clk=B) {sh:Bool} (hk:FnO O A G fn body os Q sh):Den P G f os Q:=by
 subst hO hA
 rw [k2w _ _ _ _ _ hB] at hk
 exact den_of hm hT (fun _ _ _ h=>h) hf hb hname (Nat.le_of_ble_eq_true hlen) hk
end calls
end Go.Proofs.Ythncmjlcmlmnmaa.V
namespace Go.Proofs.Ythncmjlcmlmnmaa.V
open Go
@[simp] theorem bits_u8:IntKind.u8.bits=8:=rfl
@[simp] theorem bits_i64:IntKind.i64.bits=64:=rfl
@[simp] theorem bits_u64:IntKind.u64.bits=64:=rfl
@[simp] theorem natc (n:Nat):Int.ofNat n=(n:Int):=rfl
theorem z5d {n:Int} (h:-9223372036854775808≤n∧n≤9223372036854775807):IntKind.i64.wrap n=n:=IntWalk.i64_in n h
theorem w4x {n:Int} (h:0≤n∧n≤18446744073709551615):IntKind.u64.wrap n=n:=IntWalk.u64_in n h
@[simp] theorem z0g (l:List UInt8):(encB l).length=l.length:=by simp [encB]
@[simp] theorem z1o (a b:List UInt8):encB (a++b)=encB a++encB b:=by simp [encB]
@[simp] theorem k1a:encB []=[]:=rfl
theorem w2z (c:UInt8) (l:List UInt8):encB (c :: l)=[.v (.int .u8 c.toNat)] :: encB l:=rfl
theorem w9h (n:Nat):[[CV.v (.int .u8 (IntKind.u8.wrap (n:Int)))]]=encB [UInt8.ofNat n]:=by
 rw [IntKind.wrap_u8];simp [encB]
theorem w5y {l:List UInt8} {i:Nat} (h:i < l.length):(encB l).getD i []=[.v (.int .u8 (l[i]).toNat)]:=by simp [encB,List.getD,h]
@[simp] theorem w2y (l:List UInt8) (n:Nat):(encB l).drop n=encB (l.drop n):=by simp [encB,List.map_drop]
@[simp] theorem w9i (l:List UInt8) (n:Nat):(encB l).take n=encB (l.take n):=by simp [encB,List.map_take]
def encI (l:List Int):List (List CV):=l.map fun n=>[.v (.int .i64 n)]
@[simp] theorem z8r (l:List Int):(encI l).length=l.length:=by simp [encI]
theorem k0z {l:List Int} {i:Nat} (h:i < l.length):(encI l).getD i []=[.v (.int .i64 l[i])]:=by simp [encI,List.getD,h]
def uv (n:Int):Nat:=(n % 18446744073709551616).toNat
theorem uv_lt (n:Int):uv n < 2 ^ 64:=by unfold uv;omega
theorem k2x (n:Int):IntKind.u64.wrap n=(uv n:Int):=by rw [IntKind.wrap_u64];unfold uv;omega
theorem z5o (n:Nat) (h:n < 2 ^ 64):uv (n:Int)=n:=by unfold uv;omega
theorem z7e:∀ l:List UInt8,bytesOf (encB l)=some l
 | []=>rfl
 | c :: l=>by rw [w2z,bytesOf,z7e l];simp
theorem k2j (a b:Int) (h:0≤b):a.fdiv b=a / b:=Int.fdiv_eq_ediv_of_nonneg a h
theorem w2f (n:Nat) (a:Nat):(BitVec.ofInt n (a:Int)).toNat=a % 2 ^ n:=by simp
theorem w9v (n a b:Nat) (ha:a < 2 ^ n) (hb:b < 2 ^ n):bOr n (a:Int) (b:Int)=a ||| b:=by
 unfold bOr;rw [BitVec.toNat_or,w2f,w2f,Nat.mod_eq_of_lt ha,Nat.mod_eq_of_lt hb]
theorem or128 (n:Nat):bOr 8 (IntKind.u8.wrap (n:Int)) 128=n % 128 + 128:=by
 have h1:IntKind.u8.wrap (n:Int)=((n % 256:Nat):Int):=by rw [IntKind.wrap_u8];omega
 have h0:(128:Int)=((128:Nat):Int):=rfl
 rw [h1,h0,w9v _ _ _ (by omega) (by omega)]
 have:∀ x:Fin 256,(x.val ||| 128)=x.val % 128 + 128:=by decide +kernel
 have:=this ⟨n % 256,by omega⟩
 simp only at this;rw [this];omega
end Go.Proofs.Ythncmjlcmlmnmaa.V
namespace Go.Proofs.Ythncmjlcmlmnmaa.V
open Go
def gd {ρ:Type} (p:Prop) [Decidable p] (fail k:ρ):ρ:=if p then k else fail
abbrev nilE:EL:=[]
def tobP {ρ:Type} (fail:ρ) (es:EL) (k:ByteArray→ρ):ρ:=match bytesOf es with | some b=>k ⟨b.toArray⟩ | none=>fail
theorem z0q {p:Prop} [Decidable p] {k:Prop} (h:gd p False k):p∧k:=by
 unfold gd at h;split at h
 ·exact⟨by assumption,h⟩
 ·exact h.elim
section
variable {O:Ops} {B:Nat} {T:Tab} {G:Glob} {D:Spec} (hO:O=std B T G D)
theorem and_h {p:Prop} [Decidable p] {k C R:Prop} (h:gd p False k) (e:p→C) (f:k→R):C∧R:=by
 unfold gd at h;split at h
 ·exact⟨e (by assumption),f h⟩
 ·exact h.elim
include hO
theorem br_h {v c:Bool} {A A':Unit→Prop} {a b:Prop} (h:cond c a b) (e:v=c) (h1:v=true→a→A ()) (h2:v=false→b→A' ()):O.br v A A':=by
 subst e;exact br_of hO (fun hv=>h1 hv (by subst hv;exact h)) (fun hv=>h2 hv (by subst hv;exact h))
theorem z0f {A:Nat→TI} (hA:A=fun t=>T.at t) {v c:Bool} {x y:Code} {tm₁ tm₂:List AV} {m₁ m₂:Mem} {N Rt:List AV→Mem→Prop} {X:Nat→List AV→Mem→Prop} {a b:Prop} (h:cond c a b) (e:v=c) (live ids caps:List Nat) (R:List AV→Mem→Prop)
  (h1:v=true→a→∀ L:List AV→Mem→Prop,(∀ tm m,R (fgT B live ids tm m) (fgM B ids caps m)→L tm m)→execO O A G x tm₁ m₁ (thenK L Rt X))
  (h2:v=false→b→∀ L:List AV→Mem→Prop,(∀ tm m,R (fgT B live ids tm m) (fgM B ids caps m)→L tm m)→execO O A G y tm₂ m₂ (thenK L Rt X))
  (h3:∀ tm m,R tm m→N tm m) :
  O.br v (fun _=>execO O A G x tm₁ m₁ (thenK (O.join N) Rt X)) (fun _=>execO O A G y tm₂ m₂ (thenK (O.join N) Rt X)):=by
 subst e
 exact k2p hO hA live ids caps R (fun hv=>h1 hv (by subst hv;exact h)) (fun hv=>h2 hv (by subst hv;exact h)) h3
theorem z0t {n:Nat} {es:EL} {K:EL→Prop} {p:Prop} [Decidable p] {k:Prop} (h:gd p False k) (e:p→n≤es.length) (f:k→K (O.take n es)):O.view n es K :=
 z0s hO (e (z0q h).1) (f (z0q h).2)
theorem tob_h {es es':EL} {k K:ByteArray→Prop} (h:tobP False es' k) (e:es=es') (f:∀ s,k s→K s):O.tob es K:=by
 subst e hO
 show (match bytesOf es with | some b=>K ⟨b.toArray⟩ | none=>False)
 unfold tobP at h
 split at h
 ·exact f _ h
 ·exact h.elim
end
section
variable {m:Mem}
end
section
variable {P:Program} {O:Ops} {B:Nat} {T:Tab} {G:Glob} (hO:O=std B T G (Den P G))
include hO
theorem z0c (mds:List Mode){os0:List OV}{Q0:OV→List OV→Prop}{f:FuncId} (hd:Den P G f os0 Q0) {site:Nat} {m:Mem} {args:List AV} {K:KK}
  (hh:∀ (os:List OV) (Q:OV→List OV→Prop),os=os0→Q=Q0→argsO O m mds args fun os' m=>os'=os∧∀ r bs,Q r bs→backO site m mds args bs fun id m=>K (z1b depth id m r).1 (z1b depth id m r).2.2):O.call site m f args K :=
 k2o hO mds hd (hh _ _ rfl rfl)
theorem den_h {A : Nat → TI} (hA : A = fun t => T.at t) (hm : P.follows .mixedOrders = true) (hT : TabOk P T) {f : FuncId} {fn : Func} {body : Code} (hf : P.funcs[f]? = some fn) (hb : fn.body = some body) (hname : (fn.name == "runtime.NumGoroutine") = false)
  {os:List OV} {Q:OV→List OV→Prop} (hlen:Nat.ble os.length fn.ntmps=true) (hB:(z0w (z1b depth) 0 ⟨[],0⟩ os).2.2.clk=B) {sh:Bool} (hk:∀ Q',Q'=Q→FnO O A G fn body os Q' sh):Den P G f os Q :=
 k2k hO hA hm hT hf hb hname hlen hB (hk Q rfl)
end
end Go.Proofs.Ythncmjlcmlmnmaa.V
namespace Go.Proofs.Ythncmjlcmlmnmaa.V
open Go
def allS (w:World):Area:=fun b _=>b < w.heap.size
theorem w3g {P:Program}{G:Glob}{f:FuncId}{os:List OV}{Q:OV→List OV→Prop} (hd:Den P G f os Q) (hQ:∀ r bs,Q r bs→r=.c (.v (.bool true))) (hG:∀ g,G g=none)
  {w:World} {us:List Value} {F:Area} (ho:OwnL (allS w) w F os us) (hF:∀ b o,¬ F b o) :
  Calls P f us.toArray w fun e w'=>e=.returned (.bool true)∧Ext (fun _ _=>False) w w':=by
 refine Calls.mono (hd.2 (allS w) F w us (fun _ _ h=>h) (fun b o h=>absurd h (hF b o)) (fun g cs h=>by rw [hG] at h;simp at h) ho) ?_
 rintro e w' ⟨v,r,bs,S',Fr,Fb,rfl,hq,hr,hb,hend⟩
 have:=hQ r bs hq
 subst this
 cases hr with | c _ _ hr =>
 cases hr
 have hext:=hend.ext
 exact⟨rfl,⟨hext.os,hext.tape,hext.output,hext.size,fun b o hb _=>hext.cell b o hb (hF b o),hext.shape,hext.frz,fun b hb _=>hext.obj b hb (hF b)⟩⟩
theorem Ext.kept {w w':World} (h:Ext (fun _ _=>False) w w') (may:MemPlace→Prop):w.keptBut w' may:=by
 refine⟨h.os,h.output,fun i hi=>?_⟩
 rw [h.obj i hi (fun _ q=>q)]
 cases w.heap[i]? with
 | none=>trivial
 | some ob=>cases ob<;>simp
end Go.Proofs.Ythncmjlcmlmnmaa.V
namespace Go.Proofs.Ythncmjlcmlmnmaa
open Go V
set_option maxRecDepth 10000
def varB (v:Nat):List UInt8:=if v < 128 then [UInt8.ofNat v] else UInt8.ofNat (v % 128 + 128) :: varB (v / 128)
termination_by v
def tv:Nat→List UInt8→Except Int (Nat × Nat)
 | _,[]=>.error 2
 | i,c :: cs =>
  if i=9∧1 < c.toNat then .error 4
  else if 128≤c.toNat then (match tv (i + 1) cs with | .ok (v,k)=>.ok (c.toNat - 128 + 128 * v,k + 1) | .error e=>.error e)
  else if c.toNat=0∧0 < i then .error 5
  else .ok (c.toNat,1)
theorem w4w (v:Nat):1≤(varB v).length:=by unfold varB;split<;>simp
theorem z7r {v:Nat} (h:v < 128):varB v=[UInt8.ofNat v]:=by unfold varB;rw [if_pos h]
theorem z7s {v:Nat} (h:128≤v):varB v=UInt8.ofNat (v % 128 + 128) :: varB (v / 128):=by rw [varB];rw [if_neg (by omega)]
theorem w4y:∀ (bs:List UInt8) (i v k:Nat),tv i bs=.ok (v,k)→1≤k∧k≤bs.length
 | [],_,_,_,h=>by simp [tv] at h
 | c :: cs,i,v,k,h=>by
  simp only [tv] at h
  split at h
  ·cases h
  ·split at h
   ·split at h
    ·rename_i v' k' h'
     injection h with h;injection h with h1 h2;subst h2
     have:=w4y cs (i + 1) v' k' h'
     simp;omega
    ·cases h
   ·split at h
    ·cases h
    ·injection h with h;injection h with h1 h2;subst h2;simp
theorem w7j:∀ (bs:List UInt8) (i:Nat) (e:Int),tv i bs=.error e→e=2∨e=4∨e=5
 | [],_,_,h=>by simp [tv] at h;exact .inl h.symm
 | c :: cs,i,e,h=>by
  simp only [tv] at h
  split at h
  ·injection h with h;exact .inr (.inl h.symm)
  ·split at h
   ·split at h
    ·cases h
    ·rename_i e' h';injection h with h;subst h;exact w7j cs _ _ h'
   ·split at h
    ·injection h with h;exact .inr (.inr h.symm)
    ·cases h
theorem tv_lt:∀ (bs:List UInt8) (i v k:Nat),i≤9→tv i bs=.ok (v,k)→v * 2 ^ (7 * i) < 2 ^ 64
 | [],_,_,_,_,h=>by simp [tv] at h
 | c :: cs,i,v,k,hi,h=>by
  simp only [tv] at h
  have hc:=c.toNat_lt
  split at h
  ·cases h
  ·rename_i h9
   split at h
   ·rename_i hc2
    split at h
    ·rename_i v' k' h'
     injection h with h;injection h with h1 h2;subst h1
     have hi':i≠9:=fun q=>h9 ⟨q,by omega⟩
     have:=tv_lt cs (i + 1) v' k' (by omega) h'
     have hp:2 ^ (7 * (i + 1))=128 * 2 ^ (7 * i):=by rw [show 7 * (i + 1)=7 * i + 7 by omega,Nat.pow_add];omega
     rw [hp] at this
     have h64:2 ^ 64=2 ^ (64 - 7 * i) * 2 ^ (7 * i):=by rw [← Nat.pow_add];congr 1;omega
     have hq:2 ^ (64 - 7 * i)=128 * 2 ^ (57 - 7 * i):=by rw [show 64 - 7 * i=7 + (57 - 7 * i) by omega,Nat.pow_add]
     have hpos:0 < 2 ^ (7 * i):=Nat.two_pow_pos _
     have hv:v' < 2 ^ (57 - 7 * i):=by
      rw [h64,hq] at this
      have h2:(128 * v') * 2 ^ (7 * i) < (128 * 2 ^ (57 - 7 * i)) * 2 ^ (7 * i):=by
       calc (128 * v') * 2 ^ (7 * i)=v' * (128 * 2 ^ (7 * i)):=by rw [Nat.mul_comm 128 v',Nat.mul_assoc]
        _ < _:=this
      have:=Nat.lt_of_mul_lt_mul_right h2
      omega
     rw [h64]
     apply Nat.mul_lt_mul_of_pos_right _ hpos
     rw [hq];omega
    ·cases h
   ·rename_i hc2
    split at h
    ·cases h
    ·injection h with h;injection h with h1 h2;subst h1
     have h64:2 ^ 64=2 ^ (64 - 7 * i) * 2 ^ (7 * i):=by rw [← Nat.pow_add];congr 1;omega
     rw [h64]
     apply Nat.mul_lt_mul_of_pos_right _ (Nat.two_pow_pos _)
     by_cases h8:i=9
     ·subst h8
      have:c.toNat≤1:=by rcases Nat.lt_or_ge 1 c.toNat with q | q;exact absurd ⟨rfl,q⟩ h9;exact q
      show c.toNat < 2 ^ (64 - 63)
      omega
     ·have:2 ^ 7≤2 ^ (64 - 7 * i):=Nat.pow_le_pow_right (by omega) (by omega)
      omega
theorem k1j {bs:List UInt8} {v k:Nat} (h:tv 0 bs=.ok (v,k)):v < 2 ^ 64:=by have:=tv_lt bs 0 v k (by omega) h;simpa using this
theorem w7i:∀ (bs:List UInt8) (i v k:Nat),tv i bs=.ok (v,k)→bs.take k=varB v∧(0 < i→0 < v)
 | [],_,_,_,h=>by simp [tv] at h
 | c :: cs,i,v,k,h=>by
  simp only [tv] at h
  have hc:=c.toNat_lt
  split at h
  ·cases h
  ·split at h
   ·rename_i hc2
    split at h
    ·rename_i v' k' h'
     injection h with h;injection h with h1 h2;subst h1;subst h2
     obtain⟨h3,h4⟩:=w7i cs (i + 1) v' k' h'
     have h5:=h4 (by omega)
     refine⟨?_,fun _=>by omega⟩
     rw [z7s (by omega),List.take_succ_cons,h3]
     congr 1
     ·rw [show (c.toNat - 128 + 128 * v') % 128 + 128=c.toNat by omega];exact UInt8.ofNat_toNat.symm
     ·congr 1;omega
    ·cases h
   ·split at h
    ·cases h
    ·rename_i hc2 hz
     injection h with h;injection h with h1 h2;subst h1;subst h2
     refine⟨?_,fun hi=>Nat.pos_of_ne_zero fun q=>hz ⟨q,hi⟩⟩
     rw [z7r (by omega)]
     simp
theorem k1i {n:Nat} (h:n < 256):(UInt8.ofNat n).toNat=n:=by simp;omega
theorem k1x:∀ (v:Nat),∀ (i:Nat) (r:List UInt8),i≤9→v * 2 ^ (7 * i) < 2 ^ 64→(0 < i→0 < v)→tv i (varB v++r)=.ok (v,(varB v).length):=by
 intro v
 induction v using Nat.strongRecOn with
 | ind v ih =>
  intro i r hi hv h0
  have hp:2 ^ (7 * (i + 1))=128 * 2 ^ (7 * i):=by rw [show 7 * (i + 1)=7 * i + 7 by omega,Nat.pow_add];omega
  have h9:i=9→v≤1:=fun q=>by
   subst q
   have:(2:Nat) ^ 64=2 * 2 ^ (7 * 9):=by decide
   rw [this] at hv;have:=Nat.lt_of_mul_lt_mul_right hv;omega
  by_cases h:v < 128
  ·rw [z7r h]
   simp only [List.cons_append,List.nil_append,tv,k1i (show v < 256 by omega)]
   rw [if_neg (fun q=>by have:=h9 q.1;omega),if_neg (by omega),if_neg (fun q=>by have:=h0 q.2;omega)]
   rfl
  ·rw [z7s (by omega)]
   simp only [List.cons_append,tv,k1i (show v % 128 + 128 < 256 by omega)]
   have hi9:i≠9:=fun q=>by have:=h9 q;omega
   have h2:v / 128 * 2 ^ (7 * (i + 1)) < 2 ^ 64:=by
    rw [hp,← Nat.mul_assoc]
    exact Nat.lt_of_le_of_lt (Nat.mul_le_mul_right _ (Nat.div_mul_le_self v 128)) hv
   rw [if_neg (fun q=>hi9 q.1),if_pos (by omega),ih (v / 128) (by omega) (i + 1) r (by omega) h2 (fun _=>by omega)]
   simp only [List.length_cons]
   congr 2;omega
def T:Tab:=[
 TI.no,
 TI.no,
 ⟨false,1,[.v (.int .i64 0)],[],(.int .i64),[]⟩,
 ⟨false,1,[.v (.int .i64 0)],[],(.int .i64),[]⟩,
 ⟨false,1,[.v (.bool false)],[],.bool,[]⟩,
 ⟨false,1,[.v (.int .u8 0)],[],(.int .u8),[]⟩,
 ⟨false,1,[.v (.int .u8 0)],[],(.int .u8),[]⟩,
 ⟨true,4,[.v (.int .i64 0),.v (.int .i64 0),.v (.bool false),.v (.int .u8 0)],[],(.st [(0,1,false),(1,1,false),(2,1,false),(3,1,false)]),[]⟩,
 ⟨true,4,[.v (.int .i64 0),.v (.int .i64 0),.v (.bool false),.v (.int .u8 0)],[],(.st [(0,1,false),(1,1,false),(2,1,false),(3,1,false)]),[]⟩,
 ⟨false,1,[.v (.string ⟨#[]⟩)],[],.str,[]⟩,
 ⟨false,1,[.v (.string ⟨#[]⟩)],[],.str,[]⟩,
 ⟨false,1,[.v (.string ⟨#[]⟩)],[],.str,[]⟩,
 ⟨false,1,[.v (.int .u64 0)],[],(.int .u64),[]⟩,
 ⟨true,2,[.v (.string ⟨#[]⟩),.v (.int .u64 0)],[],(.st [(0,1,false),(1,1,false)]),[]⟩,
 ⟨true,2,[.v (.string ⟨#[]⟩),.v (.int .u64 0)],[],(.st [(0,1,false),(1,1,false)]),[]⟩,
 ⟨false,1,[.v (.pointer none)],[],(.pt 4 true),[]⟩,
 ⟨false,1,[.v (.pointer none)],[],.sc,[]⟩,
 ⟨false,1,[.v (.pointer none)],[],(.pt 11 true),[]⟩,
 ⟨true,1,[.v (.pointer none)],[],(.st [(0,1,false)]),[]⟩,
 ⟨true,1,[.v (.pointer none)],[],(.st [(0,1,false)]),[]⟩,
 TI.no,
 ⟨false,1,[.v (.int .i32 0)],[],(.int .i32),[]⟩,
 ⟨false,1,[.sl 1 [] (some [])],[.sl 1 [] (some [])],(.sl 1 false 24 false),[]⟩,
 TI.no,
 ⟨false,1,[.sl 1 [] (some [])],[.v (.int .u8 0)],(.sl 1 false 1 true),[]⟩,
 ⟨false,1,[.sl 5 [] (some [])],[.v (.int .i64 0),.v (.int .i64 0),.v (.string ⟨#[]⟩),.sl 3 [] (some []),.sl 5 [] (some [])],(.sl 5 true 80 false),[]⟩,
 ⟨false,1,[.sl 3 [] (some [])],[.v (.int .i64 0),.v (.int .i64 0),.sl 3 [] (some [])],(.sl 3 true 40 false),[]⟩,
 ⟨true,5,[.v (.int .i64 0),.v (.int .i64 0),.v (.string ⟨#[]⟩),.sl 3 [] (some []),.sl 5 [] (some [])],[],(.st [(0,1,false),(1,1,false),(2,1,false),(3,1,false),(4,1,false)]),[]⟩,
 ⟨true,5,[.v (.int .i64 0),.v (.int .i64 0),.v (.string ⟨#[]⟩),.sl 3 [] (some []),.sl 5 [] (some [])],[],(.st [(0,1,false),(1,1,false),(2,1,false),(3,1,false),(4,1,false)]),[]⟩,
 ⟨false,1,[.v (.pointer none)],[],(.pt 2 true),[]⟩,
 TI.no,
 TI.no,
 TI.no,
 TI.no,
 ⟨false,1,[.v (.int .i64 0)],[],(.int .i64),[]⟩,
 TI.no,
 TI.no,
 TI.no,
 TI.no,
 ⟨true,3,[.v (.int .i64 0),.v (.int .i64 0),.sl 3 [] (some [])],[],(.st [(0,1,false),(1,1,false),(2,1,false)]),[]⟩,
 ⟨true,3,[.v (.int .i64 0),.v (.int .i64 0),.sl 3 [] (some [])],[],(.st [(0,1,false),(1,1,false),(2,1,false)]),[]⟩,
 TI.no,
 TI.no,
 TI.no,
 TI.no,
 TI.no,
 ⟨false,1,[.sl 6 [] (some [])],[.v (.string ⟨#[]⟩),.v (.int .i64 0),.v (.int .i64 0),.v (.string ⟨#[]⟩),.sl 3 [] (some []),.sl 5 [] (some [])],(.sl 6 true 96 false),[]⟩,
 ⟨true,16,[.v (.int .i64 0),.v (.int .i64 0),.v (.int .i64 0),.v (.string ⟨#[]⟩),.v (.string ⟨#[]⟩),.v (.int .i64 0),.v (.int .i64 0),.v (.string ⟨#[]⟩),.sl 3 [] (some []),.sl 5 [] (some []),.v (.int .i64 0),.v (.int .i64 0),.v (.string ⟨#[]⟩),.sl 3 [] (some []),.sl 5 [] (some []),.sl 6 [] (some [])],[],(.st [(0,1,false),(1,1,false),(2,1,false),(3,1,false),(4,1,false),(5,5,true),(10,5,true),(15,1,false)]),[]⟩,
 ⟨true,16,[.v (.int .i64 0),.v (.int .i64 0),.v (.int .i64 0),.v (.string ⟨#[]⟩),.v (.string ⟨#[]⟩),.v (.int .i64 0),.v (.int .i64 0),.v (.string ⟨#[]⟩),.sl 3 [] (some []),.sl 5 [] (some []),.v (.int .i64 0),.v (.int .i64 0),.v (.string ⟨#[]⟩),.sl 3 [] (some []),.sl 5 [] (some []),.sl 6 [] (some [])],[],(.st [(0,1,false),(1,1,false),(2,1,false),(3,1,false),(4,1,false),(5,5,true),(10,5,true),(15,1,false)]),[]⟩,
 TI.no,
 TI.no,
 TI.no,
 TI.no,
 TI.no,
 TI.no,
 TI.no,
 TI.no,
 TI.no,
 TI.no,
 TI.no,
 TI.no,
 TI.no,
 TI.no,
 TI.no,
 TI.no,
 ⟨false,1,[.v (.int .u64 0)],[],(.int .u64),[]⟩,
 ⟨true,2,[.v (.int .u64 0),.v (.int .u64 0)],[],(.st [(0,1,false),(1,1,false)]),[]⟩,
 ⟨true,2,[.v (.int .u64 0),.v (.int .u64 0)],[],(.st [(0,1,false),(1,1,false)]),[1,1]⟩,
 ⟨false,1,[.sl 1 [] (some [])],[.v (.string ⟨#[]⟩)],(.sl 1 false 16 false),[]⟩,
 ⟨true,13,[.v (.int .i64 0),.v (.int .u64 0),.v (.int .u64 0),.v (.int .i64 0),.v (.int .i64 0),.v (.bool false),.v (.int .i64 0),.v (.int .i64 0),.v (.string ⟨#[]⟩),.sl 3 [] (some []),.sl 5 [] (some []),.v (.int .i64 0),.sl 1 [] (some [])],[],(.st [(0,1,false),(1,2,true),(3,1,false),(4,1,false),(5,1,false),(6,5,true),(11,1,false),(12,1,false)]),[]⟩,
 ⟨true,13,[.v (.int .i64 0),.v (.int .u64 0),.v (.int .u64 0),.v (.int .i64 0),.v (.int .i64 0),.v (.bool false),.v (.int .i64 0),.v (.int .i64 0),.v (.string ⟨#[]⟩),.sl 3 [] (some []),.sl 5 [] (some []),.v (.int .i64 0),.sl 1 [] (some [])],[],(.st [(0,1,false),(1,2,true),(3,1,false),(4,1,false),(5,1,false),(6,5,true),(11,1,false),(12,1,false)]),[]⟩,
 TI.no,
 TI.no,
 TI.no,
 TI.no,
 TI.no,
 TI.no,
 TI.no,
 TI.no,
 TI.no,
 TI.no,
 TI.no,
 ⟨true,2,[.sl 1 [] (some []),.v (.int .i64 0)],[],(.st [(0,1,false),(1,1,false)]),[]⟩,
 ⟨true,2,[.sl 1 [] (some []),.v (.int .i64 0)],[],(.st [(0,1,false),(1,1,false)]),[]⟩,
 TI.no,
 TI.no,
 TI.no,
 TI.no,
 TI.no,
 TI.no,
 TI.no,
 ⟨false,1,[.v (.pointer none)],[],(.pt 1 true),[]⟩,
 TI.no,
 TI.no,
 ⟨true,1,[.sl 1 [] (some [])],[],(.st [(0,1,false)]),[]⟩,
 ⟨true,1,[.sl 1 [] (some [])],[],(.st [(0,1,false)]),[]⟩,
 ⟨false,1,[.v (.pointer none)],[],(.pt 2 true),[]⟩,
 ⟨true,2,[.sl 1 [] (some []),.v (.int .i64 0)],[],(.st [(0,1,false),(1,1,false)]),[]⟩,
 ⟨true,2,[.sl 1 [] (some []),.v (.int .i64 0)],[],(.st [(0,1,false),(1,1,false)]),[]⟩,
 TI.no,
 TI.no,
 TI.no,
 ⟨true,6,[.v (.string ⟨#[]⟩),.v (.int .i64 0),.v (.int .i64 0),.v (.string ⟨#[]⟩),.sl 3 [] (some []),.sl 5 [] (some [])],[],(.st [(0,1,false),(1,5,true)]),[]⟩,
 ⟨true,6,[.v (.string ⟨#[]⟩),.v (.int .i64 0),.v (.int .i64 0),.v (.string ⟨#[]⟩),.sl 3 [] (some []),.sl 5 [] (some [])],[],(.st [(0,1,false),(1,5,true)]),[]⟩,
 TI.no,
 TI.no,
 TI.no,
 TI.no,
 ⟨false,1,[.v (.pointer none)],[],(.pt 3 true),[]⟩,
 ⟨true,3,[.sl 1 [] (some []),.v (.int .i64 0),.v (.int .i64 0)],[],(.st [(0,1,false),(1,1,false),(2,1,false)]),[]⟩,
 ⟨true,3,[.sl 1 [] (some []),.v (.int .i64 0),.v (.int .i64 0)],[],(.st [(0,1,false),(1,1,false),(2,1,false)]),[]⟩,
 TI.no,
 TI.no,
 TI.no,
 TI.no,
 TI.no,
 TI.no,
 TI.no,
 TI.no,
 TI.no,
 ⟨false,1,[.v (.pointer none)],[],(.pt 2 true),[]⟩,
 ⟨true,2,[.sl 1 [] (some []),.v (.int .i64 0)],[],(.st [(0,2,true)]),[]⟩,
 ⟨true,2,[.sl 1 [] (some []),.v (.int .i64 0)],[],(.st [(0,2,true)]),[]⟩,
 TI.no,
 TI.no,
 TI.no,
 TI.no,
 TI.no,
 TI.no,
 TI.no,
 TI.no,
 TI.no,
 TI.no,
 ⟨false,1,[.v (.pointer none)],[],(.pt 1 false),[]⟩,
 TI.no,
 TI.no,
 TI.no,
 TI.no,
 ⟨false,1,[.sl 1 [] (some [])],[.v (.int .i64 0)],(.sl 1 false 8 false),[]⟩,
 TI.no,
 ⟨false,1,[.v (.int .u64 0)],[],(.int .u64),[]⟩,
 TI.no,
 TI.no,
 TI.no,
 TI.no,
 TI.no,
 TI.no,
 TI.no,
 TI.no,
 TI.no,
 TI.no,
 TI.no,
 TI.no,
 TI.no,
 ⟨false,1,[.v (.pointer none)],[],(.pt 6 true),[]⟩,
 ⟨true,6,[.v (.string ⟨#[]⟩),.v (.int .i64 0),.v (.int .i64 0),.v (.int .i64 0),.v (.int .i64 0),.v (.int .i64 0)],[],(.st [(0,1,false),(1,1,false),(2,1,false),(3,1,false),(4,1,false),(5,1,false)]),[]⟩,
 ⟨true,6,[.v (.string ⟨#[]⟩),.v (.int .i64 0),.v (.int .i64 0),.v (.int .i64 0),.v (.int .i64 0),.v (.int .i64 0)],[],(.st [(0,1,false),(1,1,false),(2,1,false),(3,1,false),(4,1,false),(5,1,false)]),[3,1,1,1,1,1]⟩,
 TI.no,
 TI.no,
 TI.no,
 TI.no,
 TI.no,
 ⟨true,4,[.v (.pointer none),.v (.pointer none),.v (.pointer none),.v (.string ⟨#[]⟩)],[],(.st [(0,1,false),(1,1,false),(2,1,false),(3,1,false)]),[]⟩,
 ⟨true,4,[.v (.pointer none),.v (.pointer none),.v (.pointer none),.v (.string ⟨#[]⟩)],[],(.st [(0,1,false),(1,1,false),(2,1,false),(3,1,false)]),[]⟩,
 TI.no,
 TI.no,
 TI.no,
 ⟨false,1,[.v (.int .u32 0)],[],(.int .u32),[]⟩,
 ⟨false,1,[.v (.int .u8 0)],[],(.int .u8),[]⟩,
 ⟨false,1,[.v (.int .u8 0)],[],(.int .u8),[]⟩,
 TI.no,
 ⟨false,1,[.v (.pointer none)],[],(.pt 1 false),[]⟩,
 ⟨false,1,[.v (.int .i32 0)],[],(.int .i32),[]⟩,
 ⟨false,1,[.v (.int .i32 0)],[],(.int .i32),[]⟩,
 ⟨true,11,[.v (.int .u64 0),.v (.int .u64 0),.v (.int .u32 0),.v (.int .u8 0),.v (.int .u8 0),.v (.int .u8 0),.v (.int .u8 0),.v .nilFunc,.v (.pointer none),.v (.int .i32 0),.v (.int .i32 0)],[],(.st [(0,1,false),(1,1,false),(2,1,false),(3,1,false),(4,1,false),(5,1,false),(6,1,false),(7,1,false),(8,1,false),(9,1,false),(10,1,false)]),[]⟩,
 ⟨true,11,[.v (.int .u64 0),.v (.int .u64 0),.v (.int .u32 0),.v (.int .u8 0),.v (.int .u8 0),.v (.int .u8 0),.v (.int .u8 0),.v .nilFunc,.v (.pointer none),.v (.int .i32 0),.v (.int .i32 0)],[],(.st [(0,1,false),(1,1,false),(2,1,false),(3,1,false),(4,1,false),(5,1,false),(6,1,false),(7,1,false),(8,1,false),(9,1,false),(10,1,false)]),[]⟩,
 ⟨false,1,[.v (.pointer none)],[],.sc,[]⟩
]
def tiOf (t:Nat):TI:=T.at t
theorem tiA:tiOf=fun t=>T.at t:=rfl
theorem tabOk:TabOk Try.prog T:=TabOk.of_check (by kernel_rfl)
theorem mixed:Try.prog.follows .mixedOrders=true:=by kernel_rfl
def G0:Glob:=fun _=>none
def z0n {ρ:Type} (fail:ρ) (r:List CV) (k:Int→Int→EL→ρ):ρ:=match r with
 | [.v (.int .i64 c0),.v (.int .i64 c1),.sl 3 c2 none]=>k c0 c1 c2
 | _=>fail
theorem z0j {r:List CV} {k:Int→Int→EL→Prop} (h:z0n False r k):∃ (c0:Int) (c1:Int) (c2:EL),r=[.v (.int .i64 c0),.v (.int .i64 c1),.sl 3 c2 none]∧k c0 c1 c2:=by
 unfold z0n at h;split at h
 ·exact⟨_,_,_,rfl,h⟩
 ·exact h.elim
def z0i {ρ:Type} (fail:ρ) (r:List CV) (k:Int→Int→ByteArray→EL→EL→ρ):ρ:=match r with
 | [.v (.int .i64 c0),.v (.int .i64 c1),.v (.string c2),.sl 3 c3 none,.sl 5 c4 none]=>k c0 c1 c2 c3 c4
 | _=>fail
theorem z0e {r:List CV} {k:Int→Int→ByteArray→EL→EL→Prop} (h:z0i False r k):∃ (c0:Int) (c1:Int) (c2:ByteArray) (c3:EL) (c4:EL),r=[.v (.int .i64 c0),.v (.int .i64 c1),.v (.string c2),.sl 3 c3 none,.sl 5 c4 none]∧k c0 c1 c2 c3 c4:=by
 unfold z0i at h;split at h
 ·exact⟨_,_,_,_,_,rfl,h⟩
 ·exact h.elim
def w5e {ρ:Type} (fail:ρ) (r:List CV) (k:Int→ρ):ρ:=match r with
 | [.v (.int .i64 c0)]=>k c0
 | _=>fail
theorem w6o {r:List CV} {k:Int→Prop} (h:w5e False r k):∃ (c0:Int),r=[.v (.int .i64 c0)]∧k c0:=by
 unfold w5e at h;split at h
 ·exact⟨_,rfl,h⟩
 ·exact h.elim
def rw_u8 {ρ:Type} (fail:ρ) (r:List CV) (k:Int→ρ):ρ:=match r with
 | [.v (.int .u8 c0)]=>k c0
 | _=>fail
theorem w1n {r:List CV} {k:Int→Prop} (h:rw_u8 False r k):∃ (c0:Int),r=[.v (.int .u8 c0)]∧k c0:=by
 unfold rw_u8 at h;split at h
 ·exact⟨_,rfl,h⟩
 ·exact h.elim
def rw_s {ρ:Type} (fail:ρ) (r:List CV) (k:ByteArray→ρ):ρ:=match r with
 | [.v (.string c0)]=>k c0
 | _=>fail
theorem w5d {r:List CV} {k:ByteArray→Prop} (h:rw_s False r k):∃ (c0:ByteArray),r=[.v (.string c0)]∧k c0:=by
 unfold rw_s at h;split at h
 ·exact⟨_,rfl,h⟩
 ·exact h.elim
def rw_l1 {ρ:Type} (fail:ρ) (r:List CV) (k:EL→ρ):ρ:=match r with
 | [.sl 1 c0 none]=>k c0
 | _=>fail
theorem z5s {r:List CV} {k:EL→Prop} (h:rw_l1 False r k):∃ (c0:EL),r=[.sl 1 c0 none]∧k c0:=by
 unfold rw_l1 at h;split at h
 ·exact⟨_,rfl,h⟩
 ·exact h.elim
def p139_1 {ρ:Type} (fail:ρ) (fu:Nat) (K0:Int→Int→Int→ρ) (z3 j6:Int) (j7:Bool):ρ :=
 bif j7 then (K0 0 0 5) else (K0 j6 (z0d .add .i64 z3 1) 0)
def p139_2 {ρ:Type} (fail:ρ) (fu:Nat) (K0:Int→Int→Int→ρ) (rec1:Int→Int→Int→ρ) (z1 z2 z3 c4:Int) (j5:Bool):ρ :=
 bif j5 then (K0 0 0 4) else (gd ((0:Int)≤(IntKind.u64.wrap (z0d .mul .i64 7 z3))) fail (bif (z0a .geq c4 128) then (rec1 (z0d .or .u64 z1 (z0d .shl .u64 (IntKind.u64.wrap (z0d .andNot .u8 c4 128)) (IntKind.u64.wrap (z0d .mul .i64 7 z3)))) z2 (z0d .add .i64 z3 1)) else (bif (z0a .eql c4 0) then (p139_1 fail fu K0 z3 (z0d .or .u64 z1 (z0d .shl .u64 (IntKind.u64.wrap (z0d .andNot .u8 c4 128)) (IntKind.u64.wrap (z0d .mul .i64 7 z3)))) (z0a .gtr z3 0)) else (p139_1 fail fu K0 z3 (z0d .or .u64 z1 (z0d .shl .u64 (IntKind.u64.wrap (z0d .andNot .u8 c4 128)) (IntKind.u64.wrap (z0d .mul .i64 7 z3)))) false))))
def p139_3 {ρ:Type} (fail:ρ) (fu:Nat) (K0:Int→Int→Int→ρ) (rec1:Int→Int→Int→ρ) (x0:EL) (z1 z2 z3:Int):ρ :=
 bif (z0a .lss z3 z2) then (gd ((0:Int)≤z3) fail (gd ((z3:Int) < (x0.length:Nat)) fail (rw_u8 fail (List.getD x0 ((z3:Int).toNat) []) (fun c4=>bif (z0a .eql z3 9) then (p139_2 fail fu K0 rec1 z1 z2 z3 c4 (z0a .gtr c4 1)) else (p139_2 fail fu K0 rec1 z1 z2 z3 c4 false))))) else (K0 0 0 2)
def p139_3L {ρ:Type} (fail:ρ) (fu:Nat) (K0:Int→Int→Int→ρ) (x0:EL):Nat→Int→Int→Int→ρ
 | 0,_,_,_=>fail
 | n + 1,z1,z2,z3=>p139_3 fail fu K0 (p139_3L fail fu K0 x0 n) x0 z1 z2 z3
def p139 {ρ:Type} (fail:ρ) (fu:Nat) (K0:Int→Int→Int→ρ) (x0:EL):ρ :=
 p139_3L fail fu K0 x0 fu 0 ((x0.length:Nat):Int) 0
theorem d_p139 (fu:Nat){K0:Int→Int→Int→Prop}(L:EL→Nat)(hN:L=List.length){x0:EL}(h:p139 False fu K0 x0):Den Try.prog G0 139 [.c (.sl 1 x0 none)] (fun r bs=>(∃ (y0 y1 y2:Int) (o0:OV),(r=.tup [.c (.v (.int .u64 y0)),.c (.v (.int .i64 y1)),.c (.v (.int .i64 y2))]∧bs=[o0])∧K0 y0 y1 y2)):=by
 obtain⟨O,hO⟩:∃ O,O=std 0 T G0 (Den Try.prog G0):=⟨_,rfl⟩
 have hLO:L=O.len:=by rw [hN,hO];rfl
 subst hLO
 refine den_h hO tiA mixed tabOk (fn:=Try.f139) (sh:=true) (by kernel_rfl) rfl rfl rfl rfl ?_
 intro Q b
 unfold p139 at h
 conv=>cbv
 refine z0r hO tiA [2,7,8,9] [] [] (fun (n:Nat) tm m=>∃ (z1:Int) (z2:Int) (z3:Int),((tm=frame 0 43 [(2,.c (.v (.int .u64 z1))),(7,.c (.sl 1 x0 none)),(8,.c (.v (.int .i64 z2))),(9,.c (.v (.int .i64 z3)))]∧m=⟨[],1⟩))∧p139_3L False fu K0 x0 n z1 z2 z3) (fun n=>n) fu ⟨0,((x0.length:Nat):Int),0,⟨(by (conv=>lhs;cbv)<;>(subst hO;rfl)),(by (conv=>lhs;cbv)<;>(subst hO;rfl))⟩,h⟩ ?_
 rintro n1 tm m L ⟨z1,z2,z3,hs,h⟩ hLn1
 (cases n1 with
 | zero=>rw [p139_3L] at h;exact h.elim
 | succ n1 =>
 rw [p139_3L] at h
 unfold p139_3 at h
 obtain⟨rfl,rfl⟩:=hs
 conv=>cbv
 refine br_h hO h (by subst hO;rfl) (fun k1 h=>?_) (fun k1 h=>?_)
 conv=>cbv
 refine z0b hO ?_
 conv=>cbv
 refine and_h h (fun g=>(by subst hO;exact g)) (fun h=>?_)
 refine and_h h (fun g=>(by subst hO;exact g)) (fun h=>?_)
 obtain⟨c4,hr,h⟩:=w1n h
 refine z0m hO _ (by subst hO;exact hr) ?_
 clear hr
 conv=>cbv
 refine z0u hO tiA [2,5,6,7,8,9,19] [] [] (fun tm m=>∃ (j5:Bool),((tm=frame 0 43 [(2,.c (.v (.int .u64 z1))),(5,.c (.v (.int .i64 z3))),(6,.c (.v (.int .u8 c4))),(7,.c (.sl 1 x0 none)),(8,.c (.v (.int .i64 z2))),(9,.c (.v (.int .i64 z3))),(19,.c (.v (.bool j5)))]∧m=⟨[],1⟩))∧p139_2 False fu K0 (p139_3L False fu K0 x0 n1) z1 z2 z3 c4 j5) (fun L hL_2=>?_) ?_
 conv=>cbv
 refine br_h hO h (by subst hO;rfl) (fun k6 h=>?_) (fun k6 h=>?_)
 conv=>cbv
 refine br_t hO k6 ?_
 conv=>cbv
 refine br_t hO k6 ?_
 conv=>cbv
 exact hL_2 _ _ ⟨(z0a .gtr c4 1),⟨(by (conv=>lhs;cbv)<;>(subst hO;rfl)),(by (conv=>lhs;cbv)<;>(subst hO;rfl))⟩,h⟩
 conv=>cbv
 refine br_f hO k6 ?_
 conv=>cbv
 refine br_f hO k6 ?_
 conv=>cbv
 exact hL_2 _ _ ⟨false,⟨(by (conv=>lhs;cbv)<;>(subst hO;rfl)),(by (conv=>lhs;cbv)<;>(subst hO;rfl))⟩,h⟩
 rintro tm m ⟨j5,hs,h⟩
 unfold p139_2 at h
 obtain⟨rfl,rfl⟩:=hs
 conv=>cbv
 refine br_h hO h (by subst hO;rfl) (fun k2 h=>?_) (fun k2 h=>?_)
 conv=>cbv
 rw [b]
 exact⟨0,0,4,_,⟨(by subst hO;rfl),(by subst hO;rfl)⟩,h⟩
 conv=>cbv
 refine z0b hO ?_
 conv=>cbv
 refine and_h h (fun g=>(by subst hO;exact g)) (fun h=>?_)
 refine br_h hO h (by subst hO;rfl) (fun k3 h=>?_) (fun k3 h=>?_)
 conv=>cbv
 refine z0b hO ?_
 conv=>cbv
 exact hLn1 n1 _ _ (Nat.lt_succ_self n1) ⟨z0d .or .u64 z1 (z0d .shl .u64 (IntKind.u64.wrap (z0d .andNot .u8 c4 128)) (IntKind.u64.wrap (z0d .mul .i64 7 z3))),z2,z0d .add .i64 z3 1,⟨(by (conv=>lhs;cbv)<;>(subst hO;rfl)),(by (conv=>lhs;cbv)<;>(subst hO;rfl))⟩,h⟩
 conv=>cbv
 refine z0u hO tiA [2,5,35] [] [] (fun tm m=>∃ (j6:Int) (j7:Bool),((tm=frame 0 43 [(2,.c (.v (.int .u64 j6))),(5,.c (.v (.int .i64 z3))),(35,.c (.v (.bool j7)))]∧m=⟨[],1⟩))∧p139_1 False fu K0 z3 j6 j7) (fun L hL_1=>?_) ?_
 conv=>cbv
 refine br_h hO h (by subst hO;rfl) (fun k5 h=>?_) (fun k5 h=>?_)
 conv=>cbv
 refine br_t hO k5 ?_
 conv=>cbv
 refine br_t hO k5 ?_
 conv=>cbv
 exact hL_1 _ _ ⟨z0d .or .u64 z1 (z0d .shl .u64 (IntKind.u64.wrap (z0d .andNot .u8 c4 128)) (IntKind.u64.wrap (z0d .mul .i64 7 z3))),(z0a .gtr z3 0),⟨(by (conv=>lhs;cbv)<;>(subst hO;rfl)),(by (conv=>lhs;cbv)<;>(subst hO;rfl))⟩,h⟩
 conv=>cbv
 refine br_f hO k5 ?_
 conv=>cbv
 refine br_f hO k5 ?_
 conv=>cbv
 exact hL_1 _ _ ⟨z0d .or .u64 z1 (z0d .shl .u64 (IntKind.u64.wrap (z0d .andNot .u8 c4 128)) (IntKind.u64.wrap (z0d .mul .i64 7 z3))),false,⟨(by (conv=>lhs;cbv)<;>(subst hO;rfl)),(by (conv=>lhs;cbv)<;>(subst hO;rfl))⟩,h⟩
 rintro tm m ⟨j6,j7,hs,h⟩
 unfold p139_1 at h
 obtain⟨rfl,rfl⟩:=hs
 conv=>cbv
 refine br_h hO h (by subst hO;rfl) (fun k4 h=>?_) (fun k4 h=>?_)
 conv=>cbv
 rw [b]
 exact⟨0,0,5,_,⟨(by subst hO;rfl),(by subst hO;rfl)⟩,h⟩
 conv=>cbv
 rw [b]
 exact⟨j6,z0d .add .i64 z3 1,0,_,⟨(by subst hO;rfl),(by subst hO;rfl)⟩,h⟩
 conv=>cbv
 rw [b]
 exact⟨0,0,2,_,⟨(by subst hO;rfl),(by subst hO;rfl)⟩,h⟩)
def p94_1 {ρ:Type} (fail:ρ) (fu:Nat) (K0:EL→Int→ρ) (x0:EL) (j1:Int):ρ :=
 K0 x0 j1
def p94 {ρ:Type} (fail:ρ) (fu:Nat) (K0:EL→Int→ρ) (x0:EL) (x1 x2:Int):ρ :=
 bif (z0a .eql x1 0) then (p94_1 fail fu K0 x0 x2) else (p94_1 fail fu K0 x0 x1)
def p116 {ρ:Type} (fail:ρ) (fu:Nat) (K0:Int→EL→Int→ρ) (x0:EL) (x1:Int):ρ :=
 bif (z0a .neq x1 0) then (K0 0 x0 x1) else (p139 fail fu (fun y1 y2 y3=>p94 fail fu (fun y4 y5=>gd ((0:Int)≤y2) fail (gd ((y2:Int)≤(y4.length:Nat)) fail (gd (((y4.length:Nat):Int)≤(y4.length:Nat)) fail (K0 y1 (List.drop ((y2:Int).toNat) (List.take (((y4.length:Nat):Int).toNat) y4)) y5)))) x0 x1 y3) x0)
def p93_1 {ρ:Type} (fail:ρ) (fu:Nat) (K0:Int→EL→Int→ρ) (x2 y1:Int) (y2:EL) (y3:Int) (j4:Bool):ρ :=
 bif j4 then (p94 fail fu (fun y5 y6=>K0 x2 y5 y6) y2 y3 5) else (K0 (IntKind.i64.wrap y1) y2 y3)
def p93 {ρ:Type} (fail:ρ) (fu:Nat) (K0:Int→EL→Int→ρ) (x0:EL) (x1 x2 x3:Int):ρ :=
 p116 fail fu (fun y1 y2 y3=>bif (z0a .lss y1 (IntKind.u64.wrap x2)) then (p93_1 fail fu K0 x2 y1 y2 y3 true) else (p93_1 fail fu K0 x2 y1 y2 y3 (z0a .gtr y1 (IntKind.u64.wrap x3)))) x0 x1
theorem d_p94 (fu:Nat){K0:EL→Int→Prop}(L:EL→Nat)(hN:L=List.length){x0:EL}{x1 x2:Int}(h:p94 False fu K0 x0 x1 x2):Den Try.prog G0 94 [.ptr [.c (.sl 1 x0 none),.c (.v (.int .i64 x1))],.c (.v (.int .i64 x2))] (fun r bs=>(∃ (y0:EL) (y1:Int) (o1:OV),(r=.tup []∧bs=[.ptr [.c (.sl 1 y0 none),.c (.v (.int .i64 y1))],o1])∧K0 y0 y1)):=by
 obtain⟨O,hO⟩:∃ O,O=std 1 T G0 (Den Try.prog G0):=⟨_,rfl⟩
 have hLO:L=O.len:=by rw [hN,hO];rfl
 subst hLO
 refine den_h hO tiA mixed tabOk (fn:=Try.f94) (sh:=true) (by kernel_rfl) rfl rfl rfl rfl ?_
 intro Q b
 unfold p94 at h
 conv=>cbv
 refine z0f hO tiA h (by subst hO;rfl) [] [0] [] (fun tm m=>∃ (j1:Int),((tm=frame 0 13 []∧m=⟨[(0,.blk 0 [.c (.sl 1 x0 none),.c (.v (.int .i64 j1))])],2⟩))∧p94_1 False fu K0 x0 j1) (fun k1 h L hL_1=>?_) (fun k1 h L hL_1=>?_) ?_
 conv=>cbv
 exact hL_1 _ _ ⟨x2,⟨(by (conv=>lhs;cbv)<;>(subst hO;rfl)),(by (conv=>lhs;cbv)<;>(subst hO;rfl))⟩,h⟩
 conv=>cbv
 exact hL_1 _ _ ⟨x1,⟨(by (conv=>lhs;cbv)<;>(subst hO;rfl)),(by (conv=>lhs;cbv)<;>(subst hO;rfl))⟩,h⟩
 rintro tm m ⟨j1,hs,h⟩
 unfold p94_1 at h
 obtain⟨rfl,rfl⟩:=hs
 conv=>cbv
 rw [b]
 exact⟨x0,j1,_,⟨(by subst hO;rfl),(by subst hO;rfl)⟩,h⟩
theorem d_p116 (fu:Nat){K0:Int→EL→Int→Prop}(L:EL→Nat)(hN:L=List.length){x0:EL}{x1:Int}(h:p116 False fu K0 x0 x1):Den Try.prog G0 116 [.ptr [.c (.sl 1 x0 none),.c (.v (.int .i64 x1))]] (fun r bs=>(∃ (y0:Int) (y1:EL) (y2:Int),(r=.c (.v (.int .u64 y0))∧bs=[.ptr [.c (.sl 1 y1 none),.c (.v (.int .i64 y2))]])∧K0 y0 y1 y2)):=by
 obtain⟨O,hO⟩:∃ O,O=std 1 T G0 (Den Try.prog G0):=⟨_,rfl⟩
 have hLO:L=O.len:=by rw [hN,hO];rfl
 subst hLO
 refine den_h hO tiA mixed tabOk (fn:=Try.f116) (sh:=true) (by kernel_rfl) rfl rfl rfl rfl ?_
 intro Q b
 unfold p116 at h
 conv=>cbv
 refine br_h hO h (by subst hO;rfl) (fun k1 h=>?_) (fun k1 h=>?_)
 conv=>cbv
 rw [b]
 exact⟨0,x0,x1,⟨(by subst hO;rfl),(by subst hO;rfl)⟩,h⟩
 conv=>cbv
 refine z0b hO ?_
 conv=>cbv
 refine z0c hO [.shut] (d_p139 fu O.len hN h) ?_
 intro e Q a b
 conv=>cbv
 refine⟨by subst a hO;rfl,?_⟩
 intro r bs d
 rw [b] at d
 clear a b h
 obtain⟨y1,y2,y3,_,⟨rfl,rfl⟩,h⟩:=d
 conv=>cbv
 refine z0c hO [.ref 2,.shut] (d_p94 fu O.len hN h) ?_
 intro e Q a b
 conv=>cbv
 refine⟨by subst a hO;rfl,?_⟩
 intro r bs d
 rw [b] at d
 clear a b h
 obtain⟨y4,y5,_,⟨rfl,rfl⟩,h⟩:=d
 conv=>cbv
 refine and_h h (fun g=>(by subst hO;exact g)) (fun h=>?_)
 refine and_h h (fun g=>(by subst hO;exact g)) (fun h=>?_)
 refine and_h h (fun g=>(by subst hO;exact g)) (fun h=>?_)
 rw [b]
 exact⟨y1,List.drop ((y2:Int).toNat) (List.take (((y4.length:Nat):Int).toNat) y4),y5,⟨(by subst hO;rfl),(by subst hO;rfl)⟩,h⟩
theorem d_p93 (fu:Nat){K0:Int→EL→Int→Prop}(L:EL→Nat)(hN:L=List.length){x0:EL}{x1 x2 x3:Int}(h:p93 False fu K0 x0 x1 x2 x3):Den Try.prog G0 93 [.ptr [.c (.sl 1 x0 none),.c (.v (.int .i64 x1))],.c (.v (.int .i64 x2)),.c (.v (.int .i64 x3))] (fun r bs=>(∃ (y0:Int) (y1:EL) (y2:Int) (o1 o2:OV),(r=.c (.v (.int .i64 y0))∧bs=[.ptr [.c (.sl 1 y1 none),.c (.v (.int .i64 y2))],o1,o2])∧K0 y0 y1 y2)):=by
 obtain⟨O,hO⟩:∃ O,O=std 1 T G0 (Den Try.prog G0):=⟨_,rfl⟩
 have hLO:L=O.len:=by rw [hN,hO];rfl
 subst hLO
 refine den_h hO tiA mixed tabOk (fn:=Try.f93) (sh:=true) (by kernel_rfl) rfl rfl rfl rfl ?_
 intro Q b
 unfold p93 at h
 conv=>cbv
 refine z0c hO [.ref 2] (d_p116 fu O.len hN h) ?_
 intro e Q a b
 conv=>cbv
 refine⟨by subst a hO;rfl,?_⟩
 intro r bs d
 rw [b] at d
 clear a b h
 obtain⟨y1,y2,y3,⟨rfl,rfl⟩,h⟩:=d
 conv=>cbv
 refine z0u hO tiA [0,1,7,19] [0] [] (fun tm m=>∃ (j4:Bool),((tm=frame 0 25 [(0,.p 0 0 0),(1,.c (.v (.int .i64 x2))),(7,.c (.v (.int .u64 y1))),(19,.c (.v (.bool j4)))]∧m=⟨[(0,.blk 0 [.c (.sl 1 y2 none),.c (.v (.int .i64 y3))])],2⟩))∧p93_1 False fu K0 x2 y1 y2 y3 j4) (fun L hL_1=>?_) ?_
 conv=>cbv
 refine br_h hO h (by subst hO;rfl) (fun k2 h=>?_) (fun k2 h=>?_)
 conv=>cbv
 refine br_t hO k2 ?_
 conv=>cbv
 refine br_t hO k2 ?_
 conv=>cbv
 refine br_t hO k2 ?_
 conv=>cbv
 refine br_t hO k2 ?_
 conv=>cbv
 exact hL_1 _ _ ⟨true,⟨(by (conv=>lhs;cbv)<;>(subst hO;rfl)),(by (conv=>lhs;cbv)<;>(subst hO;rfl))⟩,h⟩
 conv=>cbv
 refine br_f hO k2 ?_
 conv=>cbv
 refine br_f hO k2 ?_
 conv=>cbv
 refine br_f hO k2 ?_
 conv=>cbv
 refine br_f hO k2 ?_
 conv=>cbv
 exact hL_1 _ _ ⟨(z0a .gtr y1 (IntKind.u64.wrap x3)),⟨(by (conv=>lhs;cbv)<;>(subst hO;rfl)),(by (conv=>lhs;cbv)<;>(subst hO;rfl))⟩,h⟩
 rintro tm m ⟨j4,hs,h⟩
 unfold p93_1 at h
 obtain⟨rfl,rfl⟩:=hs
 conv=>cbv
 refine br_h hO h (by subst hO;rfl) (fun k1 h=>?_) (fun k1 h=>?_)
 conv=>cbv
 refine z0c hO [.ref 2,.shut] (d_p94 fu O.len hN h) ?_
 intro e Q a b
 conv=>cbv
 refine⟨by subst a hO;rfl,?_⟩
 intro r bs d
 rw [b] at d
 clear a b h
 obtain⟨y5,y6,_,⟨rfl,rfl⟩,h⟩:=d
 conv=>cbv
 rw [b]
 exact⟨x2,y5,y6,_,_,⟨(by subst hO;rfl),(by subst hO;rfl)⟩,h⟩
 conv=>cbv
 refine z0b hO ?_
 conv=>cbv
 rw [b]
 exact⟨IntKind.i64.wrap y1,y2,y3,_,_,⟨(by subst hO;rfl),(by subst hO;rfl)⟩,h⟩
def p91 {ρ:Type} (fail:ρ) (fu:Nat) (K0:Int→EL→Int→ρ) (x0:EL) (x1:Int):ρ :=
 p116 fail fu (fun y1 y2 y3=>bif (z0a .gtr y1 1073741824) then (p94 fail fu (fun y4 y5=>K0 0 y4 y5) y2 y3 4) else (K0 (IntKind.i64.wrap y1) y2 y3)) x0 x1
theorem d_p91 (fu:Nat){K0:Int→EL→Int→Prop}(L:EL→Nat)(hN:L=List.length){x0:EL}{x1:Int}(h:p91 False fu K0 x0 x1):Den Try.prog G0 91 [.ptr [.c (.sl 1 x0 none),.c (.v (.int .i64 x1))]] (fun r bs=>(∃ (y0:Int) (y1:EL) (y2:Int),(r=.c (.v (.int .i64 y0))∧bs=[.ptr [.c (.sl 1 y1 none),.c (.v (.int .i64 y2))]])∧K0 y0 y1 y2)):=by
 obtain⟨O,hO⟩:∃ O,O=std 1 T G0 (Den Try.prog G0):=⟨_,rfl⟩
 have hLO:L=O.len:=by rw [hN,hO];rfl
 subst hLO
 refine den_h hO tiA mixed tabOk (fn:=Try.f91) (sh:=true) (by kernel_rfl) rfl rfl rfl rfl ?_
 intro Q b
 unfold p91 at h
 conv=>cbv
 refine z0c hO [.ref 2] (d_p116 fu O.len hN h) ?_
 intro e Q a b
 conv=>cbv
 refine⟨by subst a hO;rfl,?_⟩
 intro r bs d
 rw [b] at d
 clear a b h
 obtain⟨y1,y2,y3,⟨rfl,rfl⟩,h⟩:=d
 conv=>cbv
 refine br_h hO h (by subst hO;rfl) (fun k1 h=>?_) (fun k1 h=>?_)
 conv=>cbv
 refine z0c hO [.ref 2,.shut] (d_p94 fu O.len hN h) ?_
 intro e Q a b
 conv=>cbv
 refine⟨by subst a hO;rfl,?_⟩
 intro r bs d
 rw [b] at d
 clear a b h
 obtain⟨y4,y5,_,⟨rfl,rfl⟩,h⟩:=d
 conv=>cbv
 rw [b]
 exact⟨0,y4,y5,⟨(by subst hO;rfl),(by subst hO;rfl)⟩,h⟩
 conv=>cbv
 refine z0b hO ?_
 conv=>cbv
 rw [b]
 exact⟨IntKind.i64.wrap y1,y2,y3,⟨(by subst hO;rfl),(by subst hO;rfl)⟩,h⟩
def p126 {ρ:Type} (fail:ρ) (fu:Nat) (K0:EL→Int→Int→ρ) (x0:EL) (x1:Int):ρ :=
 p139 fail fu (fun y1 y2 y3=>bif (z0a .neq y3 0) then (K0 nilE 0 y3) else (bif (z0a .gtr y1 (IntKind.u64.wrap (if 0 > x1 then 0 else x1))) then (K0 nilE 0 3) else (bif (z0a .gtr y1 (IntKind.u64.wrap (z0d .sub .i64 ((x0.length:Nat):Int) y2))) then (K0 nilE 0 2) else (gd ((0:Int)≤y2) fail (gd ((y2:Int)≤(z0d .add .i64 y2 (IntKind.i64.wrap y1))) fail (gd ((z0d .add .i64 y2 (IntKind.i64.wrap y1):Int)≤(z0d .add .i64 y2 (IntKind.i64.wrap y1))) fail (gd ((z0d .add .i64 y2 (IntKind.i64.wrap y1):Int)≤(x0.length:Nat)) fail (gd (0=nilE.length) fail (gd ((nilE.length + (List.drop ((y2:Int).toNat) (List.take ((z0d .add .i64 y2 (IntKind.i64.wrap y1):Int).toNat) x0)).length) * 1≤35184372088832) fail (K0 (nilE++(List.drop ((y2:Int).toNat) (List.take ((z0d .add .i64 y2 (IntKind.i64.wrap y1):Int).toNat) x0))) (z0d .add .i64 y2 (IntKind.i64.wrap y1)) 0)))))))))) x0
def p95 {ρ:Type} (fail:ρ) (fu:Nat) (K0:EL→EL→Int→ρ) (x0:EL) (x1 x2:Int):ρ :=
 bif (z0a .neq x1 0) then (K0 nilE x0 x1) else (p126 fail fu (fun y1 y2 y3=>p94 fail fu (fun y4 y5=>gd ((0:Int)≤y2) fail (gd ((y2:Int)≤(y4.length:Nat)) fail (gd (((y4.length:Nat):Int)≤(y4.length:Nat)) fail (K0 y1 (List.drop ((y2:Int).toNat) (List.take (((y4.length:Nat):Int).toNat) y4)) y5)))) x0 x1 y3) x0 x2)
theorem d_p126 (fu:Nat){K0:EL→Int→Int→Prop}(L:EL→Nat)(hN:L=List.length){x0:EL}{x1:Int}(h:p126 False fu K0 x0 x1):Den Try.prog G0 126 [.c (.sl 1 x0 none),.c (.v (.int .i64 x1))] (fun r bs=>(∃ (y0:EL) (y1 y2:Int) (o0 o1:OV),(r=.tup [.c (.sl 1 y0 none),.c (.v (.int .i64 y1)),.c (.v (.int .i64 y2))]∧bs=[o0,o1])∧K0 y0 y1 y2)):=by
 obtain⟨O,hO⟩:∃ O,O=std 0 T G0 (Den Try.prog G0):=⟨_,rfl⟩
 have hLO:L=O.len:=by rw [hN,hO];rfl
 subst hLO
 refine den_h hO tiA mixed tabOk (fn:=Try.f126) (sh:=true) (by kernel_rfl) rfl rfl rfl rfl ?_
 intro Q b
 unfold p126 at h
 conv=>cbv
 refine z0c hO [.shut] (d_p139 fu O.len hN h) ?_
 intro e Q a b
 conv=>cbv
 refine⟨by subst a hO;rfl,?_⟩
 intro r bs d
 rw [b] at d
 clear a b h
 obtain⟨y1,y2,y3,_,⟨rfl,rfl⟩,h⟩:=d
 conv=>cbv
 refine br_h hO h (by subst hO;rfl) (fun k1 h=>?_) (fun k1 h=>?_)
 conv=>cbv
 rw [b]
 exact⟨nilE,0,y3,_,_,⟨(by subst hO;rfl),(by subst hO;rfl)⟩,h⟩
 conv=>cbv
 refine br_h hO h (by subst hO;rfl) (fun k2 h=>?_) (fun k2 h=>?_)
 conv=>cbv
 rw [b]
 exact⟨nilE,0,3,_,_,⟨(by subst hO;rfl),(by subst hO;rfl)⟩,h⟩
 conv=>cbv
 refine br_h hO h (by subst hO;rfl) (fun k3 h=>?_) (fun k3 h=>?_)
 conv=>cbv
 rw [b]
 exact⟨nilE,0,2,_,_,⟨(by subst hO;rfl),(by subst hO;rfl)⟩,h⟩
 conv=>cbv
 refine z0b hO ?_
 conv=>cbv
 refine z0b hO ?_
 conv=>cbv
 refine z0b hO ?_
 conv=>cbv
 refine and_h h (fun g=>(by subst hO;exact g)) (fun h=>?_)
 refine and_h h (fun g=>(by subst hO;exact g)) (fun h=>?_)
 refine and_h h (fun g=>(by subst hO;exact g)) (fun h=>?_)
 refine and_h h (fun g=>(by subst hO;exact g)) (fun h=>?_)
 refine and_h h (fun g=>(by subst hO;exact g)) (fun h=>?_)
 refine and_h h (fun g=>(by subst hO;exact g)) (fun h=>?_)
 refine z0o hO ?_
 conv=>cbv
 rw [b]
 exact⟨(nilE++(List.drop ((y2:Int).toNat) (List.take ((z0d .add .i64 y2 (IntKind.i64.wrap y1):Int).toNat) x0))),z0d .add .i64 y2 (IntKind.i64.wrap y1),0,_,_,⟨(by subst hO;rfl),(by subst hO;rfl)⟩,h⟩
theorem d_p95 (fu:Nat){K0:EL→EL→Int→Prop}(L:EL→Nat)(hN:L=List.length){x0:EL}{x1 x2:Int}(h:p95 False fu K0 x0 x1 x2):Den Try.prog G0 95 [.ptr [.c (.sl 1 x0 none),.c (.v (.int .i64 x1))],.c (.v (.int .i64 x2))] (fun r bs=>(∃ (y0 y1:EL) (y2:Int) (o1:OV),(r=.c (.sl 1 y0 none)∧bs=[.ptr [.c (.sl 1 y1 none),.c (.v (.int .i64 y2))],o1])∧K0 y0 y1 y2)):=by
 obtain⟨O,hO⟩:∃ O,O=std 1 T G0 (Den Try.prog G0):=⟨_,rfl⟩
 have hLO:L=O.len:=by rw [hN,hO];rfl
 subst hLO
 refine den_h hO tiA mixed tabOk (fn:=Try.f95) (sh:=true) (by kernel_rfl) rfl rfl rfl rfl ?_
 intro Q b
 unfold p95 at h
 conv=>cbv
 refine br_h hO h (by subst hO;rfl) (fun k1 h=>?_) (fun k1 h=>?_)
 conv=>cbv
 rw [b]
 exact⟨nilE,x0,x1,_,⟨(by subst hO;rfl),(by subst hO;rfl)⟩,h⟩
 conv=>cbv
 refine z0b hO ?_
 conv=>cbv
 refine z0c hO [.shut,.shut] (d_p126 fu O.len hN h) ?_
 intro e Q a b
 conv=>cbv
 refine⟨by subst a hO;rfl,?_⟩
 intro r bs d
 rw [b] at d
 clear a b h
 obtain⟨y1,y2,y3,_,_,⟨rfl,rfl⟩,h⟩:=d
 conv=>cbv
 refine z0c hO [.ref 2,.shut] (d_p94 fu O.len hN h) ?_
 intro e Q a b
 conv=>cbv
 refine⟨by subst a hO;rfl,?_⟩
 intro r bs d
 rw [b] at d
 clear a b h
 obtain⟨y4,y5,_,⟨rfl,rfl⟩,h⟩:=d
 conv=>cbv
 refine and_h h (fun g=>(by subst hO;exact g)) (fun h=>?_)
 refine and_h h (fun g=>(by subst hO;exact g)) (fun h=>?_)
 refine and_h h (fun g=>(by subst hO;exact g)) (fun h=>?_)
 rw [b]
 exact⟨y1,List.drop ((y2:Int).toNat) (List.take (((y4.length:Nat):Int).toNat) y4),y5,_,⟨(by subst hO;rfl),(by subst hO;rfl)⟩,h⟩
def p137_1 {ρ:Type} (fail:ρ) (fu:Nat) (K0:EL→Int→Int→ρ) (j1:EL) (j2 j3:Int):ρ :=
 K0 j1 j2 j3
def p137_2 {ρ:Type} (fail:ρ) (fu:Nat) (K0:EL→Int→Int→ρ) (j6:EL) (j7 j8:Int):ρ :=
 p137_1 fail fu K0 j6 j7 j8
def p137 {ρ:Type} (fail:ρ) (fu:Nat) (K0:EL→Int→Int→ρ) (x0:EL) (x1 x2 x3 x4 x5:Int):ρ :=
 bif (z0a .gtr (z0d .add .i64 x2 1) x3) then (p94 fail fu (fun y4 y5=>p137_1 fail fu K0 y4 y5 (z0d .add .i64 x2 1)) x0 x1 3) else (bif (z0a .gtr x4 x5) then (p94 fail fu (fun y9 y10=>p137_2 fail fu K0 y9 y10 (z0d .add .i64 x2 1)) x0 x1 6) else (p137_2 fail fu K0 x0 x1 (z0d .add .i64 x2 1)))
theorem d_p137 (fu:Nat){K0:EL→Int→Int→Prop}(L:EL→Nat)(hN:L=List.length){x0:EL}{x1 x2 x3 x4 x5:Int}(h:p137 False fu K0 x0 x1 x2 x3 x4 x5):Den Try.prog G0 137 [.ptr [.c (.sl 1 x0 none),.c (.v (.int .i64 x1))],.ptr [.c (.v (.int .i64 x2))],.c (.v (.int .i64 x3)),.c (.v (.int .i64 x4)),.c (.v (.int .i64 x5))] (fun r bs=>(∃ (y0:EL) (y1 y2:Int) (o2 o3 o4:OV),(r=.tup []∧bs=[.ptr [.c (.sl 1 y0 none),.c (.v (.int .i64 y1))],.ptr [.c (.v (.int .i64 y2))],o2,o3,o4])∧K0 y0 y1 y2)):=by
 obtain⟨O,hO⟩:∃ O,O=std 2 T G0 (Den Try.prog G0):=⟨_,rfl⟩
 have hLO:L=O.len:=by rw [hN,hO];rfl
 subst hLO
 refine den_h hO tiA mixed tabOk (fn:=Try.f137) (sh:=true) (by kernel_rfl) rfl rfl rfl rfl ?_
 intro Q b
 unfold p137 at h
 conv=>cbv
 refine z0f hO tiA h (by subst hO;rfl) [] [0,1] [] (fun tm m=>∃ (j1:EL) (j2:Int) (j3:Int),((tm=frame 0 29 []∧m=⟨[(0,.blk 0 [.c (.sl 1 j1 none),.c (.v (.int .i64 j2))]),(1,.blk 1 [.c (.v (.int .i64 j3))])],3⟩))∧p137_1 False fu K0 j1 j2 j3) (fun k1 h L hL_1=>?_) (fun k1 h L hL_1=>?_) ?_
 conv=>cbv
 refine z0c hO [.ref 2,.shut] (d_p94 fu O.len hN h) ?_
 intro e Q a b
 conv=>cbv
 refine⟨by subst a hO;rfl,?_⟩
 intro r bs d
 rw [b] at d
 clear a b h
 obtain⟨y4,y5,_,⟨rfl,rfl⟩,h⟩:=d
 conv=>cbv
 exact hL_1 _ _ ⟨y4,y5,z0d .add .i64 x2 1,⟨(by (conv=>lhs;cbv)<;>(subst hO;rfl)),(by (conv=>lhs;cbv)<;>(subst hO;rfl))⟩,h⟩
 conv=>cbv
 refine z0f hO tiA h (by subst hO;rfl) [] [0,1] [] (fun tm m=>∃ (j6:EL) (j7:Int) (j8:Int),((tm=frame 0 29 []∧m=⟨[(0,.blk 0 [.c (.sl 1 j6 none),.c (.v (.int .i64 j7))]),(1,.blk 1 [.c (.v (.int .i64 j8))])],3⟩))∧p137_2 False fu K0 j6 j7 j8) (fun k2 h L hL_2=>?_) (fun k2 h L hL_2=>?_) ?_
 conv=>cbv
 refine z0c hO [.ref 2,.shut] (d_p94 fu O.len hN h) ?_
 intro e Q a b
 conv=>cbv
 refine⟨by subst a hO;rfl,?_⟩
 intro r bs d
 rw [b] at d
 clear a b h
 obtain⟨y9,y10,_,⟨rfl,rfl⟩,h⟩:=d
 conv=>cbv
 exact hL_2 _ _ ⟨y9,y10,z0d .add .i64 x2 1,⟨(by (conv=>lhs;cbv)<;>(subst hO;rfl)),(by (conv=>lhs;cbv)<;>(subst hO;rfl))⟩,h⟩
 conv=>cbv
 exact hL_2 _ _ ⟨x0,x1,z0d .add .i64 x2 1,⟨(by (conv=>lhs;cbv)<;>(subst hO;rfl)),(by (conv=>lhs;cbv)<;>(subst hO;rfl))⟩,h⟩
 rintro tm m ⟨j6,j7,j8,hs,h⟩
 unfold p137_2 at h
 obtain⟨rfl,rfl⟩:=hs
 conv=>cbv
 exact hL_1 _ _ ⟨j6,j7,j8,⟨(by (conv=>lhs;cbv)<;>(subst hO;rfl)),(by (conv=>lhs;cbv)<;>(subst hO;rfl))⟩,h⟩
 rintro tm m ⟨j1,j2,j3,hs,h⟩
 unfold p137_1 at h
 obtain⟨rfl,rfl⟩:=hs
 conv=>cbv
 rw [b]
 exact⟨j1,j2,j3,_,_,_,⟨(by subst hO;rfl),(by subst hO;rfl)⟩,h⟩
theorem gd_y {ρ:Type} {p:Prop} [Decidable p] {f k:ρ} (h:p):gd p f k=k:=if_pos h
theorem eqlT {a b:Int} (h:a=b):z0a .eql a b=true:=by subst h;simp [z0a]
theorem eqlF {a b:Int} (h:a≠b):z0a .eql a b=false:=by simp [z0a,h]
theorem neqT {a b:Int} (h:a≠b):z0a .neq a b=true:=by simp [z0a,h]
theorem neqF {a b:Int} (h:a=b):z0a .neq a b=false:=by subst h;simp [z0a]
theorem lssT {a b:Int} (h:a < b):z0a .lss a b=true:=decide_eq_true h
theorem lssF {a b:Int} (h:b≤a):z0a .lss a b=false:=decide_eq_false (by omega)
theorem leqT {a b:Int} (h:a≤b):z0a .leq a b=true:=decide_eq_true h
theorem leqF {a b:Int} (h:b < a):z0a .leq a b=false:=decide_eq_false (by omega)
theorem gtrT {a b:Int} (h:b < a):z0a .gtr a b=true:=decide_eq_true h
theorem gtrF {a b:Int} (h:a≤b):z0a .gtr a b=false:=decide_eq_false (by omega)
theorem geqT {a b:Int} (h:b≤a):z0a .geq a b=true:=decide_eq_true h
theorem geqF {a b:Int} (h:a < b):z0a .geq a b=false:=decide_eq_false (by omega)
theorem addZ {a b:Int} (h1:-4611686018427387904≤a∧a≤4611686018427387903) (h2:-4611686018427387904≤b∧b≤4611686018427387903):z0d .add .i64 a b=a + b:=z5d (by omega)
theorem subZ {a b:Int} (h1:-4611686018427387904≤a∧a≤4611686018427387903) (h2:-4611686018427387904≤b∧b≤4611686018427387903):z0d .sub .i64 a b=a - b:=z5d (by omega)
theorem mulZ {a b:Int} (h:-4611686018427387904≤a * b∧a * b≤4611686018427387903):z0d .mul .i64 a b=a * b:=z5d (by omega)
theorem w9z (c:UInt8):z0d .andNot .u8 (c.toNat:Nat) 128=((c.toNat % 128:Nat):Int):=by
 have:∀ x:Fin 256,z0d .andNot .u8 (x.val:Nat) 128=((x.val % 128:Nat):Int):=by decide +kernel
 exact this ⟨c.toNat,c.toNat_lt⟩
theorem z6p (n:Nat) (h:n < 2 ^ 64):IntKind.u64.wrap ((n:Nat):Int)=((n:Nat):Int):=by
 have h':n < 18446744073709551616:=h
 exact w4x (by omega)
theorem k1o (a m i:Nat) (ha:a < 2 ^ (7 * i)) (hi:i≤9) (hm:m * 2 ^ (7 * i) < 2 ^ 64):z0d .or .u64 (a:Nat) (z0d .shl .u64 (m:Nat) ((7 * i:Nat):Int))=((a + m * 2 ^ (7 * i):Nat):Int):=by
 have hs:z0d .shl .u64 (m:Nat) ((7 * i:Nat):Int)=((m * 2 ^ (7 * i):Nat):Int):=by
  show IntKind.u64.wrap ((m:Int) * 2 ^ (min (((7 * i:Nat):Int)).toNat 64))=_
  have hmin:min (((7 * i:Nat):Int)).toNat 64=7 * i:=by rw [Int.toNat_natCast];omega
  have hp:(m:Int) * 2 ^ (7 * i)=((m * 2 ^ (7 * i):Nat):Int):=by rw [Int.natCast_mul,Int.natCast_pow];rfl
  rw [hmin,hp,z6p _ hm]
 rw [hs]
 show IntKind.u64.wrap (bOr 64 _ _:Nat)=_
 have ha2:a < 2 ^ 64:=Nat.lt_of_lt_of_le ha (Nat.pow_le_pow_right (by omega) (by omega))
 rw [w9v 64 _ _ ha2 hm]
 have h1:a ||| m * 2 ^ (7 * i)=a + m * 2 ^ (7 * i):=by
  have:=Nat.shiftLeft_add_eq_or_of_lt ha m
  rw [Nat.shiftLeft_eq] at this
  rw [Nat.or_comm,← this,Nat.add_comm]
 have h2:a + m * 2 ^ (7 * i) < 2 ^ 64:=by rw [← h1];exact Nat.or_lt_two_pow ha2 hm
 rw [h1,z6p _ h2]
theorem k2c {ρ:Type} (fail:ρ) (bs:List UInt8) (i:Nat) (h:i < bs.length) (k:Int→ρ):rw_u8 fail (List.getD (encB bs) ((i:Int).toNat) []) k=k ((bs[i]).toNat:Nat):=by
 rw [Int.toNat_natCast,w5y h];rfl
def tvK {ρ:Type} (i a:Nat) (K:Int→Int→Int→ρ):Except Int (Nat × Nat)→ρ
 | .ok (v,k)=>K ((a + v * 2 ^ (7 * i):Nat):Int) ((i + k:Nat):Int) 0
 | .error e=>K 0 0 e
theorem w1c {ρ:Type} (fail:ρ) (fu:Nat) (K:Int→Int→Int→ρ) (bs:List UInt8) (hl:bs.length≤1099511627776):∀ (n i a:Nat),i≤9→i≤bs.length→10≤n + i→a < 2 ^ (7 * i) →
  p139_3L fail fu K (encB bs) n (a:Nat) ((bs.length:Nat):Int) (i:Nat)=tvK i a K (tv i (bs.drop i)):=by
 intro n
 induction n with
 | zero=>intro i a hi;omega
 | succ n ih =>
  intro i a hi hib hn ha
  rw [p139_3L,p139_3]
  by_cases hlt:i < bs.length
  ·have hd:bs.drop i=bs[i] :: bs.drop (i + 1):=List.drop_eq_getElem_cons hlt
   rw [lssT (by omega),cond_true,gd_y (by omega),gd_y (by rw [z0g];omega),k2c fail bs i hlt,hd]
   generalize bs[i]=c
   have hc:=c.toNat_lt
   simp only [tv]
   have h7:z0d .mul .i64 7 (i:Nat)=((7 * i:Nat):Int):=by rw [mulZ (by omega)];omega
   have h7u:IntKind.u64.wrap ((7 * i:Nat):Int)=((7 * i:Nat):Int):=w4x (by omega)
   have hcu:IntKind.u64.wrap ((c.toNat % 128:Nat):Int)=((c.toNat % 128:Nat):Int):=w4x (by omega)
   have h9:∀ b:Bool,(b=decide (i=9∧1 < c.toNat))→p139_2 fail fu K (p139_3L fail fu K (encB bs) n) (a:Nat) ((bs.length:Nat):Int) (i:Nat) ((c.toNat:Nat):Int) b=tvK i a K (tv i (c :: bs.drop (i + 1))):=fun b hb=>by
    rw [p139_2,h7,h7u,w9z,hcu]
    simp only [tv]
    by_cases h9:i=9∧1 < c.toNat
    ·rw [hb,decide_eq_true h9,cond_true,if_pos h9];rfl
    ·rw [hb,decide_eq_false h9,cond_false,if_neg h9,gd_y (by omega)]
     by_cases hc2:128≤c.toNat
     ·have hi9:i≠9:=fun q=>h9 ⟨q,by omega⟩
      have hp:2 ^ (7 * (i + 1))=128 * 2 ^ (7 * i):=by rw [show 7 * (i + 1)=7 * i + 7 by omega,Nat.pow_add];omega
      have hm:c.toNat % 128 * 2 ^ (7 * i) < 128 * 2 ^ (7 * i):=Nat.mul_lt_mul_of_pos_right (by omega) (Nat.two_pow_pos _)
      have hm64:128 * 2 ^ (7 * i)≤2 ^ 64:=by rw [← hp];exact Nat.pow_le_pow_right (by omega) (by omega)
      have hsum:a + c.toNat % 128 * 2 ^ (7 * i) < 2 ^ (7 * (i + 1)):=by
       rw [hp]
       have:c.toNat % 128 * 2 ^ (7 * i)≤127 * 2 ^ (7 * i):=Nat.mul_le_mul_right _ (by omega)
       omega
      rw [geqT (by omega),cond_true,if_pos hc2,k1o a (c.toNat % 128) i ha hi (by omega),addZ (by omega) (by omega)]
      have:=ih (i + 1) (a + c.toNat % 128 * 2 ^ (7 * i)) (by omega) (by omega) (by omega) hsum
      rw [show ((i:Nat):Int) + 1=((i + 1:Nat):Int) by omega,this]
      cases tv (i + 1) (bs.drop (i + 1)) with
      | error e=>rfl
      | ok x =>
       obtain⟨v,k⟩:=x
       simp only [tvK]
       rw [show a + c.toNat % 128 * 2 ^ (7 * i) + v * 2 ^ (7 * (i + 1))=a + (c.toNat - 128 + 128 * v) * 2 ^ (7 * i) by
        rw [hp,show c.toNat % 128=c.toNat - 128 by omega,Nat.add_mul,Nat.mul_comm 128 v,Nat.mul_assoc v 128];omega,show i + 1 + k=i + (k + 1) by omega]
     ·rw [geqF (by omega),cond_false,if_neg hc2]
      have hmod:c.toNat % 128=c.toNat:=by omega
      have hm:c.toNat * 2 ^ (7 * i) < 2 ^ 64:=by
       by_cases hi9:i=9
       ·subst hi9
        have:c.toNat≤1:=by rcases Nat.lt_or_ge 1 c.toNat with q | q;exact absurd ⟨rfl,q⟩ h9;exact q
        have h63:(2:Nat) ^ 64=2 * 2 ^ (7 * 9):=by decide
        have:=Nat.mul_le_mul_right (2 ^ (7 * 9)) this
        omega
       ·have hp:2 ^ (7 * (i + 1))=128 * 2 ^ (7 * i):=by rw [show 7 * (i + 1)=7 * i + 7 by omega,Nat.pow_add];omega
        have hm64:128 * 2 ^ (7 * i)≤2 ^ 64:=by rw [← hp];exact Nat.pow_le_pow_right (by omega) (by omega)
        have:c.toNat * 2 ^ (7 * i)≤127 * 2 ^ (7 * i):=Nat.mul_le_mul_right _ (by omega)
        have hpos:=Nat.two_pow_pos (7 * i)
        omega
      rw [hmod,k1o a c.toNat i ha hi hm]
      by_cases hz:c.toNat=0
      ·rw [eqlT (by omega),cond_true,p139_1]
       by_cases h0:0 < i
       ·rw [gtrT (by omega),cond_true,if_pos ⟨hz,h0⟩];rfl
       ·rw [gtrF (by omega),cond_false,if_neg (fun q=>h0 q.2),addZ (by omega) (by omega)]
        rfl
      ·rw [eqlF (by omega),cond_false,p139_1,cond_false,if_neg (fun q=>hz q.1),addZ (by omega) (by omega)]
       rfl
   by_cases hi9:i=9
   ·rw [eqlT (by omega),cond_true]
    exact h9 _ (by rw [Bool.eq_iff_iff];simp [z0a,hi9];omega)
   ·rw [eqlF (by omega),cond_false]
    exact h9 _ (by simp [hi9])
  ·rw [lssF (by omega),cond_false,List.drop_eq_nil_of_le (by omega)];rfl
theorem z9f {ρ:Type} (fail:ρ) (fu:Nat) (hf:10≤fu) (K:Int→Int→Int→ρ) (bs:List UInt8) (hl:bs.length≤1099511627776):p139 fail fu K (encB bs)=tvK 0 0 K (tv 0 bs):=by
 rw [p139,z0g]
 exact w1c fail fu K bs hl fu 0 0 (by omega) (by omega) (by omega) (by omega)
def rdV (bs:List UInt8):Except Int (Nat × List UInt8):=match tv 0 bs with | .ok (v,k)=>.ok (v,bs.drop k) | .error e=>.error e
theorem z3r {ρ:Type} (fail:ρ) (fu:Nat) (K:EL→Int→ρ) (B:EL) (e:Int):p94 fail fu K B 0 e=K B e:=by
 rw [p94,eqlT rfl,cond_true,p94_1]
theorem failsE {ρ:Type} (fail:ρ) (fu:Nat) (K:EL→Int→ρ) (B:EL) (e e':Int) (h:e≠0):p94 fail fu K B e e'=K B e:=by
 rw [p94,eqlF h,cond_false,p94_1]
def rdK {ρ:Type} (K:Int→EL→Int→ρ) (junk:Int) (B:EL):Except Int (Nat × List UInt8)→ρ
 | .ok (v,r)=>K (v:Nat) (encB r) 0
 | .error e=>K junk B e
theorem w7v {bs:List UInt8} {e:Int} (h:rdV bs=.error e):e=2∨e=4∨e=5:=by
 unfold rdV at h;split at h
 ·cases h
 ·rename_i e' h';injection h with h;subst h;exact w7j _ _ _ h'
theorem w1q {bs:List UInt8} {v:Nat} {r:List UInt8} (h:rdV bs=.ok (v,r)):v < 2 ^ 64∧r.length < bs.length∧bs=varB v++r:=by
 unfold rdV at h;split at h
 ·rename_i v' k h'
  injection h with h;injection h with h1 h2;subst h1;subst h2
  have h3:=w4y _ _ _ _ h'
  refine⟨k1j h',by simp;omega,?_⟩
  rw [← (w7i _ _ _ _ h').1,List.take_append_drop]
 ·cases h
theorem k1k {ρ:Type} (fail:ρ) (fu:Nat) (hf:10≤fu) (K:Int→EL→Int→ρ) (bs:List UInt8) (hl:bs.length≤1099511627776):p116 fail fu K (encB bs) 0=rdK K 0 (encB bs) (rdV bs):=by
 rw [p116,neqF rfl,cond_false,z9f fail fu hf _ bs hl]
 unfold rdV
 cases ht:tv 0 bs with
 | error e =>
  simp only [tvK,z3r]
  rw [gd_y (by omega),gd_y (by omega),gd_y (by omega)]
  simp [rdK]
 | ok x =>
  obtain⟨v,k⟩:=x
  have:=w4y _ _ _ _ ht
  simp only [tvK,z3r]
  rw [gd_y (by omega),gd_y (by rw [z0g];omega),gd_y (by omega)]
  simp [rdK]
theorem rawE {ρ:Type} (fail:ρ) (fu:Nat) (K:Int→EL→Int→ρ) (B:EL) (e:Int) (h:e≠0):p116 fail fu K B e=K 0 B e:=by
 rw [p116,neqT h,cond_true]
def z5a (lo hi:Nat) (bs:List UInt8):Except Int (Nat × List UInt8):=match rdV bs with
 | .ok (v,r)=>if v < lo∨hi < v then .error 5 else .ok (v,r)
 | .error e=>.error e
def KOut {ρ:Type} (p:(Int→EL→Int→ρ)→ρ) (j:Int):Except Int (Nat × List UInt8)→Prop
 | .ok (v,r)=>∀ K:Int→EL→Int→ρ,p K=K (v:Nat) (encB r) 0
 | .error e=>e≠0∧∃ B,∀ K:Int→EL→Int→ρ,p K=K j B e
theorem w8w {ρ:Type} (fail:ρ) (fu:Nat) (hf:10≤fu) (bs:List UInt8) (hl:bs.length≤1099511627776) (lo hi:Nat) (h1:lo≤100) (h2:hi≤100) :
  KOut (fun K=>p93 fail fu K (encB bs) 0 (lo:Nat) (hi:Nat)) (lo:Nat) (z5a lo hi bs):=by
 have e1:=z6p lo (by omega)
 have e2:=z6p hi (by omega)
 have hraw:=fun K=>k1k (ρ:=ρ) fail fu hf K bs hl
 unfold z5a
 cases hr:rdV bs with
 | error e =>
  have he:=w7v hr
  rw [hr] at hraw
  refine⟨by omega,encB bs,fun K=>?_⟩
  dsimp only
  rw [p93,hraw,e1,e2]
  simp only [rdK]
  by_cases hlo:(0:Int) < (lo:Nat)
  ·rw [lssT hlo,cond_true,p93_1,cond_true,failsE _ _ _ _ _ _ (by omega)]
  ·rw [lssF (by omega),cond_false,gtrF (by omega),p93_1,cond_false,z5d (by omega),show ((lo:Nat):Int)=0 by omega]
 | ok x =>
  obtain⟨v,r⟩:=x
  have hv:=(w1q hr).1
  rw [hr] at hraw
  dsimp only
  by_cases hlo:v < lo
  ·rw [if_pos (.inl hlo)]
   refine⟨by omega,encB r,fun K=>?_⟩
   dsimp only
   rw [p93,hraw,e1,e2]
   simp only [rdK]
   rw [lssT (by omega),cond_true,p93_1,cond_true,z3r]
  ·by_cases hhi:hi < v
   ·rw [if_pos (.inr hhi)]
    refine⟨by omega,encB r,fun K=>?_⟩
    dsimp only
    rw [p93,hraw,e1,e2]
    simp only [rdK]
    rw [lssF (by omega),cond_false,gtrT (by omega),p93_1,cond_true,z3r]
   ·rw [if_neg (by omega)]
    intro K
    dsimp only
    rw [p93,hraw,e1,e2]
    simp only [rdK]
    rw [lssF (by omega),cond_false,gtrF (by omega),p93_1,cond_false,z5d (by omega)]
def rdNum (bs:List UInt8):Except Int (Nat × List UInt8):=match rdV bs with
 | .ok (v,r)=>if 1073741824 < v then .error 4 else .ok (v,r)
 | .error e=>.error e
theorem w8p {ρ:Type} (fail:ρ) (fu:Nat) (hf:10≤fu) (bs:List UInt8) (hl:bs.length≤1099511627776) :
  KOut (fun K=>p91 fail fu K (encB bs) 0) 0 (rdNum bs):=by
 have hraw:=fun K=>k1k (ρ:=ρ) fail fu hf K bs hl
 unfold rdNum
 cases hr:rdV bs with
 | error e =>
  have he:=w7v hr
  rw [hr] at hraw
  refine⟨by omega,encB bs,fun K=>?_⟩
  dsimp only
  rw [p91,hraw]
  simp only [rdK]
  rw [gtrF (by omega),cond_false,z5d (by omega)]
 | ok x =>
  obtain⟨v,r⟩:=x
  have hv:=(w1q hr).1
  rw [hr] at hraw
  dsimp only
  by_cases hhi:1073741824 < v
  ·rw [if_pos hhi]
   refine⟨by omega,encB r,fun K=>?_⟩
   dsimp only
   rw [p91,hraw]
   simp only [rdK]
   rw [gtrT (by omega),cond_true,z3r]
  ·rw [if_neg hhi]
   intro K
   dsimp only
   rw [p91,hraw]
   simp only [rdK]
   rw [gtrF (by omega),cond_false,z5d (by omega)]
theorem numE {ρ:Type} (fail:ρ) (fu:Nat) (K:Int→EL→Int→ρ) (B:EL) (e:Int) (h:e≠0):p91 fail fu K B e=K 0 B e:=by
 rw [p91,rawE _ _ _ _ _ h,gtrF (by omega),cond_false,z5d (by omega)]
def rdTxt (most:Nat) (bs:List UInt8):Except Int (List UInt8 × List UInt8):=match rdV bs with
 | .ok (v,r)=>if most < v then .error 3 else if r.length < v then .error 2 else .ok (r.take v,r.drop v)
 | .error e=>.error e
def SOut {ρ:Type} (p:(EL→EL→Int→ρ)→ρ):Except Int (List UInt8 × List UInt8)→Prop
 | .ok (s,r)=>∀ K:EL→EL→Int→ρ,p K=K (encB s) (encB r) 0
 | .error e=>e≠0∧∃ B,∀ K:EL→EL→Int→ρ,p K=K nilE B e
theorem k2a {ρ:Type} (fail:ρ) (fu:Nat) (hf:10≤fu) (bs:List UInt8) (hl:bs.length≤1099511627776) (most:Nat) (hm:most≤1000000) :
  SOut (fun K=>p95 fail fu K (encB bs) 0 (most:Nat)) (rdTxt most bs):=by
 have htk:=fun K=>z9f (ρ:=ρ) fail fu hf K bs hl
 have e1:=z6p most (by omega)
 unfold rdTxt rdV
 cases ht:tv 0 bs with
 | error e =>
  have he:=w7j _ _ _ ht
  rw [ht] at htk
  refine⟨by omega,encB bs,fun K=>?_⟩
  dsimp only
  rw [p95,neqF rfl,cond_false,p126,htk]
  simp only [tvK]
  rw [neqT (show e≠0 by omega),cond_true,z3r,gd_y (by omega),gd_y (by omega),gd_y (by omega)]
  simp
 | ok x =>
  obtain⟨v,k⟩:=x
  have hk:=w4y _ _ _ _ ht
  have hv:=k1j ht
  rw [ht] at htk
  have hstart:∀ K:EL→EL→Int→ρ,p95 fail fu K (encB bs) 0 (most:Nat)=bif z0a .gtr ((v:Nat):Int) ((most:Nat):Int) then K nilE (encB bs) 3 else bif z0a .gtr ((v:Nat):Int) (((bs.length:Nat):Int) - ((k:Nat):Int)) then K nilE (encB bs) 2 else
    K (encB ((bs.drop k).take v)) (encB ((bs.drop k).drop v)) 0:=fun K=>by
   rw [p95,neqF rfl,cond_false,p126,htk]
   simp only [tvK]
   rw [neqF rfl,cond_false,if_neg (show ¬ (0:Int) > (most:Nat) by omega),z0g]
   simp only [Nat.pow_zero,Nat.mul_one,Nat.zero_add,Nat.mul_zero]
   rw [subZ (by omega) (by omega),w4x (show 0≤((bs.length:Nat):Int) - ((k:Nat):Int)∧((bs.length:Nat):Int) - ((k:Nat):Int)≤18446744073709551615 by omega),e1]
   by_cases h1:most < v
   ·rw [gtrT (by omega),cond_true,cond_true,z3r,gd_y (by omega),gd_y (by omega),gd_y (by omega)]
    simp
   ·rw [gtrF (show ((v:Nat):Int)≤((most:Nat):Int) by omega),cond_false,cond_false]
    by_cases h2:bs.length - k < v
    ·rw [gtrT (by omega),cond_true,cond_true,z3r,gd_y (by omega),gd_y (by omega),gd_y (by omega)]
     simp
    ·rw [gtrF (show ((v:Nat):Int)≤((bs.length:Nat):Int) - ((k:Nat):Int) by omega),cond_false,cond_false,z5d (show -9223372036854775808≤((v:Nat):Int)∧((v:Nat):Int)≤9223372036854775807 by omega),addZ (by omega) (by omega)]
     have hd:List.drop (((k:Nat):Int)).toNat (List.take ((((k:Nat):Int) + ((v:Nat):Int))).toNat (encB bs))=encB ((bs.drop k).take v):=by
      rw [w9i,w2y,Int.toNat_natCast,show (((k:Nat):Int) + ((v:Nat):Int)).toNat=k + v by omega,List.drop_take]
      congr 2;omega
     rw [hd,gd_y (by omega),gd_y (by omega),gd_y (by omega),gd_y (by omega),gd_y (by simp),gd_y (by simp;omega),z3r,gd_y (by omega),gd_y (by rw [z0g];omega),gd_y (by omega)]
     rw [List.nil_append,show (((k:Nat):Int) + ((v:Nat):Int)).toNat=k + v by omega]
     congr 1
     simp [List.drop_drop]
  dsimp only
  by_cases h1:most < v
  ·rw [if_pos h1]
   refine⟨by omega,encB bs,fun K=>?_⟩
   dsimp only
   rw [hstart,gtrT (by omega),cond_true]
  ·rw [if_neg h1]
   by_cases h2:(bs.drop k).length < v
   ·rw [if_pos h2]
    rw [List.length_drop] at h2
    refine⟨by omega,encB bs,fun K=>?_⟩
    dsimp only
    rw [hstart,gtrF (by omega),cond_false,gtrT (by omega),cond_true]
   ·rw [if_neg h2]
    rw [List.length_drop] at h2
    intro K
    dsimp only
    rw [hstart,gtrF (by omega),cond_false,gtrF (by omega),cond_false]
theorem w0l {ρ:Type} (fail:ρ) (fu:Nat) (K:EL→Int→Int→ρ) (B:EL) (p m d md:Nat) (h:p≤1000000∧m≤1000000∧d≤1000000∧md≤1000000) :
  p137 fail fu K B 0 (p:Nat) (m:Nat) (d:Nat) (md:Nat)=K B (if m < p + 1 then 3 else if md < d then 6 else 0) ((p + 1:Nat):Int):=by
 rw [p137,addZ (by omega) (by omega),show ((p:Nat):Int) + 1=((p + 1:Nat):Int) by omega]
 by_cases h1:m < p + 1
 ·rw [gtrT (by omega),cond_true,z3r,p137_1,if_pos h1]
 ·rw [gtrF (by omega),cond_false,if_neg h1]
  by_cases h2:md < d
  ·rw [gtrT (by omega),cond_true,z3r,p137_2,p137_1,if_pos h2]
  ·rw [gtrF (by omega),cond_false,p137_2,p137_1,if_neg h2]
def p110_1 {ρ:Type} (fail:ρ) (fu:Nat) (s_p110:(Int→Int→EL→EL→Int→Int→ρ)→EL→Int→Int→Int→ρ) (K0:Int→Int→EL→EL→Int→Int→ρ) (rec1:EL→Int→Int→EL→Int→ρ) (z15:Int) (j16:EL) (j17 j18:Int) (j19:EL):ρ :=
 rec1 j16 j17 j18 j19 (z0d .add .i64 z15 1)
def p110_2 {ρ:Type} (fail:ρ) (fu:Nat) (s_p110:(Int→Int→EL→EL→Int→Int→ρ)→EL→Int→Int→Int→ρ) (K0:Int→Int→EL→EL→Int→Int→ρ) (rec1:EL→Int→Int→EL→Int→ρ) (x2 y4 j9 j10:Int) (z11:EL) (z12 z13:Int) (z14:EL) (z15:Int):ρ :=
 bif (z0a .lss z15 j10) then (bif (z0a .eql z12 0) then (s_p110 (fun y20 y21 y22 y23 y24 y25=>gd (1≤[[(CV.v (.int .i64 y20)),(CV.v (.int .i64 y21)),(CV.sl 3 y22 none)]].length) fail (gd ((z14.length + (List.take 1 [[(CV.v (.int .i64 y20)),(CV.v (.int .i64 y21)),(CV.sl 3 y22 none)]]).length) * 40≤35184372088832) fail (p110_1 fail fu s_p110 K0 rec1 z15 y23 y24 y25 (z14++(List.take 1 [[(CV.v (.int .i64 y20)),(CV.v (.int .i64 y21)),(CV.sl 3 y22 none)]]))))) z11 z12 (z0d .add .i64 x2 1) z13) else (p110_1 fail fu s_p110 K0 rec1 z15 z11 z12 z13 z14)) else (K0 y4 j9 z14 z11 z12 z13)
def p110_2L {ρ:Type} (fail:ρ) (fu:Nat) (s_p110:(Int→Int→EL→EL→Int→Int→ρ)→EL→Int→Int→Int→ρ) (K0:Int→Int→EL→EL→Int→Int→ρ) (x2 y4 j9 j10:Int):Nat→EL→Int→Int→EL→Int→ρ
 | 0,_,_,_,_,_=>fail
 | n + 1,z11,z12,z13,z14,z15=>p110_2 fail fu s_p110 K0 (p110_2L fail fu s_p110 K0 x2 y4 j9 j10 n) x2 y4 j9 j10 z11 z12 z13 z14 z15
def p110_3 {ρ:Type} (fail:ρ) (fu:Nat) (s_p110:(Int→Int→EL→EL→Int→Int→ρ)→EL→Int→Int→Int→ρ) (K0:Int→Int→EL→EL→Int→Int→ρ) (x2 y3 y4:Int) (j7:EL) (j8 j9 j10:Int):ρ :=
 p110_2L fail fu s_p110 K0 x2 y4 j9 j10 fu j7 j8 y3 nilE 0
def p110_4 {ρ:Type} (fail:ρ) (fu:Nat) (s_p110:(Int→Int→EL→EL→Int→Int→ρ)→EL→Int→Int→Int→ρ) (K0:Int→Int→EL→EL→Int→Int→ρ) (x2 y3 y4:Int) (j27:EL) (j28 j29 j30:Int):ρ :=
 p110_3 fail fu s_p110 K0 x2 y3 y4 j27 j28 j29 j30
def p110_5 {ρ:Type} (fail:ρ) (fu:Nat) (s_p110:(Int→Int→EL→EL→Int→Int→ρ)→EL→Int→Int→Int→ρ) (K0:Int→Int→EL→EL→Int→Int→ρ) (x2 y3 y4:Int) (j31:EL) (j32 j33:Int):ρ :=
 p110_4 fail fu s_p110 K0 x2 y3 y4 j31 j32 j33 0
def p110_6 {ρ:Type} (fail:ρ) (fu:Nat) (s_p110:(Int→Int→EL→EL→Int→Int→ρ)→EL→Int→Int→Int→ρ) (K0:Int→Int→EL→EL→Int→Int→ρ) (x2 y3 y4 y34:Int) (j37:EL) (j38:Int):ρ :=
 p110_5 fail fu s_p110 K0 x2 y3 y4 j37 j38 y34
def p110_7 {ρ:Type} (fail:ρ) (fu:Nat) (s_p110:(Int→Int→EL→EL→Int→Int→ρ)→EL→Int→Int→Int→ρ) (K0:Int→Int→EL→EL→Int→Int→ρ) (x2 y3 y4:Int) (y5:EL) (y6:Int) (j26:Bool):ρ :=
 bif j26 then (p110_4 fail fu s_p110 K0 x2 y3 y4 y5 y6 0 2) else (bif (z0a .eql y4 4) then (p91 fail fu (fun y34 y35 y36=>bif (z0a .geq y34 4) then (p94 fail fu (fun y39 y40=>p110_6 fail fu s_p110 K0 x2 y3 y4 y34 y39 y40) y35 y36 7) else (p110_6 fail fu s_p110 K0 x2 y3 y4 y34 y35 y36)) y5 y6) else (p110_5 fail fu s_p110 K0 x2 y3 y4 y5 y6 0))
def p110_b {ρ:Type} (fail:ρ) (fu:Nat) (s_p110:(Int→Int→EL→EL→Int→Int→ρ)→EL→Int→Int→Int→ρ) (K0:Int→Int→EL→EL→Int→Int→ρ) (x0:EL) (x1 x2 x3:Int):ρ :=
 p137 fail fu (fun y1 y2 y3=>bif (z0a .neq y2 0) then (K0 0 0 nilE y1 y2 y3) else (p93 fail fu (fun y4 y5 y6=>bif (z0a .eql y4 1) then (p110_3 fail fu s_p110 K0 x2 y3 y4 y5 y6 0 1) else (bif (z0a .eql y4 2) then (p110_7 fail fu s_p110 K0 x2 y3 y4 y5 y6 (z0a .eql y4 2)) else (p110_7 fail fu s_p110 K0 x2 y3 y4 y5 y6 (z0a .eql y4 3)))) y1 y2 0 4)) x0 x1 x3 64 x2 32
def p110 {ρ:Type} (fail:ρ):Nat→(Int→Int→EL→EL→Int→Int→ρ)→EL→Int→Int→Int→ρ
 | 0,_,_,_,_,_=>fail
 | n + 1,K0,x0,x1,x2,x3=>p110_b fail n (p110 fail n) K0 x0 x1 x2 x3
def p67 {ρ:Type} (fail:ρ) (fu:Nat) (K0:Int→Int→EL→EL→Int→ρ) (x0:EL) (x1:Int):ρ :=
 p110 fail fu (fun y1 y2 y3 y4 y5 y6=>K0 y1 y2 y3 y4 y5) x0 x1 1 0
end Go.Proofs.Ythncmjlcmlmnmaa
