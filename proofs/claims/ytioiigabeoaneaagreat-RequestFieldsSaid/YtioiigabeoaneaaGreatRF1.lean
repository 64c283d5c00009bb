/- A part of the proof. Conditions: none. -/
import Derived.Calls
import Derived.Orders
import Derived.RowKit3
import Derived.Below
import Derived.Laws.OwnMore
import Derived.Laws.IdiomCopy
import Derived.Laws.IdiomStrings
import Derived.ChangeKeysEq
import Derived.Laws.Entries
import Derived.Laws.StructEq
import GoSem.Dispatch
namespace Go.Proofs.YtioiigabeoaneaaGreat.V
open Go
inductive CV where
 | v (x:Value)
 | sl (sz:Nat) (es:List (List CV)) (sp:Option (List (List CV)))
 | rp (cs:List CV)
 deriving Inhabited
inductive AV where
 | c (x:CV)
 | t (id ver n:Nat)
 | p (id ver off:Nat)
 | tp (id ver i off:Nat)
 | bs (id ver n:Nat)
 | agg (cs:List AV)
 | tup (cs:List AV)
 | dead
 deriving Inhabited
inductive Ob where
 | blk (ver:Nat) (cs:List AV)
 | arr (ver:Nat) (sz:Nat) (es:List (List CV)) (cap:Option Nat) (pub:Bool)
 deriving Inhabited
def Ob.ver:Ob→Nat
 | .blk v _=>v
 | .arr v _ _ _ _=>v
structure Mem where
 obs:List (Nat × Ob)
 clk:Nat
 deriving Inhabited
def K2:List (Nat × Ob)→Nat→Option Ob
 | [],_=>none
 | (j,o) :: r,i=>if i=j then some o else K2 r i
def z9p:List (Nat × Ob)→Nat→Ob→List (Nat × Ob)
 | [],i,o=>[(i,o)]
 | (j,p) :: r,i,o=>if i=j then (i,o) :: r else if i < j then (i,o) :: (j,p) :: r else (j,p) :: z9p r i o
def z4v:List (Nat × Ob)→Nat→List (Nat × Ob)
 | [],_=>[]
 | (j,p) :: r,i=>if i=j then z4v r i else (j,p) :: z4v r i
def Mem.get (m:Mem) (i:Nat):Option Ob:=K2 m.obs i
def Mem.upd (m:Mem) (i:Nat) (o:Ob):Mem:=⟨z9p m.obs i o,m.clk⟩
def Mem.new (m:Mem) (i:Nat) (f:Nat→Ob):Mem:=⟨z9p m.obs i (f m.clk),m.clk + 1⟩
def Mem.del (m:Mem) (i:Nat):Mem:=⟨z4v m.obs i,m.clk⟩
inductive TK where
 | sc
 | bool
 | int (k:IntKind)
 | str
 | st (fs:List (Nat × Nat × Bool))          -- a struct's fields: where,how many cells,struct or array?
 | ar (n esz:Nat) (eagg:Bool)
 | sl (esz:Nat) (eagg:Bool) (ebytes:Nat) (u8:Bool)
 | pt (esz:Nat) (eagg:Bool)
 deriving Inhabited
structure TI where
 agg:Bool
 size:Nat
 zero:List CV
 ezero:List CV
 k:TK
 eq:List Nat      -- a struct that '==' goes through cell by cell: what its cells are (1 number,2 bool,3 string)
 deriving Inhabited
abbrev Tab:=List TI
def TK.isSc:TK→Bool | .sc=>true | _=>false
def TI.no:TI:=⟨false,0,[],[],.sc,[]⟩
def Tab.at (T:Tab) (t:Nat):TI:=T.getD t TI.no
def Tab.esz (T:Tab) (t:Nat):Nat:=match (T.at t).k with | .sl e _ _ _=>e | _=>0
abbrev L2:=Nat→Option (List CV)
abbrev KK:=AV→Mem→Prop
abbrev z3m (v:Value):Bool:=v.oneCell'
def AV.solid:AV→Bool
 | .agg _ | .tup _ | .dead=>false
 | _=>true
def AV.isDead:AV→Bool
 | .dead=>true
 | _=>false
def w8n (esz:Nat):Value→AV
 | .slice none 0 0=>.c (.sl esz [] (some []))
 | v=>if z3m v then .c (.v v) else .dead
def evO (T:Tab) (G:L2) (tmps:List AV) (ty:Nat):Operand→AV
 | .tmp t=>tmps.getD t .dead
 | .const v=>w8n (T.esz ty) v
 | .global g=>match G g with | some cs=>.c (.rp cs) | none=>.dead
 | .func f=>.c (.v (.func (.func f) #[] #[]))
def AV.cells:AV→List AV
 | .agg cs=>cs
 | x=>[x]
def Y5 (x:AV) (A B:Prop):Prop:=match x with
 | .c (.v (.bool b))=>(b=true→A)∧(b=false→B)
 | _=>False
def W2 (agg:Bool) (s:Nat) (cs:List AV) (K:AV→Prop):Prop :=
 if agg then s≤cs.length∧K (.agg (cs.take s)) else match cs with | x :: _=>K x | []=>False
def z2x:CV→CV
 | .sl sz es _=>.sl sz es none
 | x=>x
def P7 (m:Mem):AV→(CV→Mem→Prop)→Prop
 | .c x,K=>K (z2x x) m
 | .t id ver n,K=>match m.get id with
  | some (.arr v sz es cap _)=>v=ver∧n≤es.length∧K (.sl sz (es.take n) none) (m.upd id (.arr v sz es cap true))
  | _=>False
 | _,_=>False
def T9 (m:Mem):List AV→(List CV→Mem→Prop)→Prop
 | [],K=>K [] m
 | a :: l,K=>P7 m a fun x m=>T9 m l fun xs m=>K (x :: xs) m
def z9h (op:BinOp):Value→Value→(Value→Prop)→Prop
 | .int k a,.int k' b,K=>match op with
  | .shl=>0≤b∧K (.int k (k.wrap (a * 2 ^ (min b.toNat k.bits))))
  | .shr=>0≤b∧K (.int k (a.fdiv (2 ^ (min b.toNat k.bits))))
  | .add=>k=k'∧K (.int k (k.wrap (a + b)))
  | .sub=>k=k'∧K (.int k (k.wrap (a - b)))
  | .mul=>k=k'∧K (.int k (k.wrap (a * b)))
  | .quo=>k=k'∧b≠0∧K (.int k (k.wrap (a.tdiv b)))
  | .rem=>k=k'∧b≠0∧K (.int k (a.tmod b))
  | .and=>k=k'∧K (.int k (k.wrap (BitVec.ofInt k.bits a &&& BitVec.ofInt k.bits b).toNat))
  | .or=>k=k'∧K (.int k (k.wrap (BitVec.ofInt k.bits a ||| BitVec.ofInt k.bits b).toNat))
  | .xor=>k=k'∧K (.int k (k.wrap (BitVec.ofInt k.bits a ^^^ BitVec.ofInt k.bits b).toNat))
  | .andNot=>k=k'∧K (.int k (k.wrap (BitVec.ofInt k.bits a &&& ~~~ BitVec.ofInt k.bits b).toNat))
  | .eql=>k=k'∧K (.bool (a == b))
  | .neq=>k=k'∧K (.bool (a != b))
  | .lss=>k=k'∧K (.bool (decide (a < b)))
  | .leq=>k=k'∧K (.bool (decide (a≤b)))
  | .gtr=>k=k'∧K (.bool (decide (a > b)))
  | .geq=>k=k'∧K (.bool (decide (a ≥ b)))
 | .string a,.string b,K=>match op with
  | .add=>((a.size + b.size:Nat):Int)≤IntKind.i64.max∧K (.string (a++b))
  | .eql=>K (.bool (a.toList == b.toList))
  | .neq=>K (.bool !(a.toList == b.toList))
  | .lss=>K (.bool (Op.bytesLess a.toList b.toList))
  | .leq=>K (.bool (Op.bytesLess a.toList b.toList || a.toList == b.toList))
  | .gtr=>K (.bool !(Op.bytesLess a.toList b.toList || a.toList == b.toList))
  | .geq=>K (.bool !(Op.bytesLess a.toList b.toList))
  | _=>False
 | _,_,_=>False
def z0l:AV→Option Bool
 | .c (.v (.pointer none))=>some true
 | .c (.rp _)=>some false
 | .p _ _ _=>some false
 | .tp _ _ _ _=>some false
 | _=>none
def z4a:Nat→AV→AV→Option Bool
 | 1,.c (.v (.int k a)),.c (.v (.int k' b))=>if k=k' then some (a == b) else none
 | 2,.c (.v (.bool a)),.c (.v (.bool b))=>some (a == b)
 | 3,.c (.v (.string a)),.c (.v (.string b))=>some (a.toList == b.toList)
 | _,_,_=>none
def M0:List Nat→List AV→List AV→Option Bool
 | [],[],[]=>some true
 | c :: cs,x :: xs,y :: ys=>match z4a c x y,M0 cs xs ys with | some a,some b=>some (a && b) | _,_=>none
 | _,_,_=>none
def eqW (op:BinOp) (ti:TI) (m:Mem) (xs ys:List AV) (K:KK):Prop:=match ti.k,ti.eq with
 | .st _,c :: cs=>match op,M0 (c :: cs) xs ys with
  | .eql,some b=>K (.c (.v (.bool b))) m
  | .neq,some b=>K (.c (.v (.bool !b))) m
  | _,_=>False
 | _,_=>False
def w8z:AV→AV→Option (List AV × List AV)
 | .agg xs,.agg ys=>some (xs,ys)
 | _,_=>none
def z6t (op:BinOp) (k:TK) (m:Mem) (x y:AV) (K:KK):Prop :=
 match x,y with
 | .c (.v (.bool a)),.c (.v (.bool b))=>match op,k with
  | .eql,.bool=>K (.c (.v (.bool (a == b)))) m
  | .neq,.bool=>K (.c (.v (.bool !(a == b)))) m
  | _,_=>False
 | .c (.v (.int i a)),.c (.v b)=>z9h op (.int i a) b fun r=>K (.c (.v r)) m
 | .c (.v (.string a)),.c (.v b)=>z9h op (.string a) b fun r=>K (.c (.v r)) m
 | x,y=>match op,k,z0l x,z0l y with
  | .eql,.pt _ _,some a,some b=>(a=true∨b=true)∧K (.c (.v (.bool (a && b)))) m
  | .neq,.pt _ _,some a,some b=>(a=true∨b=true)∧K (.c (.v (.bool !(a && b)))) m
  | _,_,_,_=>False
def unW (op:UnOp) (m:Mem) (x:AV) (K:KK):Prop:=match op,x with
 | .neg,.c (.v (.int k n))=>K (.c (.v (.int k (k.wrap (0 - n))))) m
 | .xor,.c (.v (.int k n))=>K (.c (.v (.int k (k.wrap (BitVec.ofInt k.bits (if k.signed then -1 else k.max) ^^^ BitVec.ofInt k.bits n).toNat)))) m
 | .not,.c (.v (.bool b))=>K (.c (.v (.bool !b))) m
 | _,_=>False
def bytesOf:List (List CV)→Option (List UInt8)
 | []=>some []
 | [.v (.int .u8 n)] :: r=>(bytesOf r).map (UInt8.ofNat n.toNat :: ·)
 | _=>none
def E8 (l:List UInt8):List (List CV):=l.map fun c=>[.v (.int .u8 c.toNat)]
def z0k (esz:Nat) (m:Mem) (x:AV) (K:List (List CV)→Prop):Prop:=match x with
 | .c (.sl sz es _)=>sz=esz∧K es
 | .t id ver n=>match m.get id with
  | some (.arr v sz es _ _)=>v=ver∧sz=esz∧n≤es.length∧K (es.take n)
  | _=>False
 | _=>False
def W6 (src dst:TK) (site:Nat) (m:Mem) (x:AV) (K:KK):Prop:=match src,dst,x with
 | .int _,.int k,.c (.v (.int _ n))=>K (.c (.v (.int k (k.wrap n)))) m
 | .str,.str,.c (.v (.string s))=>K (.c (.v (.string s))) m
 | .str,.sl 1 false 1 true,.c (.v (.string s))=>K (.t site m.clk s.size) (m.new site fun v=>.arr v 1 (E8 s.data.toList) none true)
 | .sl 1 false 1 true,.str,x=>z0k 1 m x fun es=>match bytesOf es with
  | some b=>K (.c (.v (.string ⟨b.toArray⟩))) m
  | none=>False
 | _,_,_=>False
def L0 (off:Nat) (m:Mem) (x:AV) (K:KK):Prop:=match x with
 | .p id ver o=>K (.p id ver (o + off)) m
 | .c (.rp cs)=>K (.c (.rp (cs.drop off))) m
 | .tp id ver i o=>K (.tp id ver i (o + off)) m
 | _=>False
def L5 (m:Mem) (x:AV) (K:KK):Prop:=match x with
 | .p id ver o=>K (.p id ver o) m
 | .c (.rp cs)=>K (.c (.rp cs)) m
 | .tp id ver i o=>K (.tp id ver i o) m
 | .c (.v (.func f a b))=>(f matches .func _)∧K (.c (.v (.func f a b))) m
 | _=>False
def W5 (agg:Bool) (s:Nat) (m:Mem) (x:AV) (K:KK):Prop:=match x with
 | .p id ver o=>match m.get id with
  | some (.blk v cs)=>v=ver∧W2 agg s (cs.drop o) fun y=>K y m
  | _=>False
 | .c (.rp cs)=>W2 agg s (cs.map .c) fun y=>K y m
 | .tp id ver i o=>match m.get id with
  | some (.arr v _ es _ _)=>v=ver∧i < es.length∧W2 agg s (((es.getD i []).drop o).map .c) fun y=>K y m
  | _=>False
 | _=>False
def F9 {α:Type} (l:List α) (o:Nat) (xs:List α):List α:=l.take o++xs++l.drop (o + xs.length)
def z5f (s:Nat) (m:Mem) (x y:AV) (K:Mem→Prop):Prop:=match x with
 | .p id ver o=>match m.get id with
  | some (.blk v cs)=>v=ver∧y.cells.length=s∧(∀ x ∈ y.cells,x.solid=true)∧o + s≤cs.length∧(∀ x ∈ (cs.drop o).take s,x.isDead=false)∧K (m.upd id (.blk v (F9 cs o y.cells)))
  | _=>False
 | .tp id ver i o=>T9 m y.cells fun ys m=>match m.get id with
  | some (.arr v sz es cap pub)=>v=ver∧pub=false∧ys.length=s∧i < es.length∧o + s≤(es.getD i []).length ∧
    K (m.upd id (.arr v sz (es.set i (F9 (es.getD i []) o ys)) cap pub))
  | _=>False
 | _=>False
def w3v (site:Nat) (zero:List CV) (m:Mem) (K:KK):Prop:=K (.p site m.clk 0) (m.new site fun v=>.blk v (zero.map .c))
def k0k (site:Nat) (m:Mem) (y:AV) (K:KK):Prop:=(∀ x ∈ y.cells,x.solid=true)∧K (.p site m.clk 0) (m.new site fun v=>.blk v y.cells)
def V6 (place:Nat→Option (Nat × Nat)) (cells:List AV):List (Nat × AV)→Option (List AV)
 | []=>some cells
 | (i,v) :: rest=>match place i with
  | none=>none
  | some (off,size)=>if v.cells.length≠size∨off + size > cells.length∨v.cells.all AV.solid=false then none else V6 place (F9 cells off v.cells) rest
def N9 (place:Nat→Option (Nat × Nat)) (zero:List CV) (parts:List (Nat × AV)) (m:Mem) (K:KK):Prop :=
 match V6 place (zero.map .c) parts with
 | some cs=>K (.agg cs) m
 | none=>False
def Y9 (fs:List (Nat × Nat × Bool)) (i:Nat):Option (Nat × Nat):=(fs[i]?).map fun f=>(f.1,f.2.1)
def X4 {α:Type} (sz:Nat):Nat→List α→List (List α)
 | 0,_=>[]
 | n + 1,l=>l.take sz :: X4 sz n (l.drop sz)
def R1 {α:Type}:Nat→List α→List α
 | 0,_=>[]
 | n + 1,l=>l++R1 n l
def T4 (site esz:Nat) (zero:List CV) (len:Nat) (parts:List (Nat × AV)) (m:Mem) (K:KK):Prop:=len * esz≤2 ^ 24 ∧
 match V6 (fun i=>some (i * esz,esz)) ((R1 len zero).map .c) parts with
 | some cs=>T9 m cs fun xs m=>K (.t site m.clk len) (m.new site fun v=>.arr v esz (X4 esz len xs) (some len) false)
 | none=>False
def W9 (site esz:Nat) (zero:List CV) (len:Nat) (parts:List (Nat × AV)) (m:Mem) (K:KK):Prop:=(0 < len∧len * esz≤2 ^ 24) ∧
 match V6 (fun i=>some (i * esz,esz)) ((R1 len zero).map .c) parts with
 | some cs=>K (.bs site m.clk len) (m.new site fun v=>.blk v cs)
 | none=>False
def Z5 (site esz ebytes:Nat) (zero:List CV) (m:Mem) (l c:AV) (K:KK):Prop:=match l,c with
 | .c (.v (.int _ l)),.c (.v (.int _ c))=>0≤l∧l≤c∧c * ebytes≤2 ^ 46 ∧
   K (.t site m.clk l.toNat) (m.new site fun v=>.arr v esz (List.replicate l.toNat zero) (some c.toNat) false)
 | _,_=>False
def bnd (d:Int):Option AV→(Int→Prop)→Prop
 | none,K=>K d
 | some (.c (.v (.int _ n))),K=>K n
 | some _,_=>False
def Q9 (k:TK) (m:Mem) (x:AV) (lo hi mx:Option AV) (K:KK):Prop:=match k,x with
 | .str,.c (.v (.string s))=>mx.isNone∧bnd 0 lo fun l=>bnd s.size hi fun h=>0≤l∧l≤h∧h≤s.size∧K (.c (.v (.string (s.extract l.toNat h.toNat)))) m
 | .sl esz _ _ _,.c (.sl sz es sp)=>sz=esz∧bnd 0 lo fun l=>bnd es.length hi fun h=>match mx with
  | none=>0≤l∧l≤h∧match sp with
   | some sp=>h≤es.length + sp.length∧K (.c (.sl sz (((es++sp).take h.toNat).drop l.toNat) (some ((es++sp).drop h.toNat)))) m
   | none=>h≤es.length∧K (.c (.sl sz ((es.take h.toNat).drop l.toNat) none)) m
  | some mx=>hi.isSome∧bnd 0 (some mx) fun c=>0≤l∧l≤h∧h≤c∧c≤es.length ∧
    K (.c (.sl sz ((es.take h.toNat).drop l.toNat) (some ((es.take c.toNat).drop h.toNat)))) m
 | .sl esz _ _ _,.t id ver n=>match m.get id with
  | some (.arr v sz es cap _)=>v=ver∧sz=esz∧n≤es.length∧mx.isNone∧bnd n hi fun h=>match lo with
   | none=>0≤h∧(h≤n∨cap.isSome∧h≤es.length)∧K (.t id ver h.toNat) m
   | some _=>bnd 0 lo fun l=>0≤l∧l≤h∧h≤n∧K (.c (.sl sz ((es.take h.toNat).drop l.toNat) none)) (m.upd id (.arr v sz es cap true))
  | _=>False
 | _,_=>False
def J7 (k:TK) (m:Mem) (x i:AV) (K:KK):Prop:=match i with
 | .c (.v (.int _ i))=>match k,x with
  | .ar n esz _,.p id ver o=>2≤n∧0≤i∧i < n∧K (.p id ver (o + i.toNat * esz)) m
  | .ar n esz _,.c (.rp cs)=>2≤n∧0≤i∧i < n∧K (.c (.rp (cs.drop (i.toNat * esz)))) m
  | .sl esz _ _ _,.c (.sl sz es _)=>sz=esz∧0≤i∧i < es.length∧K (.c (.rp (es.getD i.toNat []))) m
  | .sl esz _ _ _,.t id ver n=>match m.get id with
   | some (.arr v sz es _ _)=>v=ver∧sz=esz∧n≤es.length∧0≤i∧i < n∧K (.tp id ver i.toNat 0) m
   | _=>False
  | .sl esz _ _ _,.bs id ver n=>0≤i∧i < n∧K (.p id ver (i.toNat * esz)) m
  | _,_=>False
 | _=>False
def Z8 (k:TK) (m:Mem) (x i:AV) (K:KK):Prop:=match i with
 | .c (.v (.int _ i))=>match k,x with
  | .str,.c (.v (.string s))=>0≤i∧i < s.size∧K (.c (.v (.int .u8 ((s.data.toList.getD i.toNat 0).toNat:Nat)))) m
  | .ar n esz eagg,.agg cs=>0≤i∧i < n∧W2 eagg esz (cs.drop (i.toNat * esz)) fun y=>K y m
  | _,_=>False
 | _=>False
def z1b (f:Nat × Nat × Bool) (m:Mem) (x:AV) (K:KK):Prop:=match x with
 | .agg cs=>W2 f.2.2 f.2.1 (cs.drop f.1) fun y=>K y m
 | _=>False
def T1 (i:Nat) (m:Mem) (x:AV) (K:KK):Prop:=match x with
 | .tup cs=>match cs[i]? with | some y=>K y m | none=>False
 | _=>False
def z7d (k:TK) (m:Mem) (x:AV) (K:KK):Prop:=match k,x with
 | .str,.c (.v (.string s))=>K (.c (.v (.int .i64 s.size))) m
 | .ar n _ _,_=>K (.c (.v (.int .i64 n))) m
 | .sl _ _ _ _,.c (.sl _ es _)=>K (.c (.v (.int .i64 es.length))) m
 | .sl _ _ _ _,.t _ _ n=>K (.c (.v (.int .i64 n))) m
 | .sl _ _ _ _,.bs _ _ n=>K (.c (.v (.int .i64 n))) m
 | _,_=>False
def w8q (k:TK) (m:Mem) (x:AV) (K:KK):Prop:=match k,x with
 | .sl _ _ _ _,.c (.sl _ es (some sp))=>K (.c (.v (.int .i64 (es.length + sp.length)))) m
 | .sl _ _ _ _,.t id ver _=>match m.get id with
  | some (.arr v _ _ (some c) _)=>v=ver∧K (.c (.v (.int .i64 c))) m
  | _=>False
 | _,_=>False
def R4 (mx:Bool) (m:Mem):List AV→KK→Prop
 | [.c (.v (.int k a)),.c (.v (.int k' b))],K=>k=k'∧K (.c (.v (.int k (if mx then (if b > a then b else a) else (if b < a then b else a))))) m
 | _,_=>False
def z9b (esz:Nat) (m:Mem) (x:AV) (K:List (List CV)→Prop):Prop:=match x with
 | .c (.v (.string s))=>esz=1∧K (E8 s.data.toList)
 | x=>z0k esz m x fun es=>K es
def z1u (site esz ebytes:Nat) (m:Mem) (s x:AV) (K:KK):Prop:=z9b esz m x fun ns=>match s with
 | .c (.sl sz es (some []))=>sz=esz∧(es.length + ns.length) * ebytes≤2 ^ 45 ∧
   (if ns=[] then K s m else K (.t site m.clk (es.length + ns.length)) (m.new site fun v=>.arr v esz (es++ns) none false))
 | .t id ver n=>match m.get id with
  | some (.arr v sz es _ pub)=>v=ver∧sz=esz∧n=es.length∧(es.length + ns.length) * ebytes≤2 ^ 45 ∧
    K (.t id m.clk (es.length + ns.length)) ((m.del id).new id fun v=>.arr v sz (es++ns) none pub)
  | _=>False
 | _=>False
def w2a (esz:Nat) (m:Mem) (d x:AV) (K:KK):Prop:=z9b esz m x fun ns=>match d with
 | .t id ver n=>match m.get id with
  | some (.arr v sz es cap false)=>v=ver∧sz=esz∧n≤es.length ∧
    K (.c (.v (.int .i64 (min ns.length n:Nat)))) (m.upd id (.arr v sz (ns.take (min ns.length n)++es.drop (min ns.length n)) cap false))
  | _=>False
 | _=>False
inductive OV where
 | c (x:CV)
 | arr (sz:Nat) (es:List (List CV)) (cap:Option Nat) (pub:Bool) (n:Nat)
 | ptr (cs:List OV)
 | bsl (n:Nat) (cs:List OV)
 | agg (cs:List OV)
 | tup (cs:List OV)
 deriving Inhabited
def N0 (packA:Mem→AV→(OV→Mem→Prop)→Prop) (m:Mem):List AV→(List OV→Mem→Prop)→Prop
 | [],K=>K [] m
 | a :: l,K=>packA m a fun o m=>N0 packA m l fun os m=>K (o :: os) m
def L1:Nat→Mem→AV→(OV→Mem→Prop)→Prop
 | 0,_,_,_=>False
 | k + 1,m,x,K=>match x with
  | .c x=>K (.c x) m
  | .t id ver n=>match m.get id with
   | some (.arr v sz es cap pub)=>v=ver∧n≤es.length∧K (.arr sz es cap pub n) (m.del id)
   | _=>False
  | .p id ver 0=>match m.get id with
   | some (.blk v cs)=>v=ver∧N0 (L1 k) (m.del id) cs fun os m=>K (.ptr os) m
   | _=>False
  | .bs id ver n=>match m.get id with
   | some (.blk v cs)=>v=ver∧N0 (L1 k) (m.del id) cs fun os m=>K (.bsl n os) m
   | _=>False
  | .agg cs=>N0 (L1 k) m cs fun os m=>K (.agg os) m
  | .tup cs=>N0 (L1 k) m cs fun os m=>K (.tup os) m
  | _=>False
def G6 (unpackA:Nat→Mem→OV→AV × Nat × Mem) (id:Nat) (m:Mem):List OV→List AV × Nat × Mem
 | []=>([],id,m)
 | o :: l=>let r:=unpackA id m o;let q:=G6 unpackA r.2.1 r.2.2 l;(r.1 :: q.1,q.2.1,q.2.2)
def H0:Nat→Nat→Mem→OV→AV × Nat × Mem
 | 0,id,m,_=>(.dead,id,m)
 | k + 1,id,m,o=>match o with
  | .c x=>(.c x,id,m)
  | .arr sz es cap pub n=>(.t id m.clk n,id + 1,m.new id fun v=>.arr v sz es cap pub)
  | .ptr cs=>let q:=G6 (H0 k) (1000000 * (id + 1)) m cs;(.p id q.2.2.clk 0,id + 1,q.2.2.new id fun v=>.blk v q.1)
  | .bsl n cs=>let q:=G6 (H0 k) (1000000 * (id + 1)) m cs;(.bs id q.2.2.clk n,id + 1,q.2.2.new id fun v=>.blk v q.1)
  | .agg cs=>let q:=G6 (H0 k) id m cs;(.agg q.1,q.2.1,q.2.2)
  | .tup cs=>let q:=G6 (H0 k) id m cs;(.tup q.1,q.2.1,q.2.2)
inductive z0m where
 | shut | keep | own | ref (s:Nat)
def z7m (m:Mem) (x:AV) (K:OV→Mem→Prop):Prop:=match x with
 | .agg cs=>T9 m cs fun xs m=>K (.agg (xs.map .c)) m
 | x=>P7 m x fun y m=>K (.c y) m
def depth:Nat:=6
def w2h (md:z0m) (m:Mem) (x:AV) (K:OV→Mem→Prop):Prop:=match md with
 | .shut=>z7m m x K
 | .keep=>match x with | .c y=>K (.c y) m | _=>False
 | .own=>L1 depth m x K
 | .ref s=>match x with
  | .p id ver o=>match m.get id with
   | some (.blk v cs)=>v=ver∧o + s≤cs.length∧(∀ x ∈ (cs.drop o).take s,x.isDead=false)∧N0 (L1 depth) (m.upd id (.blk v (F9 cs o (List.replicate s .dead)))) ((cs.drop o).take s) fun os m=>K (.ptr os) m
   | _=>False
  | _=>False
def z6w (m:Mem):List z0m→List AV→(List OV→Mem→Prop)→Prop
 | [],[],K=>K [] m
 | md :: mds,x :: xs,K=>w2h md m x fun o m=>z6w m mds xs fun os m=>K (o :: os) m
 | _,_,_=>False
def R7 (id:Nat) (m:Mem):List z0m→List AV→List OV→(Nat→Mem→Prop)→Prop
 | [],[],[],K=>K id m
 | .ref s :: mds,.p i ver o :: xs,.ptr os :: l,K =>
  let q:=G6 (H0 depth) (1000000 * (i + 1)) m os
  os.length=s∧match q.2.2.get i with
   | some (.blk v cs)=>v=ver∧o + s≤cs.length∧R7 id (q.2.2.upd i (.blk v (F9 cs o q.1))) mds xs l K
   | _=>False
 | .ref _ :: _,_,_,_=>False
 | _ :: mds,_ :: xs,_ :: l,K=>R7 id m mds xs l K
 | _,_,_,_=>False
abbrev Spec:=FuncId→List OV→(OV→List OV→Prop)→Prop
def w8u (D:Spec) (site:Nat) (m:Mem) (f:FuncId) (args:List AV) (K:KK):Prop :=
 ∃ mds:List z0m,z6w m mds args fun os m=>∃ Q,D f os Q∧∀ r bs,Q r bs →
  R7 site m mds args bs fun id m=>let u:=H0 depth id m r;K u.1 u.2.2
def w1p:CV→Bool
 | .v (.int .u8 _)=>true
 | _=>false
mutual
def z5o:CV→Bool
 | .v _=>true
 | .sl _ es sp=>z1y es && k4e sp
 | .rp cs=>z7p cs
def z7p:List CV→Bool
 | []=>true
 | x :: l=>!w1p x && (z5o x && z7p l)
def z1y:List (List CV)→Bool
 | []=>true
 | r :: l=>z7p r && z1y l
def k4e:Option (List (List CV))→Bool
 | none=>true
 | some s=>z1y s
end
def k4d (es:List (List CV)):Bool:=es.all fun r=>r.all z5o
def u8E (es:List (List CV)):Bool:=es.all fun r=>r.all w1p
mutual
def z4h:OV→Bool
 | .c x=>z5o x
 | .arr _ es _ pub _=>!pub && k4d es
 | .ptr _=>false
 | .bsl _ _=>false
 | .agg l=>z5n l
 | .tup l=>z5n l
def z5n:List OV→Bool
 | []=>true
 | o :: l=>z4h o && z5n l
end
def w4j (m:Mem):AV→CV→Prop
 | .c y,z=>z=y∨z=z2x y
 | .t id ver n,.sl sz es' sp'=>match m.get id with
  | some (.arr v sz' es cap false)=>v=ver∧sz=sz'∧n≤es.length∧u8E es=true∧es'=es.take n∧(sp'=none∨(cap=some es.length∧n < es.length)∧sp'=some (es.drop n))
  | _=>False
 | _,_=>False
def w7x:List AV→List OV→Prop
 | [],[]=>True
 | .c y :: xs,.c z :: os=>(z=y∨z=z2x y)∧w7x xs os
 | _,_=>False
def z2a (m:Mem):List AV→List OV→Prop
 | [],[]=>True
 | .agg cs :: xs,.agg zs :: os=>w7x cs zs∧z2a m xs os
 | x :: xs,.c z :: os=>w4j m x z∧z2a m xs os
 | _,_=>False
def w8t (D:Spec) (site:Nat) (m:Mem) (f:FuncId) (args:List AV) (K:KK):Prop :=
 ∃ os,z2a m args os∧∃ Q,D f os Q∧∀ r bs,Q r bs→z4h r=true∧K (H0 depth site m r).1 (H0 depth site m r).2.2
def w8s (D:Spec) (site:Nat) (m:Mem) (f:FuncId) (args:List AV) (K:KK):Prop:=w8u D site m f args K∨w8t D site m f args K
def U7 (d:Option Tmp):Nat:=match d with | some d=>1000 * (d + 1) | none=>0
def H8 (tm:List AV) (d:Option Tmp) (v:AV):List AV:=match d with | some d=>tm.set d v | none=>tm
def evL (T:Tab) (G:L2) (tm:List AV):List Operand→List TypeId→List AV
 | [],_=>[]
 | x :: xs,tys=>evO T G tm (tys.headD 0) x :: evL T G tm xs tys.tail
def J8 (T:Tab) (site:Nat) (m:Mem) (b:Builtin) (tys:List TypeId) (args:List AV) (K:KK):Prop:=match b,args,tys with
 | .len,[x],[t]=>z7d (T.at t).k m x K
 | .cap,[x],[t]=>w8q (T.at t).k m x K
 | .min,l,_=>R4 false m l K
 | .max,l,_=>R4 true m l K
 | .append,[s,x],[t,t2]=>match (T.at t).k,(T.at t2).k with
  | .sl esz _ ebytes _,.sl _ _ _ _=>z1u site esz ebytes m s x K
  | .sl esz _ ebytes _,.str=>z1u site esz ebytes m s x K
  | _,_=>False
 | .copy,[d,x],[t,_]=>match (T.at t).k with
  | .sl esz _ _ _=>w2a esz m d x K
  | _=>False
 | _,_,_=>False
def opW (T:Tab) (G:L2) (D:Spec) (tm:List AV) (o:Oper) (m:Mem) (K:KK):Prop :=
 let ev:=evO T G tm
 let site:=U7 o.dst
 match o.op with
 | .move x | .assign x=>K (ev o.type x) m
 | .pick c a b=>Y5 (ev 0 c) (K (ev o.type a) m) (K (ev o.type b) m)
 | .alloc e=>match (T.at e).size with | 0=>False | _ + 1=>w3v site (T.at e).zero m K
 | .box e x=>k0k site m (ev e x) K
 | .build t ps=>match (T.at t).k with
  | .st fs=>N9 (Y9 fs) (T.at t).zero (ps.toList.map fun p=>(p.1,ev 0 p.2)) m K
  | .ar _ esz _=>N9 (fun i=>some (i * esz,esz)) (T.at t).zero (ps.toList.map fun p=>(p.1,ev 0 p.2)) m K
  | _=>False
 | .buildSlice t len ps=>match (T.at t).k with
  | .sl esz _ _ _=>bif Nat.ble 16 esz then (T4 site esz (T.at t).ezero len (ps.toList.map fun p=>(p.1,ev 0 p.2)) m K∨W9 site esz (T.at t).ezero len (ps.toList.map fun p=>(p.1,ev 0 p.2)) m K) else T4 site esz (T.at t).ezero len (ps.toList.map fun p=>(p.1,ev 0 p.2)) m K
  | _=>False
 | .load t a=>match (T.at t).size with | 0=>False | s + 1=>W5 (T.at t).agg (s + 1) m (ev 0 a) K
 | .store t a x=>match (T.at t).size with | 0=>False | s + 1=>z5f (s + 1) m (ev 0 a) (ev t x) fun m=>K .dead m
 | .nilCheck x=>L5 m (ev 0 x) K
 | .binOp op t x y _=>match w8z (ev t x) (ev t y) with
  | some p=>eqW op (T.at t) m p.1 p.2 K
  | none=>z6t op (T.at t).k m (ev t x) (ev t y) K
 | .unOp op _ x=>unW op m (ev 0 x) K
 | .convert s d x=>W6 (T.at s).k (T.at d).k site m (ev s x) K
 | .makeSlice t l c=>match (T.at t).k with
  | .sl esz _ ebytes _=>Z5 site esz ebytes (T.at t).ezero m (ev 0 l) (ev 0 c) K
  | _=>False
 | .slice t x lo hi mx=>Q9 (T.at t).k m (ev t x) (lo.map (ev 0)) (hi.map (ev 0)) (mx.map (ev 0)) K
 | .fieldAddr s x f=>match (T.at s).k with
  | .st fs=>match fs[f]? with
   | some (off,_ + 1,_)=>L0 off m (ev 0 x) K
   | some (_,0,_)=>False
   | none=>False
  | _=>False
 | .field t x f=>match (T.at t).k with
  | .st fs=>match fs[f]? with
   | some f=>z1b f m (ev 0 x) K
   | none=>False
  | _=>False
 | .indexAddr t x i=>J7 (T.at t).k m (ev t x) (ev 0 i) K
 | .index t x i=>Z8 (T.at t).k m (ev t x) (ev 0 i) K
 | .extract x i=>T1 i m (ev 0 x) K
 | .call c=>match c.callee with
  | .builtin b=>J8 T site m b c.argTypes.toList (evL T G tm c.args.toList c.argTypes.toList) K
  | .value f=>match ev 0 f with
   | .c (.v (.func (.func g) first captured))=>first=#[]∧captured=#[]∧w8s D site m g (evL T G tm c.args.toList c.argTypes.toList) K
   | _=>False
  | _=>False
 | _=>False
def R0:AV:=.tup []
def Z7:AV→Bool
 | .tup []=>true
 | _=>false
def K9 (all:List Oper) (tm:List AV) (g:Option (Nat × Bool)) (go skip:Prop):Prop:=match g with
 | none=>go
 | some (j,want)=>match (all[j]?).bind (·.dst) with
  | some d=>match Z7 (tm.getD d .dead) with
   | true=>skip
   | false=>Y5 (tm.getD d .dead) (if want then go else skip) (if want then skip else go)
  | none=>False
def mvT (o:Oper) (tm:List AV):Option Tmp:=match o.guard with
 | none=>match o.op with
  | .move (.tmp s)=>match tm.getD s .dead with
   | .t _ _ _=>some s
   | _=>none
  | _=>none
 | some _=>none
def z4s (T:Tab) (G:L2) (D:Spec) (all:List Oper):List Oper→List AV→Mem→(List AV→Mem→Prop)→Prop
 | [],tm,m,K=>K tm m
 | o :: r,tm,m,K=>match mvT o tm with
  | none=>K9 all tm o.guard (opW T G D tm o m fun v m=>z4s T G D all r (H8 tm o.dst v) m K) (z4s T G D all r (H8 tm o.dst R0) m K)
  | some s=>opW T G D tm o m (fun v m=>z4s T G D all r (H8 tm o.dst v) m K) ∨
    P7 m (tm.getD s .dead) fun y m=>z4s T G D all r (H8 (H8 tm (some s) (.c y)) o.dst (tm.getD s .dead)) m K
def Ob.same:Option Ob→Option Ob→Prop
 | none,none=>True
 | some (.blk v cs),some (.blk v' cs')=>v=v'∧cs=cs'
 | some (.arr v sz es cap _),some (.arr v' sz' es' cap' _)=>v=v'∧sz=sz'∧es=es'∧cap=cap'
 | _,_=>False
def Agree (wr:List Nat) (m m':Mem):Prop:=m.clk≤m'.clk∧∀ id ob,id ∉ wr→m.get id=some ob→Ob.same (some ob) (m'.get id)
def z8h (T:Tab) (o:Oper):Bool:=match o.op with
 | .move _ | .assign _ | .pick _ _ _ | .nilCheck _ | .fieldAddr _ _ _ | .field _ _ _ | .extract _ _ | .binOp _ _ _ _ _ | .unOp _ _ _ | .load _ _ | .indexAddr _ _ _ | .index _ _ _=>true
 | .convert s d _=>match (T.at s).k,(T.at d).k with | .int _,.int _=>true | .str,.str=>true | .sl _ _ _ _,.str=>true | _,_=>false
 | .slice _ _ _ _ _=>true
 | .build _ _=>true
 | .call c=>match c.callee with | .builtin .len=>true | .builtin .min=>true | .builtin .max=>true | _=>false
 | _=>false
def Z9 (T:Tab) (G:L2) (wr:List Nat) (tm:List AV) (o:Oper) (m:Mem) (K:AV→Prop):Prop :=
 let ev:=evO T G tm
 let K':KK:=fun v _=>K v
 match o.op with
 | .move x | .assign x=>K (ev o.type x)
 | .pick c a b=>Y5 (ev 0 c) (K (ev o.type a)) (K (ev o.type b))
 | .nilCheck x=>L5 m (ev 0 x) K'
 | .fieldAddr s x f=>match (T.at s).k with
  | .st fs=>match fs[f]? with
   | some (off,_ + 1,_)=>L0 off m (ev 0 x) K'
   | some (_,0,_)=>False
   | none=>False
  | _=>False
 | .field t x f=>match (T.at t).k with
  | .st fs=>match fs[f]? with
   | some f=>z1b f m (ev 0 x) K'
   | none=>False
  | _=>False
 | .extract x i=>T1 i m (ev 0 x) K'
 | .binOp op t x y _=>match w8z (ev t x) (ev t y) with
  | some p=>eqW op (T.at t) m p.1 p.2 K'
  | none=>z6t op (T.at t).k m (ev t x) (ev t y) K'
 | .unOp op _ x=>unW op m (ev 0 x) K'
 | .load t a=>match (T.at t).size with
  | 0=>False
  | s + 1=>match ev 0 a with
   | .p id ver o=>id ∉ wr∧W5 (T.at t).agg (s + 1) m (.p id ver o) K'
   | .tp id ver i o=>id ∉ wr∧W5 (T.at t).agg (s + 1) m (.tp id ver i o) K'
   | .c x=>W5 (T.at t).agg (s + 1) m (.c x) K'
   | _=>False
 | .indexAddr t x i=>match ev t x with
  | .t id ver n=>id ∉ wr∧J7 (T.at t).k m (.t id ver n) (ev 0 i) K'
  | x=>J7 (T.at t).k m x (ev 0 i) K'
 | .index t x i=>Z8 (T.at t).k m (ev t x) (ev 0 i) K'
 | .convert s d x=>match (T.at d).k,ev s x with
  | .int k,.c x=>W6 (T.at s).k (.int k) 0 m (.c x) K'
  | .str,.c x=>W6 (T.at s).k .str 0 m (.c x) K'
  | .str,.t id ver n=>id ∉ wr∧W6 (T.at s).k .str 0 m (.t id ver n) K'
  | _,_=>False
 | .slice t x lo hi mx=>match ev t x with
  | .c x=>Q9 (T.at t).k m (.c x) (lo.map (ev 0)) (hi.map (ev 0)) (mx.map (ev 0)) K'
  | .t id ver n=>lo=none∧id ∉ wr∧Q9 (T.at t).k m (.t id ver n) none (hi.map (ev 0)) (mx.map (ev 0)) K'
  | _=>False
 | .call c=>match c.callee with
  | .builtin .len=>J8 T 0 m .len c.argTypes.toList (evL T G tm c.args.toList c.argTypes.toList) K'
  | .builtin .min=>J8 T 0 m .min c.argTypes.toList (evL T G tm c.args.toList c.argTypes.toList) K'
  | .builtin .max=>J8 T 0 m .max c.argTypes.toList (evL T G tm c.args.toList c.argTypes.toList) K'
  | _=>False
 | .build t ps=>match (T.at t).k with
  | .st fs=>N9 (Y9 fs) (T.at t).zero (ps.toList.map fun p=>(p.1,ev 0 p.2)) m K'
  | .ar _ esz _=>N9 (fun i=>some (i * esz,esz)) (T.at t).zero (ps.toList.map fun p=>(p.1,ev 0 p.2)) m K'
  | _=>False
 | _=>False
def w3h (T:Tab) (ops:Array Oper):Nat→Array Bool→Option (List (Nat × Bool))
 | 0,listed=>if (Region.ready .any ops listed).isEmpty then some [] else none
 | n + 1,listed =>
  let rs:=Region.ready .any ops listed
  match rs.find? fun i=>((ops[i]?).map (z8h T)).getD false && Region.free .any ops listed i with
  | some i=>(w3h T ops n (listed.setIfInBounds i true)).map ((i,true) :: ·)
  | none=>match rs with
   | []=>some []
   | [i]=>(w3h T ops n (listed.setIfInBounds i true)).map ((i,false) :: ·)
   | _=>none
def Y1 (o:Oper):Bool:=match o.op with
 | .load _ _ | .indexAddr _ _ _ | .convert _ _ _ | .slice _ _ _ _ _=>true
 | _=>false
def w8w (all:List Oper):Nat→Oper→Nat→Bool
 | 0,_,_=>false
 | n + 1,o,k=>o.after.any fun e=>Region.binds .any e && (e.on == k || match all[e.on]? with | some p=>w8w all n p k | none=>false)
def T8 (all:List Oper) (o:Oper):Bool:=(List.range all.length).all fun k=>match all[k]? with
 | some ok=>!Y1 ok || w8w all 4 o k
 | none=>true
def dnW:List (List Nat)→List (List Nat)
 | a :: b :: r=>if b.all a.contains then b :: r else a :: b :: r
 | l=>l
def z0v (T:Tab) (G:L2) (D:Spec) (wr:List (List Nat)) (all:List Oper):List (Nat × Bool)→List AV→Mem→(List AV→Mem→Prop)→Prop
 | [],tm,m,K=>K tm m
 | (i,h) :: r,tm,m,K=>match all[i]? with
  | none=>False
  | some o=>if h then K9 all tm o.guard (Z9 T G (wr.headD []) tm o m fun v=>z0v T G D wr all r (H8 tm o.dst v) m K) (z0v T G D wr all r (H8 tm o.dst R0) m K)
   else K9 all tm o.guard (opW T G D tm o m fun v m'=>(T8 all o=true∨Agree (wr.headD []) m m')∧z0v T G D (dnW wr) all r (H8 tm o.dst v) m' K) (z0v T G D (dnW wr) all r (H8 tm o.dst R0) m K)
inductive PL where
 | nil
 | op (i:Nat) (h lb:Bool) (r:PL)
 | alt (i j:Nat) (li lj:Bool) (a b:PL)
def PL.deep:PL→Nat
 | .nil=>0
 | .op _ _ _ r=>r.deep + 1
 | .alt _ _ _ _ a b=>max a.deep b.deep + 1
def z6h (ops:Array Oper) (i:Nat) (lb:Bool):Bool:=match ops.toList[i]? with | some o=>lb == T8 ops.toList o | none=>true
def Q7 (T:Tab) (ops:Array Oper):Array Bool→PL→Bool
 | listed,.nil=>(Region.ready .any ops listed).isEmpty
 | listed,.op i h lb r=>(match h with
  | true=>(Region.ready .any ops listed).contains i && ((ops[i]?).map (z8h T)).getD false && Region.free .any ops listed i
  | false=>Region.ready .any ops listed == [i] && z6h ops i lb) && Q7 T ops (listed.setIfInBounds i true) r
 | listed,.alt i j li lj a b=>Region.ready .any ops listed == [i,j] && z6h ops i li && z6h ops j lj && Q7 T ops (listed.setIfInBounds i true) a && Q7 T ops (listed.setIfInBounds j true) b
def nhW (T:Tab) (G:L2) (D:Spec) (wr:List Nat) (all:List Oper) (o:Oper) (tm:List AV) (m:Mem) (K:List AV→Mem→Prop):Prop :=
 K9 all tm o.guard (opW T G D tm o m fun v m'=>(T8 all o=true∨Agree wr m m')∧K (H8 tm o.dst v) m') (K (H8 tm o.dst R0) m)
def R3 (T:Tab) (G:L2) (D:Spec) (all:List Oper):List (List Nat)→PL→List AV→Mem→(List AV→Mem→Prop)→Prop
 | _,.nil,tm,m,K=>K tm m
 | wr,.op i h _ r,tm,m,K=>match all[i]? with
  | none=>False
  | some o=>match h with
   | true=>K9 all tm o.guard (Z9 T G (wr.headD []) tm o m fun v=>R3 T G D all wr r (H8 tm o.dst v) m K) (R3 T G D all wr r (H8 tm o.dst R0) m K)
   | false=>nhW T G D (wr.headD []) all o tm m fun tm m=>R3 T G D all (dnW wr) r tm m K
 | wr,.alt i j _ _ a b,tm,m,K=>match all[i]?,all[j]? with
  | some oi,some oj=>nhW T G D (wr.headD []) all oi tm m (fun tm m=>R3 T G D all wr a tm m K)∧nhW T G D (wr.headD []) all oj tm m (fun tm m=>R3 T G D all wr b tm m K)
  | _,_=>False
def z1c (T:Tab) (G:L2) (D:Spec) (ops:Array Oper) (tm:List AV) (m:Mem) (K:List AV→Mem→Prop):Prop :=
 Region.noSelect ops=true∧((match w3h T ops ops.size (Array.replicate ops.size false) with
  | some ord=>∃ wr,z0v T G D wr ops.toList ord tm m K
  | none=>False)∨∃ t wr,Q7 T ops (Array.replicate ops.size false) t=true∧t.deep≤ops.size∧R3 T G D ops.toList wr t tm m K)
inductive EX where
 | norm | ret | ex (id:Nat)
abbrev KX:=EX→List AV→Mem→Prop
def Q3:Nat→List Nat→List AV→List AV
 | _,_,[]=>[]
 | i,[],_ :: l=>.dead :: Q3 (i + 1) [] l
 | i,k :: ks,x :: l=>if i=k then x :: Q3 (i + 1) ks l else .dead :: Q3 (i + 1) (k :: ks) l
def z8f (ids:List Nat):List (Nat × Ob)→List (Nat × Ob)
 | []=>[]
 | (i,o) :: r=>if i ∈ ids then (i,o) :: z8f ids r else z8f ids r
def Mem.keep (ids:List Nat) (m:Mem):Mem:=⟨z8f ids m.obs,m.clk⟩
mutual
def cnA (B:Nat) (m:Mem):AV→AV
 | .c x=>.c x
 | .t id ver n=>match m.get id with
  | some (.arr v _ _ _ _)=>match Nat.beq v ver with | true=>.t id B n | false=>.dead
  | _=>.dead
 | .p id ver o=>match m.get id with
  | some (.blk v _)=>match Nat.beq v ver with | true=>.p id (bif Nat.ble v B then v else B) o | false=>.dead
  | _=>.dead
 | .tp id ver i o=>match m.get id with
  | some (.arr v _ _ _ _)=>match Nat.beq v ver with | true=>.tp id B i o | false=>.dead
  | _=>.dead
 | .bs id ver n=>match m.get id with
  | some (.blk v _)=>match Nat.beq v ver with | true=>.bs id (bif Nat.ble v B then v else B) n | false=>.dead
  | _=>.dead
 | .agg cs=>.agg (cnL B m cs)
 | .tup cs=>.tup (cnL B m cs)
 | .dead=>.dead
def cnL (B:Nat) (m:Mem):List AV→List AV
 | []=>[]
 | x :: l=>cnA B m x :: cnL B m l
end
def z0b (B:Nat) (m:Mem) (caps:List Nat) (i:Nat):Ob→Ob
 | .blk v cs=>.blk (bif Nat.ble v B then v else B) (cnL B m cs)
 | .arr _ sz es cap pub=>.arr B sz es (bif caps.contains i then none else cap) pub
def w4s (B:Nat) (m:Mem) (caps:List Nat):List (Nat × Ob)→List (Nat × Ob)
 | []=>[]
 | (i,o) :: r=>(i,z0b B m caps i o) :: w4s B m caps r
def Mem.canon (B:Nat) (caps:List Nat) (m:Mem):Mem:=⟨w4s B m caps m.obs,B + 1⟩
mutual
def nmA:AV→AV
 | .c x=>.c (z2x x)
 | .t id ver n=>.t id ver n
 | .p id ver o=>.p id ver o
 | .tp id ver i o=>.tp id ver i o
 | .bs id ver n=>.bs id ver n
 | .agg cs=>.agg (nmL cs)
 | .tup cs=>.tup (nmL cs)
 | .dead=>.dead
def nmL:List AV→List AV
 | []=>[]
 | x :: l=>nmA x :: nmL l
end
def w7r:Ob→Ob
 | .blk v cs=>.blk v (nmL cs)
 | .arr v sz es cap pub=>.arr v sz es cap pub
def w4h:List (Nat × Ob)→List (Nat × Ob)
 | []=>[]
 | (i,o) :: r=>(i,w7r o) :: w4h r
def Mem.nm (m:Mem):Mem:=⟨w4h m.obs,m.clk⟩
def z9l:List Nat→Bool
 | []=>false
 | i :: l=>if i=7777777 then true else z9l l
def z0z (i:Nat):List (Nat × Nat)→Option Nat
 | []=>none
 | (k,j) :: r=>if i=k then some j else z0z i r
def w8a (j:Nat):List (Nat × Nat)→Option Nat
 | []=>none
 | (i,k) :: r=>if j=k then some i else w8a j r
def isN (j:Nat):Option Nat→Bool
 | some i=>if i=j then true else false
 | none=>false
def w1d (rn:List (Nat × Nat)):Bool:=rn.all fun p=>isN p.2 (z0z p.1 rn) && isN p.1 (w8a p.2 rn)
def rnV (B i j v:Nat):Nat:=if i=j then (bif Nat.ble v B then v else B) else B
mutual
def rnA (B:Nat) (rn:List (Nat × Nat)) (m:Mem):AV→AV
 | .c x=>.c x
 | .t id ver n=>match m.get id with
  | some (.arr v _ _ _ _)=>match Nat.beq v ver with
   | true=>match z0z id rn with | some j=>.t j B n | none=>.dead
   | false=>.dead
  | _=>.dead
 | .p id ver o=>match m.get id with
  | some (.blk v _)=>match Nat.beq v ver with
   | true=>match z0z id rn with | some j=>.p j (rnV B id j v) o | none=>.dead
   | false=>.dead
  | _=>.dead
 | .tp id ver i o=>match m.get id with
  | some (.arr v _ _ _ _)=>match Nat.beq v ver with
   | true=>match z0z id rn with | some j=>.tp j B i o | none=>.dead
   | false=>.dead
  | _=>.dead
 | .bs id ver n=>match m.get id with
  | some (.blk v _)=>match Nat.beq v ver with
   | true=>match z0z id rn with | some j=>.bs j (rnV B id j v) n | none=>.dead
   | false=>.dead
  | _=>.dead
 | .agg cs=>.agg (rnL B rn m cs)
 | .tup cs=>.tup (rnL B rn m cs)
 | .dead=>.dead
def rnL (B:Nat) (rn:List (Nat × Nat)) (m:Mem):List AV→List AV
 | []=>[]
 | x :: l=>rnA B rn m x :: rnL B rn m l
end
def z1v (B:Nat) (rn:List (Nat × Nat)) (m:Mem) (caps:List Nat) (i j:Nat):Ob→Ob
 | .blk v cs=>.blk (rnV B i j v) (rnL B rn m cs)
 | .arr _ sz es cap pub=>.arr B sz es (bif caps.contains j then none else cap) pub
def z7r (B:Nat) (rn:List (Nat × Nat)) (m:Mem) (caps:List Nat):List (Nat × Nat)→List (Nat × Ob)
 | []=>[]
 | (i,j) :: r=>match m.get i with
  | some ob=>(j,z1v B rn m caps i j ob) :: z7r B rn m caps r
  | none=>z7r B rn m caps r
def Mem.rnm (B:Nat) (rn:List (Nat × Nat)) (caps:List Nat) (m:Mem):Mem:=⟨z7r B rn m caps rn,B + 1⟩
def k5p (i:Nat) (s:List Nat):List Nat:=bif s.contains i then s else s++[i]
def z0r (m:Mem):Nat→List AV→List Nat→List Nat
 | 0,_,s=>s
 | _ + 1,[],s=>s
 | n + 1,.agg cs :: r,s=>z0r m n (cs++r) s
 | n + 1,.tup cs :: r,s=>z0r m n (cs++r) s
 | n + 1,.t id ver _ :: r,s=>match m.get id with
  | some (.arr v _ _ _ _)=>match Nat.beq v ver with | true=>z0r m n r (k5p id s) | false=>z0r m n r s
  | _=>z0r m n r s
 | n + 1,.tp id ver _ _ :: r,s=>match m.get id with
  | some (.arr v _ _ _ _)=>match Nat.beq v ver with | true=>z0r m n r (k5p id s) | false=>z0r m n r s
  | _=>z0r m n r s
 | n + 1,.p id ver _ :: r,s=>match m.get id with
  | some (.blk v cs)=>match Nat.beq v ver,s.contains id with | true,false=>z0r m n (cs++r) (s++[id]) | _,_=>z0r m n r s
  | _=>z0r m n r s
 | n + 1,.bs id ver _ :: r,s=>match m.get id with
  | some (.blk v cs)=>match Nat.beq v ver,s.contains id with | true,false=>z0r m n (cs++r) (s++[id]) | _,_=>z0r m n r s
  | _=>z0r m n r s
 | n + 1,_ :: r,s=>z0r m n r s
def w4g (m:Mem):List Nat→List AV
 | []=>[]
 | i :: r=>match m.get i with
  | some (.blk v _)=>.p i v 0 :: w4g m r
  | _=>w4g m r
def mkR (pins:List Nat):Nat→List Nat→List (Nat × Nat)
 | _,[]=>[]
 | k,i :: r=>bif pins.contains i then mkR pins k r else (i,500 + k) :: mkR pins (k + 1) r
def w4b (live ids:List Nat) (tm:List AV) (m:Mem):List (Nat × Nat) :=
 let rn:=ids.map (fun i=>(i,i))++mkR ids 0 (z0r m 4000 (Q3 0 live tm++w4g m ids) [])
 bif w1d rn then rn else []
def w0d:List Nat→Bool
 | []=>false
 | i :: l=>if i=8888888 then true else w0d l
def w9y (B:Nat) (live ids:List Nat) (tm:List AV) (m:Mem):List AV:=bif w0d ids then rnL B (w4b live ids tm m) m (Q3 0 live tm) else cnL B (m.keep ids) (Q3 0 live tm)
def w9z (B:Nat) (live ids caps:List Nat) (tm:List AV) (m:Mem):Mem:=bif w0d ids then m.rnm B (w4b live ids tm m) caps else (m.keep ids).canon B caps
def fgT (B:Nat) (live ids:List Nat) (tm:List AV) (m:Mem):List AV:=bif z9l ids then nmL (w9y B live ids tm m) else w9y B live ids tm m
def fgM (B:Nat) (live ids caps:List Nat) (tm:List AV) (m:Mem):Mem:=bif z9l ids then (w9z B live ids caps tm m).nm else w9z B live ids caps tm m
def w7v (B:Nat) (live ids caps:List Nat) (X:List AV→Mem→KX→Prop) (K:KX):Nat→List AV→Mem→Prop
 | 0,_,_=>False
 | n + 1,tm,m=>X (fgT B live ids tm m) (fgM B live ids caps tm m) fun e tm m=>match e with | .norm=>w7v B live ids caps X K n tm m | .ret=>K .ret tm m | .ex i=>K (.ex i) tm m
def z3k (B:Nat) (K:List AV→Mem→Prop) (tm:List AV) (m:Mem):Prop:=K tm m∨∃ live ids caps,K (fgT B live ids tm m) (fgM B live ids caps tm m)
def k0z:List Oper→Bool
 | []=>false
 | o :: l=>match o.guard with | some _=>true | none=>k0z l
def k6k (o:Oper):Bool:=match o.op with | .alloc _=>true | _=>false
def k6j (o:Oper):Bool:=match o.op with | .indexAddr _ _ _=>true | _=>false
def w9r (l:List Oper):Bool:=k0z l || (l.any k6k && l.any k6j)
def T2 (B:Nat) (T:Tab) (G:L2) (D:Spec):Code→List AV→Mem→KX→Prop
 | .skip,tm,m,K=>K .norm tm m
 | .label _,tm,m,K=>K .norm tm m
 | .region _ ops draw,tm,m,K=>match draw,w9r ops.toList with
  | false,false=>z4s T G D ops.toList ops.toList tm m (K .norm)
  | false,true=>z4s T G D ops.toList ops.toList tm m (z3k B (K .norm))
  | true,_=>z1c T G D ops tm m (z3k B (K .norm))
 | .seq a b,tm,m,K=>T2 B T G D a tm m fun e tm m=>match e with | .norm=>T2 B T G D b tm m K | .ret=>K .ret tm m | .ex i=>K (.ex i) tm m
 | .cond c a b,tm,m,K=>Y5 (evO T G tm 0 c) (T2 B T G D a tm m fun e tm m=>match e with | .norm=>z3k B (K .norm) tm m | .ret=>K .ret tm m | .ex i=>K (.ex i) tm m)
   (T2 B T G D b tm m fun e tm m=>match e with | .norm=>z3k B (K .norm) tm m | .ret=>K .ret tm m | .ex i=>K (.ex i) tm m)
 | .block id c,tm,m,K=>T2 B T G D c tm m fun e tm m=>match e with | .norm=>K .norm tm m | .ret=>K .ret tm m | .ex i=>if i=id then K .norm tm m else K (.ex i) tm m
 | .loop c,tm,m,K=>∃ live ids caps n,w7v B live ids caps (T2 B T G D c) K n tm m
 | .exit id,tm,m,K=>K (.ex id) tm m
 | .ret,tm,m,K=>K .ret tm m
 | _,_,_,_=>False
def P2 (T:Tab) (tm:List AV) (m:Mem):List ResultVar→(List AV→Prop)→Prop
 | [],K=>K []
 | .tmp t :: r,K=>P2 T tm m r fun l=>K (tm.getD t .dead :: l)
 | .cell a t :: r,K=>match (T.at t).size with | 0=>False | s + 1=>W5 (T.at t).agg (s + 1) m (tm.getD a .dead) fun x _=>P2 T tm m r fun l=>K (x :: l)
def N7 (m:Mem):List OV→List AV→(List OV→Mem→Prop)→Prop
 | [],_,K=>K [] m
 | .ptr _ :: os,.p id ver 0 :: xs,K=>match m.get id with
  | some (.blk v cs)=>v=ver∧N0 (L1 depth) (m.del id) cs fun ps m=>N7 m os xs fun l m=>K (.ptr ps :: l) m
  | _=>False
 | .ptr _ :: _,_,_=>False
 | o :: os,xs,K=>N7 m os xs.tail fun l m=>K (o :: l) m
def w1i:List AV→AV
 | [x]=>x
 | l=>.tup l
def w4d (m:Mem) (x:AV) (K:AV→Mem→Prop):Prop:=match x with
 | .agg cs=>T9 m cs fun xs m=>K (.agg (xs.map .c)) m
 | .c x=>K (.c (z2x x)) m
 | .t id ver n=>P7 m (.t id ver n) fun y m=>K (.c y) m
 | x=>K x m
def z5k (m:Mem):List AV→(List AV→Mem→Prop)→Prop
 | [],K=>K [] m
 | x :: xs,K=>w4d m x fun y m=>z5k m xs fun ys m=>K (y :: ys) m
def z9g (sh:Bool) (m:Mem) (xs:List AV) (K:List AV→Mem→Prop):Prop:=match sh with
 | true=>z5k m xs K
 | false=>K xs m
def FnW (T:Tab) (G:L2) (D:Spec) (fn:Func) (body:Code) (args:List OV) (Q:OV→List OV→Prop) (sh:Bool):Prop :=
 let u:=G6 (H0 depth) 0 ⟨[],0⟩ args
 T2 u.2.2.clk T G D body (u.1++List.replicate (fn.ntmps - args.length) .dead) u.2.2 fun e tm m=>match e with
  | .ex _=>False
  | _=>P2 T tm m fn.results.toList fun rs=>z9g sh m rs fun rs m=>L1 depth m (w1i rs) fun r m=>N7 m args u.1 fun bs _=>Q r bs
end Go.Proofs.YtioiigabeoaneaaGreat.V
namespace Go.Proofs.YtioiigabeoaneaaGreat.V
open Go Go.RowKit
abbrev D7:=Nat→Nat→Prop
abbrev D8 (w:World) (b o:Nat):Option Value:=w.cell? ⟨b,o,none⟩
inductive RelC (S:D7) (w:World):CV→Value→Prop
 | v (x:Value) (h:z3m x=true):RelC S w (.v x) x
 | sl (sz:Nat) (es:List (List CV)) (sp:Option (List (List CV))) (a:Option Addr) (cap b o:Nat) (f:Nat→Value)
   (hcap:es.length≤cap) (hsp:∀ s,sp=some s→cap=es.length + s.length)
   (ha:es++sp.getD []≠[]→a=some ⟨b,o,none⟩∧0 < sz)
   (hl:∀ (i:Nat) (e:List CV),(es++sp.getD [])[i]?=some e→e.length=sz)
   (hS:∀ k,k < (es++sp.getD []).length * sz→S b (o + k))
   (hc:∀ k,k < (es++sp.getD []).length * sz→D8 w b (o + k)=some (f k))
   (hr:∀ (i j:Nat) (e:List CV) (x:CV),(es++sp.getD [])[i]?=some e→e[j]?=some x→RelC S w x (f (i * sz + j))) :
   RelC S w (.sl sz es sp) (.slice a es.length cap)
 | rp (cs:List CV) (b o:Nat) (f:Nat→Value)
   (hS:∀ i,i < cs.length→S b (o + i))
   (hc:∀ i,i < cs.length→D8 w b (o + i)=some (f i))
   (hr:∀ (i:Nat) x,cs[i]?=some x→RelC S w x (f i)) :
   RelC S w (.rp cs) (.pointer (some ⟨b,o,none⟩))
theorem RelC.solid {S:D7} {w:World} {x:CV} {u:Value} (h:RelC S w x u):z3m u=true:=by
 cases h<;>first | assumption | rfl
theorem RelC.mono {S S':D7} {w w':World} (hS:∀ b o,S b o→S' b o) (hw:∀ b o,S b o→D8 w' b o=D8 w b o)
  {x:CV} {u:Value} (h:RelC S w x u):RelC S' w' x u:=by
 induction h with
 | v y hy=>exact .v _ hy
 | sl sz es sp a cap b o f hcap hsp ha hl hs hc _ ih =>
  exact .sl sz es sp a cap b o f hcap hsp ha hl (fun i hi=>hS _ _ (hs i hi))
   (fun i hi=>(hw _ _ (hs i hi)).trans (hc i hi)) ih
 | rp cs b o f hs hc _ ih=>exact .rp cs b o f (fun i hi=>hS _ _ (hs i hi)) (fun i hi=>(hw _ _ (hs i hi)).trans (hc i hi)) ih
theorem RelC.norm {S:D7} {w:World} {x:CV} {u:Value} (h:RelC S w x u):RelC S w (z2x x) u:=by
 cases h with
 | v y hy=>exact .v _ hy
 | sl sz es sp a cap b o f hcap hsp ha hl hs hc hr =>
  have hi:∀ (i:Nat) e,(es++(none:Option (List (List CV))).getD [])[i]?=some e→(es++sp.getD [])[i]?=some e:=fun i e h=>by
   simp only [Option.getD_none,List.append_nil] at h
   rw [List.getElem?_append_left (List.getElem?_eq_some_iff.1 h).1];exact h
  have hn:∀ k,k < (es++(none:Option (List (List CV))).getD []).length * sz→k < (es++sp.getD []).length * sz:=fun k hk =>
   Nat.lt_of_lt_of_le hk (Nat.mul_le_mul_right sz (by simp))
  exact .sl sz es none a cap b o f hcap (by simp) (fun h=>ha (by simp only [Option.getD_none,List.append_nil] at h;simp [h])) (fun i e h=>hl i e (hi i e h)) (fun k hk=>hs k (hn k hk)) (fun k hk=>hc k (hn k hk)) (fun i j e x he hx=>hr i j e x (hi i e he) hx)
 | rp cs b o f hs hc hr=>exact .rp cs b o f hs hc hr
abbrev E2:=Nat→Nat × Nat
inductive RelV (S:D7) (pl:E2) (w:World) (m:Mem):AV→Value→Prop
 | c (x:CV) (u:Value) (h:RelC S w x u):RelV S pl w m (.c x) u
 | t (id ver n b capn:Nat) (hv:ver < m.clk) (hn:n≤capn)
   (h:∀ ob,m.get id=some ob→ob.ver=ver→∃ sz es cap pub e,ob=.arr ver sz es cap pub∧n≤es.length ∧
    b=(pl id).1∧w.shape? b=some (e,capn * sz)):RelV S pl w m (.t id ver n) (.slice (some ⟨b,0,none⟩) n capn)
 | p (id ver off b o:Nat) (hv:ver < m.clk)
   (h:∀ ob,m.get id=some ob→ob.ver=ver→(∃ cs,ob=.blk ver cs)∧(b,o)=pl id):RelV S pl w m (.p id ver off) (.pointer (some ⟨b,o + off,none⟩))
 | tp (id ver i off b o:Nat) (hv:ver < m.clk)
   (h:∀ ob,m.get id=some ob→ob.ver=ver→∃ sz es cap pub,ob=.arr ver sz es cap pub∧i < es.length∧b=(pl id).1∧o=i * sz) :
   RelV S pl w m (.tp id ver i off) (.pointer (some ⟨b,o + off,none⟩))
 | bs (id ver n b o capn:Nat) (hv:ver < m.clk) (hn:n≤capn)
   (h:∀ ob,m.get id=some ob→ob.ver=ver→(∃ cs,ob=.blk ver cs)∧(b,o)=pl id):RelV S pl w m (.bs id ver n) (.slice (some ⟨b,o,none⟩) n capn)
 | agg (cs:List AV) (us:List Value) (hl:us.length=cs.length) (h:∀ (i:Nat) x u,cs[i]?=some x→us[i]?=some u→RelV S pl w m x u):RelV S pl w m (.agg cs) (.agg us.toArray)
 | tup (cs:List AV) (us:List Value) (hl:us.length=cs.length) (h:∀ (i:Nat) x u,cs[i]?=some x→us[i]?=some u→RelV S pl w m x u):RelV S pl w m (.tup cs) (.tuple us.toArray)
 | dead (u:Value):RelV S pl w m .dead u
def Ob.alike:Ob→Ob→Prop
 | .blk v _,.blk v' _=>v=v'
 | .arr v sz es _ _,.arr v' sz' es' _ _=>v=v'∧sz=sz'∧es.length≤es'.length
 | _,_=>False
structure Keeps (S S':D7) (pl pl':E2) (w w':World) (m m':Mem):Prop where
 sub:∀ b o,S b o→S' b o
 cell:∀ b o,S b o→D8 w' b o=D8 w b o
 shape:∀ b s,w.shape? b=some s→w'.shape? b=some s
 clk:m.clk≤m'.clk
 ob:∀ id ob',m'.get id=some ob'→ob'.ver < m.clk→∃ ob,m.get id=some ob∧ob.alike ob'∧pl' id=pl id
theorem Keeps.refl (S:D7) (pl:E2) (w:World) (m:Mem):Keeps S S pl pl w w m m :=
 ⟨fun _ _ h=>h,fun _ _ _=>rfl,fun _ _ h=>h,Nat.le_refl _,fun id ob h _=>⟨ob,h,by cases ob<;>simp [Ob.alike],rfl⟩⟩
theorem Ob.alike_ver {a b:Ob} (h:a.alike b):a.ver=b.ver:=by
 cases a<;>cases b<;>simp_all [Ob.alike,Ob.ver]
theorem Ob.alike_trans {a b c:Ob} (h:a.alike b) (k:b.alike c):a.alike c:=by
 cases a<;>cases b<;>cases c<;>simp only [Ob.alike] at *<;>omega
theorem Keeps.trans {S S' S'':D7} {pl pl' pl'':E2} {w w' w'':World} {m m' m'':Mem} (h:Keeps S S' pl pl' w w' m m') (k:Keeps S' S'' pl' pl'' w' w'' m' m'') :
  Keeps S S'' pl pl'' w w'' m m'' :=
 ⟨fun b o hs=>k.sub _ _ (h.sub _ _ hs),fun b o hs=>(k.cell _ _ (h.sub _ _ hs)).trans (h.cell _ _ hs),fun b s hs=>k.shape _ _ (h.shape _ _ hs),
  Nat.le_trans h.clk k.clk,fun id ob hob hv=>by
  obtain⟨o1,h1,a1,p1⟩:=k.ob id ob hob (Nat.lt_of_lt_of_le hv h.clk)
  obtain⟨o2,h2,a2,p2⟩:=h.ob id o1 h1 (by rw [Ob.alike_ver a1];exact hv)
  exact⟨o2,h2,Ob.alike_trans a2 a1,p1.trans p2⟩⟩
theorem RelV.mono {S S':D7} {pl pl':E2} {w w':World} {m m':Mem} (k:Keeps S S' pl pl' w w' m m') {x:AV} {u:Value} (h:RelV S pl w m x u):RelV S' pl' w' m' x u:=by
 induction h with
 | c x u h=>exact .c x u (h.mono k.sub k.cell)
 | t id ver n b capn hv hn h =>
  refine .t id ver n b capn (Nat.lt_of_lt_of_le hv k.clk) hn (fun ob hob he=>?_)
  obtain⟨o1,h1,a1,p1⟩:=k.ob id ob hob (he ▸ hv)
  obtain⟨sz,es,cap,pub,e,rfl,hn,hb,hs⟩:=h o1 h1 ((Ob.alike_ver a1).trans he)
  cases ob with
  | blk _ _=>simp [Ob.alike] at a1
  | arr v' sz' es' cap' pub' =>
   simp only [Ob.alike] at a1
   obtain⟨rfl,rfl,hl⟩:=a1
   exact⟨_,es',cap',pub',e,rfl,by omega,by rw [p1];exact hb,k.shape _ _ hs⟩
 | p id ver off b o hv h =>
  refine .p id ver off b o (Nat.lt_of_lt_of_le hv k.clk) (fun ob hob he=>?_)
  obtain⟨o1,h1,a1,p1⟩:=k.ob id ob hob (he ▸ hv)
  obtain⟨⟨cs,rfl⟩,hu⟩:=h o1 h1 ((Ob.alike_ver a1).trans he)
  cases ob with
  | blk v' cs'=>simp only [Ob.alike] at a1;subst a1;exact⟨⟨cs',rfl⟩,by rw [p1];exact hu⟩
  | arr _ _ _ _ _=>simp [Ob.alike] at a1
 | tp id ver i off b o hv h =>
  refine .tp id ver i off b o (Nat.lt_of_lt_of_le hv k.clk) (fun ob hob he=>?_)
  obtain⟨o1,h1,a1,p1⟩:=k.ob id ob hob (he ▸ hv)
  obtain⟨sz,es,cap,pub,rfl,hn,hu⟩:=h o1 h1 ((Ob.alike_ver a1).trans he)
  cases ob with
  | blk _ _=>simp [Ob.alike] at a1
  | arr v' sz' es' cap' pub' =>
   simp only [Ob.alike] at a1
   obtain⟨rfl,rfl,hl⟩:=a1
   exact⟨_,es',cap',pub',rfl,by omega,by rw [p1];exact hu⟩
 | bs id ver n b o capn hv hn h =>
  refine .bs id ver n b o capn (Nat.lt_of_lt_of_le hv k.clk) hn (fun ob hob he=>?_)
  obtain⟨o1,h1,a1,p1⟩:=k.ob id ob hob (he ▸ hv)
  obtain⟨⟨cs,rfl⟩,hu⟩:=h o1 h1 ((Ob.alike_ver a1).trans he)
  cases ob with
  | blk v' cs'=>simp only [Ob.alike] at a1;subst a1;exact⟨⟨cs',rfl⟩,by rw [p1];exact hu⟩
  | arr _ _ _ _ _=>simp [Ob.alike] at a1
 | agg cs us hl _ ih=>exact .agg cs us hl ih
 | tup cs us hl _ ih=>exact .tup cs us hl ih
 | dead u=>exact .dead u
def Ob.foot (pl:Nat × Nat):Ob→D7
 | .blk _ cs=>fun b o=>b=pl.1∧∃ (j:Nat) (x:AV),cs[j]?=some x∧x.isDead=false∧o=pl.2 + j
 | .arr _ sz es _ pub=>fun b o=>b=pl.1∧(pub=true→es.length * sz≤o)
def RowA (S:D7) (pl:E2) (w:World) (m:Mem) (b o:Nat) (cs:List AV):Prop :=
 ∀ (j:Nat) x,cs[j]?=some x→∃ u,D8 w b (o + j)=some u∧RelV S pl w m x u
def k5q (S:D7) (w:World) (b sz:Nat) (es:List (List CV)):Prop :=
 (∀ (i:Nat) e,es[i]?=some e→e.length=sz) ∧
 ∃ f:Nat→Value,(∀ k,k < es.length * sz→D8 w b k=some (f k)) ∧
  ∀ (i j:Nat) e x,es[i]?=some e→e[j]?=some x→RelC S w x (f (i * sz + j))
def z0j (w:World) (b:Nat):Prop:=∀ o,w.frozen? ⟨b,o,none⟩=true→∀ e s,w.shape? b=some (e,s)→s≤o
def k1k (w:World) (b:Nat) (pub:Bool) (sz:Nat):Prop:=z0j w b∧(pub=false→∀ e s,w.shape? b=some (e,s)→s≤9223372036854775807 * sz)
def ObOk (S:D7) (pl:E2) (w:World) (m:Mem) (q:Nat × Nat):Ob→Prop
 | .blk _ cs=>q.1 < w.heap.size∧z0j w q.1∧RowA S pl w m q.1 q.2 cs
 | .arr _ sz es cap pub=>q.2=0∧0 < sz∧k1k w q.1 pub sz∧(∃ e capn,w.shape? q.1=some (e,capn * sz)∧es.length≤capn∧∀ c,cap=some c→capn=c) ∧
   k5q S w q.1 sz es∧(pub=true→∀ o,o < es.length * sz→S q.1 o)
structure Inv (S:D7) (pl:E2) (w:World) (m:Mem):Prop where
 ob:∀ id ob,m.get id=some ob→ob.ver < m.clk∧ObOk S pl w m (pl id) ob
 apart:∀ id id' ob ob',m.get id=some ob→m.get id'=some ob'→id≠id'→∀ b o,ob.foot (pl id) b o→¬ ob'.foot (pl id') b o
 free:∀ id ob,m.get id=some ob→∀ b o,ob.foot (pl id) b o→¬ S b o
 low:∀ b o,S b o→b < w.heap.size
structure Ext (F:D7) (w w':World):Prop where
 os:w'.os=w.os
 tape:w'.tape=w.tape
 output:w'.output=w.output
 size:w.heap.size≤w'.heap.size
 cell:∀ b o,b < w.heap.size→¬ F b o→D8 w' b o=D8 w b o
 shape:∀ b,b < w.heap.size→w'.shape? b=w.shape? b
 frz:∀ b o,b < w.heap.size→w'.frozen? ⟨b,o,none⟩=w.frozen? ⟨b,o,none⟩
 obj:∀ b,b < w.heap.size→(∀ o,¬ F b o)→w'.heap[b]?=w.heap[b]?
theorem Ext.refl (F:D7) (w:World):Ext F w w:=⟨rfl,rfl,rfl,Nat.le_refl _,fun _ _ _ _=>rfl,fun _ _=>rfl,fun _ _ _=>rfl,fun _ _ _=>rfl⟩
theorem Ext.trans {F F':D7} {a b c:World} (h:Ext F a b) (k:Ext F' b c) (hF:∀ x o,F' x o→F x o∨a.heap.size≤x):Ext F a c :=
 have hn:∀ x o,x < a.heap.size→¬ F x o→¬ F' x o:=fun x o hx hf h'=>(hF x o h').elim hf (fun hle=>absurd hx (Nat.not_lt.2 hle))
 ⟨k.os.trans h.os,k.tape.trans h.tape,k.output.trans h.output,Nat.le_trans h.size k.size,
  fun x o hx hf=>(k.cell x o (Nat.lt_of_lt_of_le hx h.size) (hn x o hx hf)).trans (h.cell x o hx hf),
  fun x hx=>(k.shape x (Nat.lt_of_lt_of_le hx h.size)).trans (h.shape x hx),
  fun x o hx=>(k.frz x o (Nat.lt_of_lt_of_le hx h.size)).trans (h.frz x o hx),
  fun x hx hf=>(k.obj x (Nat.lt_of_lt_of_le hx h.size) (fun o=>hn x o hx (hf o))).trans (h.obj x hx hf)⟩
theorem P0 {w:World} {b:Nat} {s:TypeId × Nat} (h:w.shape? b=some s):b < w.heap.size:=by
 unfold World.shape? at h
 rcases Nat.lt_or_ge b w.heap.size with hb | hb
 ·exact hb
 ·simp [Array.getElem?_eq_none hb] at h
theorem w4t {w:World} {b o:Nat} {v:Value} (h:D8 w b o=some v):b < w.heap.size:=by
 unfold D8 World.cell? at h
 rcases Nat.lt_or_ge b w.heap.size with hb | hb
 ·exact hb
 ·simp [Array.getElem?_eq_none hb] at h
structure Ctx where
 S0:D7
 F0:D7
 w0:World
 G:L2
structure St (X:Ctx) (S:D7) (pl:E2) (w:World) (m:Mem):Prop where
 inv:Inv S pl w m
 ext:Ext X.F0 X.w0 w
 sub:∀ b o,X.S0 b o→S b o
 only:∀ b o,S b o→X.S0 b o∨X.F0 b o∨X.w0.heap.size≤b
 own:∀ id ob,m.get id=some ob→∀ b o,ob.foot (pl id) b o→X.F0 b o∨X.w0.heap.size≤b
 glob:∀ g cs,X.G g=some cs→RelC S w (.rp cs) (.pointer (some ⟨g,0,none⟩))
theorem w1t (l:List (Nat × Ob)) (i j:Nat) (o:Ob):K2 (z9p l i o) j=if j=i then some o else K2 l j:=by
 induction l with
 | nil=>by_cases h:j=i<;>simp [z9p,K2,h]
 | cons a r ih =>
  obtain⟨k,p⟩:=a
  simp only [z9p]
  by_cases h1:i=k
  ·subst h1;simp only [if_true,K2]
   by_cases h:j=i<;>simp [h]
  ·rw [if_neg h1]
   by_cases h2:i < k
   ·rw [if_pos h2];simp only [K2]
   ·rw [if_neg h2];simp only [K2,ih]
    by_cases h:j=k
    ·subst h;simp [Ne.symm h1]
    ·simp [h]
theorem w8e (l:List (Nat × Ob)) (i j:Nat):K2 (z4v l i) j=if j=i then none else K2 l j:=by
 induction l with
 | nil=>by_cases h:j=i<;>simp [z4v,K2]
 | cons a r ih =>
  obtain⟨k,p⟩:=a
  simp only [z4v]
  by_cases h1:i=k
  ·subst h1;simp only [if_true,ih,K2]
   by_cases h:j=i<;>simp [h]
  ·rw [if_neg h1];simp only [K2,ih]
   by_cases h:j=k
   ·subst h;simp [Ne.symm h1]
   ·simp [h]
theorem M8 (m:Mem) (i j:Nat) (o:Ob):(m.upd i o).get j=if j=i then some o else m.get j:=w1t _ _ _ _
theorem H7 (m:Mem) (i j:Nat) (f:Nat→Ob):(m.new i f).get j=if j=i then some (f m.clk) else m.get j:=w1t _ _ _ _
theorem z5b (m:Mem) (i j:Nat):(m.del i).get j=if j=i then none else m.get j:=w8e _ _ _
theorem L9 (m:Mem) (i:Nat) (f:Nat→Ob):(m.new i f).clk=m.clk + 1:=rfl
theorem w0h (m:Mem) (i:Nat):(m.del i).clk=m.clk:=rfl
end Go.Proofs.YtioiigabeoaneaaGreat.V
namespace Go.Proofs.YtioiigabeoaneaaGreat.V
open Go Go.RowKit
section worlds
variable {w:World}
theorem M1 (w:World) (cc:Array Value) (e:TypeId) (fr:Nat × Nat) (b o:Nat) :
  D8 (w.alloc (.cells cc e fr)) b o=if b=w.heap.size then cc[o]? else D8 w b o:=by
 unfold D8 World.cell? World.alloc
 simp only [Array.getElem?_push]
 by_cases h:b=w.heap.size
 ·subst h;simp
 ·simp [h]
theorem M9 (w:World) (cc:Array Value) (e:TypeId) (fr:Nat × Nat) (b:Nat) :
  (w.alloc (.cells cc e fr)).shape? b=if b=w.heap.size then some (e,cc.size) else w.shape? b:=by
 unfold World.shape? World.alloc
 simp only [Array.getElem?_push]
 by_cases h:b=w.heap.size
 ·subst h;simp
 ·simp [h]
theorem w6c (w:World) (cc:Array Value) (e:TypeId) (fr:Nat × Nat) (b o:Nat) :
  (w.alloc (.cells cc e fr)).frozen? ⟨b,o,none⟩=if b=w.heap.size then decide (fr.1≤o) && decide (o < fr.2) else w.frozen? ⟨b,o,none⟩:=by
 unfold World.frozen? World.alloc
 simp only [Array.getElem?_push]
 by_cases h:b=w.heap.size
 ·subst h;simp
 ·simp [h]
theorem Z0 (w:World) (o:Obj):(w.alloc o).heap.size=w.heap.size + 1:=by show (w.heap.push o).size=_;simp
theorem Ext.alloc (F:D7) (w:World) (o:Obj):Ext F w (w.alloc o):=by
 have hb:∀ b,b < w.heap.size→(w.alloc o).heap[b]?=w.heap[b]?:=fun b hb=>Below.heap_alloc w o b hb
 exact⟨rfl,rfl,rfl,by rw [Z0];omega,fun b o' h _=>World.cell?_of_block (hb b h),
  fun b h=>by unfold World.shape?;rw [hb b h],fun b o' h=>World.frozen?_of_block (hb b h),fun b h _=>hb b h⟩
theorem J3 (b:Nat):∀ (vs:List Value) (o:Nat) (w:World) (r:Nat),(w.setCells b o vs).shape? r=w.shape? r
 | [],_,_,_=>rfl
 | v :: vs,o,w,r=>by
  rw [World.setCells,J3 b vs]
  unfold World.shape? World.setCell
  simp only [Array.getElem?_modify]
  by_cases h:b=r
  ·subst h
   cases hh:w.heap[b]? with
   | none=>simp
   | some ob=>cases ob<;>simp
  ·simp [h]
theorem X1 (b:Nat):∀ (vs:List Value) (o:Nat) (w:World),(w.setCells b o vs).heap.size=w.heap.size
 | [],_,_=>rfl
 | v :: vs,o,w=>by rw [World.setCells,X1 b vs];simp [World.setCell]
theorem W4 (b:Nat):∀ (vs:List Value) (o:Nat) (w:World),(w.setCells b o vs).os=w.os∧(w.setCells b o vs).tape=w.tape∧(w.setCells b o vs).output=w.output
 | [],_,_=>⟨rfl,rfl,rfl⟩
 | v :: vs,o,w=>by rw [World.setCells];exact W4 b vs (o + 1) _
theorem z2c (b:Nat):∀ (vs:List Value) (o:Nat) (w:World) (r:Nat),r≠b→(w.setCells b o vs).heap[r]?=w.heap[r]?
 | [],_,_,_,_=>rfl
 | v :: vs,o,w,r,h=>by rw [World.setCells,z2c b vs _ _ r h];exact Below.heap_setCell _ _ _ _ h
theorem V8 (b o:Nat) (vs:List Value) (w:World) (h:∀ j,j < vs.length→(D8 w b (o + j)).isSome=true) (j:Nat) (hj:j < vs.length) :
  D8 (w.setCells b o vs) b (o + j)=some vs[j]:=World.cell?_setCells_in b vs o w h j hj
theorem J0 (b o:Nat) (vs:List Value) (w:World) (c k:Nat) (h:c=b→k < o∨o + vs.length≤k) :
  D8 (w.setCells b o vs) c k=D8 w c k:=World.cell?_setCells_out b vs o w ⟨c,k,none⟩ (fun e _=>h e)
theorem Ext.setCells (w:World) (b o:Nat) (vs:List Value):Ext (fun c k=>c=b∧o≤k∧k < o + vs.length) w (w.setCells b o vs):=by
 refine⟨(W4 b vs o w).1,(W4 b vs o w).2.1,(W4 b vs o w).2.2,Nat.le_of_eq (X1 b vs o w).symm,fun c k _ hF=>?_,fun r _=>J3 b vs o w r,
  fun c k _=>World.frozen?_setCells b vs o w _,fun c _ hF=>?_⟩
 ·exact J0 b o vs w c k (fun e=>by subst e;simp at hF;omega)
 ·by_cases h:c=b
  ·subst h
   cases vs with
   | nil=>rfl
   | cons v vs=>exact absurd ⟨rfl,Nat.le_refl o,by simp⟩ (hF o)
  ·exact z2c b vs o w c h
end worlds
theorem ObOk.keep {S S':D7} {pl pl':E2} {w w':World} {m m':Mem} {q:Nat × Nat} {ob:Ob} (k:Keeps S S' pl pl' w w' m m')
  (hsz:w.heap.size≤w'.heap.size) (hz:∀ b o,b < w.heap.size→w'.frozen? ⟨b,o,none⟩=w.frozen? ⟨b,o,none⟩)
  (hsh:∀ b,b < w.heap.size→w'.shape? b=w.shape? b)
  (hf:∀ b o,ob.foot q b o→b < w.heap.size→D8 w' b o=D8 w b o) (h:ObOk S pl w m q ob):ObOk S' pl' w' m' q ob:=by
 have thaw:∀ b,b < w.heap.size→z0j w b→z0j w' b:=fun b hb ht o hfz e s hs=>ht o (by rw [← hz b o hb];exact hfz) e s (by rw [← hsh b hb];exact hs)
 cases ob with
 | blk v cs =>
  obtain⟨h1,h2,h3⟩:=h
  refine⟨Nat.lt_of_lt_of_le h1 hsz,thaw _ h1 h2,fun j x hx=>?_⟩
  obtain⟨u,hc,hr⟩:=h3 j x hx
  cases hd:x.isDead with
  | false=>exact⟨u,(hf _ _ ⟨rfl,j,x,hx,hd,rfl⟩ h1).trans hc,hr.mono k⟩
  | true =>
   have hsome:(D8 w' q.1 (q.2 + j)).isSome=true:=by
    have h5:=hsh q.1 h1
    unfold World.shape? at h5
    unfold D8 World.cell? at hc ⊢
    cases hh:w.heap[q.1]? with
    | none=>rw [hh] at hc;simp at hc
    | some ob =>
     rw [hh] at hc h5
     cases ob with
     | cells cc e fr =>
      cases hh':w'.heap[q.1]? with
      | none=>rw [hh'] at h5;simp at h5
      | some ob' =>
       rw [hh'] at h5
       cases ob' with
       | cells cc' e' fr' =>
        simp only [Option.some.injEq,Prod.mk.injEq] at h5
        simp only [Option.isSome_none,Bool.false_eq_true,if_false] at hc ⊢
        have hlt:q.2 + j < cc.size:=(Array.getElem?_eq_some_iff.1 hc).1
        simp [Array.getElem?_eq_getElem (show q.2 + j < cc'.size by omega)]
       | _=>simp at h5
     | _=>simp at hc
   obtain⟨u',hu'⟩:=Option.isSome_iff_exists.1 hsome
   refine⟨u',hu',?_⟩
   cases x<;>simp [AV.isDead] at hd
   exact .dead _
 | arr v sz es cap pub =>
  obtain⟨h0,h1,h2,⟨e,capn,hs,hle,hcap⟩,⟨hl,f,hc,hr⟩,hp⟩:=h
  have hb:=P0 hs
  refine⟨h0,h1,⟨thaw _ hb h2.1,by rw [hsh _ hb];exact h2.2⟩,⟨e,capn,by rw [hsh _ hb];exact hs,hle,hcap⟩,⟨hl,f,fun i hi=>?_,fun i j e x he hx=>(hr i j e x he hx).mono k.sub k.cell⟩,fun hpub o ho=>k.sub _ _ (hp hpub o ho)⟩
  cases pub with
  | true=>exact (k.cell _ _ (hp rfl _ hi)).trans (hc i hi)
  | false=>exact (hf _ _ ⟨rfl,by simp⟩ hb).trans (hc i hi)
theorem St.step1 {X:Ctx} {S S':D7} {pl pl':E2} {w w':World} {m m':Mem} (i:Nat) (F:D7) (h:St X S pl w m) (k:Keeps S S' pl pl' w w' m m')
  (hext:Ext F w w') (hF:∀ b o,F b o→X.F0 b o∨X.w0.heap.size≤b)
  (hS:∀ b o,S' b o→b < w'.heap.size∧(S b o∨X.F0 b o∨X.w0.heap.size≤b))
  (hold:∀ id ob,id≠i→m'.get id=some ob→m.get id=some ob∧pl' id=pl id)
  (hkeep:∀ id ob,id≠i→m'.get id=some ob→∀ b o,ob.foot (pl id) b o→¬ F b o∧¬ S' b o)
  (hnew:∀ ob,m'.get i=some ob→ob.ver < m'.clk∧ObOk S' pl' w' m' (pl' i) ob∧∀ b o,ob.foot (pl' i) b o→(X.F0 b o∨X.w0.heap.size≤b)∧¬ S' b o ∧
   ∀ id ob',id≠i→m'.get id=some ob'→¬ ob'.foot (pl id) b o):St X S' pl' w' m':=by
 refine⟨⟨fun id ob hob=>?_,fun id id' ob ob' h1 h2 hne b o hf hf'=>?_,fun id ob hob b o hf=>?_,fun b o hs=>(hS b o hs).1⟩,?_,fun b o hs=>k.sub _ _ (h.sub b o hs),fun b o hs=>?_,fun id ob hob b o hf=>?_,fun g cs hg=>?_⟩
 ·by_cases hi:id=i
  ·subst hi;exact⟨(hnew ob hob).1,(hnew ob hob).2.1⟩
  ·obtain⟨h1,h2⟩:=hold id ob hi hob
   obtain⟨hv,hok⟩:=h.inv.ob id ob h1
   exact⟨Nat.lt_of_lt_of_le hv k.clk,by rw [h2];exact hok.keep k hext.size hext.frz hext.shape (fun b o hf hb=>hext.cell b o hb (hkeep id ob hi hob b o hf).1)⟩
 ·by_cases hi:id=i
  ·subst hi
   obtain⟨g1,g2⟩:=hold id' ob' (Ne.symm hne) h2
   rw [g2] at hf'
   exact ((hnew ob h1).2.2 b o hf).2.2 id' ob' (Ne.symm hne) h2 hf'
  ·by_cases hi':id'=i
   ·subst hi'
    obtain⟨g1,g2⟩:=hold id ob hne h1
    rw [g2] at hf
    exact ((hnew ob' h2).2.2 b o hf').2.2 id ob hne h1 hf
   ·obtain⟨g1,g2⟩:=hold id ob hi h1
    obtain⟨g3,g4⟩:=hold id' ob' hi' h2
    rw [g2] at hf;rw [g4] at hf'
    exact h.inv.apart id id' ob ob' g1 g3 hne b o hf hf'
 ·by_cases hi:id=i
  ·subst hi;exact ((hnew ob hob).2.2 b o hf).2.1
  ·obtain⟨g1,g2⟩:=hold id ob hi hob
   rw [g2] at hf
   exact (hkeep id ob hi hob b o hf).2
 ·exact h.ext.trans hext hF
 ·rcases (hS b o hs).2 with h1 | h1 | h1
  ·exact h.only b o h1
  ·exact .inr (.inl h1)
  ·exact .inr (.inr h1)
 ·by_cases hi:id=i
  ·subst hi;exact ((hnew ob hob).2.2 b o hf).1
  ·obtain⟨g1,g2⟩:=hold id ob hi hob
   rw [g2] at hf
   exact h.own id ob g1 b o hf
 ·exact (h.glob g cs hg).mono k.sub k.cell
def M2 (pl:E2) (i:Nat) (q:Nat × Nat):E2:=fun j=>if j=i then q else pl j
theorem Inv.foot_lt {S:D7} {pl:E2} {w:World} {m:Mem} (h:Inv S pl w m) {id:Nat} {ob:Ob} (hob:m.get id=some ob) {b o:Nat} (hf:ob.foot (pl id) b o):b < w.heap.size:=by
 have:=(h.ob id ob hob).2
 cases ob with
 | blk v cs=>obtain⟨h1,_⟩:=this;obtain⟨rfl,_⟩:=hf;exact h1
 | arr v sz es cap pub=>obtain⟨_,_,_,⟨e,n,hs,_⟩,_⟩:=this;obtain⟨rfl,_⟩:=hf;exact P0 hs
theorem St.alloc {X:Ctx} {S:D7} {pl:E2} {w:World} {m:Mem} (h:St X S pl w m) (site:Nat) (f:Nat→Ob) (cc:Array Value) (e:TypeId) (fr:Nat × Nat) (R:Nat→Prop)
  (hv:(f m.clk).ver=m.clk) (hfoot:∀ b o,(f m.clk).foot (w.heap.size,0) b o→b=w.heap.size∧¬ R o)
  (hok:ObOk (fun b o=>S b o∨b=w.heap.size∧R o) (M2 pl site (w.heap.size,0)) (w.alloc (.cells cc e fr)) (m.new site f) (w.heap.size,0) (f m.clk)) :
  St X (fun b o=>S b o∨b=w.heap.size∧R o) (M2 pl site (w.heap.size,0)) (w.alloc (.cells cc e fr)) (m.new site f) ∧
  Keeps S (fun b o=>S b o∨b=w.heap.size∧R o) pl (M2 pl site (w.heap.size,0)) w (w.alloc (.cells cc e fr)) m (m.new site f):=by
 have hsize:=Z0 w (.cells cc e fr)
 have hx:X.w0.heap.size≤w.heap.size:=h.ext.size
 have hne:∀ id ob,id≠site→(m.new site f).get id=some ob→m.get id=some ob:=fun id ob hi hg=>by rw [H7,if_neg hi] at hg;exact hg
 have k:Keeps S (fun b o=>S b o∨b=w.heap.size∧R o) pl (M2 pl site (w.heap.size,0)) w (w.alloc (.cells cc e fr)) m (m.new site f) :=
  ⟨fun b o hs=>.inl hs,fun b o hs=>by rw [M1,if_neg (Nat.ne_of_lt (h.inv.low b o hs))],
   fun b s hs=>by rw [M9,if_neg (Nat.ne_of_lt (P0 hs))];exact hs,by simp [L9],
   fun id ob hob hlt=>by
   by_cases hi:id=site
   ·subst hi;rw [H7,if_pos rfl] at hob;injection hob with hob;subst hob;omega
   ·exact⟨ob,hne id ob hi hob,by cases ob<;>simp [Ob.alike],by simp [M2,hi]⟩⟩
 refine⟨h.step1 site (fun _ _=>False) k (Ext.alloc _ _ _) (fun _ _ hf=>hf.elim) (fun b o hs=>?_) (fun id ob hi hob=>⟨hne id ob hi hob,by simp [M2,hi]⟩) (fun id ob hi hob b o hf=>⟨fun hf=>hf,?_⟩) (fun ob hob=>?_),k⟩
 ·rcases hs with hs | ⟨rfl,_⟩
  ·exact⟨by have:=h.inv.low b o hs;omega,.inl hs⟩
  ·exact⟨by omega,.inr (.inr hx)⟩
 ·have hg:=hne id ob hi hob
  rintro (hs | ⟨rfl,_⟩)
  ·exact h.inv.free id ob hg b o hf hs
  ·exact absurd (h.inv.foot_lt hg hf) (Nat.lt_irrefl _)
 ·rw [H7,if_pos rfl] at hob;injection hob with hob;subst hob
  refine⟨by rw [hv,L9];omega,by simpa [M2] using hok,fun b o hf=>?_⟩
  have hf':(f m.clk).foot (w.heap.size,0) b o:=by simpa [M2] using hf
  obtain⟨rfl,hR⟩:=hfoot b o hf'
  refine⟨.inr hx,?_,fun id ob' hi hob' hf2=>absurd (h.inv.foot_lt (hne id ob' hi hob') hf2) (Nat.lt_irrefl _)⟩
  rintro (hs | ⟨_,hr⟩)
  ·exact absurd (h.inv.low _ _ hs) (Nat.lt_irrefl _)
  ·exact hR hr
theorem St.del {X:Ctx} {S:D7} {pl:E2} {w:World} {m:Mem} (h:St X S pl w m) (i:Nat):St X S pl w (m.del i)∧Keeps S S pl pl w w m (m.del i):=by
 have hne:∀ id ob,(m.del i).get id=some ob→m.get id=some ob:=fun id ob hg=>by
  rw [z5b] at hg;split at hg
  ·simp at hg
  ·exact hg
 have k:Keeps S S pl pl w w m (m.del i):=⟨fun _ _ h=>h,fun _ _ _=>rfl,fun _ _ h=>h,Nat.le_refl _,fun id ob hob _=>⟨ob,hne id ob hob,by cases ob<;>simp [Ob.alike],rfl⟩⟩
 refine⟨h.step1 i (fun _ _=>False) k (Ext.refl _ _) (fun _ _ hf=>hf.elim) (fun b o hs=>⟨h.inv.low b o hs,.inl hs⟩) (fun id ob _ hob=>⟨hne id ob hob,rfl⟩)
  (fun id ob _ hob b o hf=>⟨fun hf=>hf,h.inv.free id ob (hne id ob hob) b o hf⟩) (fun ob hob=>?_),k⟩
 rw [z5b,if_pos rfl] at hob;simp at hob
theorem St.draw {X:Ctx} {S:D7} {pl:E2} {w:World} {m:Mem} (h:St X S pl w m) (n:Nat):St X S pl { w with drawn:=n } m∧Keeps S S pl pl w { w with drawn:=n } m m:=by
 have k:Keeps S S pl pl w { w with drawn:=n } m m:=⟨fun _ _ h=>h,fun _ _ _=>rfl,fun _ _ h=>h,Nat.le_refl _,fun id ob hob _=>⟨ob,hob,by cases ob<;>simp [Ob.alike],rfl⟩⟩
 have e:Ext (fun _ _=>False) w { w with drawn:=n }:=⟨rfl,rfl,rfl,Nat.le_refl _,fun _ _ _ _=>rfl,fun _ _=>rfl,fun _ _ _=>rfl,fun _ _ _=>rfl⟩
 refine⟨⟨⟨fun id ob hob=>⟨(h.inv.ob id ob hob).1,(h.inv.ob id ob hob).2.keep k (Nat.le_refl _) e.frz e.shape (fun _ _ _ _=>rfl)⟩,h.inv.apart,h.inv.free,h.inv.low⟩,
  h.ext.trans e (fun _ _ h=>h.elim),h.sub,h.only,h.own,fun g cs hg=>(h.glob g cs hg).mono k.sub k.cell⟩,k⟩
end Go.Proofs.YtioiigabeoaneaaGreat.V
namespace Go.Proofs.YtioiigabeoaneaaGreat.V
open Go Go.RowKit
theorem M5 {α:Type} (l:List α) (o:Nat) (xs:List α) (h:o + xs.length≤l.length) (j:Nat) :
  (F9 l o xs)[j]?=if j < o then l[j]? else if j < o + xs.length then xs[j - o]? else l[j]?:=by
 unfold F9
 have ht:(l.take o).length=o:=by rw [List.length_take];omega
 by_cases h1:j < o
 ·rw [if_pos h1,List.append_assoc,List.getElem?_append_left (by omega),List.getElem?_take_of_lt h1]
 ·rw [if_neg h1]
  by_cases h2:j < o + xs.length
  ·rw [if_pos h2,List.append_assoc,List.getElem?_append_right (by omega),List.getElem?_append_left (by omega),ht]
  ·rw [if_neg h2,List.getElem?_append_right (by rw [List.length_append];omega),List.length_append,ht,List.getElem?_drop]
   congr 1;omega
theorem R2 {α:Type} (l:List α) (o:Nat) (xs:List α) (h:o + xs.length≤l.length):(F9 l o xs).length=l.length:=by
 unfold F9;simp [List.length_take,List.length_drop];omega
theorem z8e {S S':D7} {pl:E2} {w w':World} {m:Mem} {i:Nat} {ob ob':Ob} (hob:m.get i=some ob) (ha:ob.alike ob') (hsub:∀ b o,S b o→S' b o)
  (hc:∀ b o,S b o→D8 w' b o=D8 w b o) (hs:∀ b,w'.shape? b=w.shape? b):Keeps S S' pl pl w w' m (m.upd i ob') :=
 ⟨hsub,hc,fun b s h=>by rw [hs];exact h,Nat.le_refl _,fun id o' h _=>by
  rw [M8] at h
  by_cases hi:id=i
  ·subst hi;rw [if_pos rfl] at h;injection h with h;subst h;exact⟨ob,hob,ha,rfl⟩
  ·rw [if_neg hi] at h;exact⟨o',h,by cases o'<;>simp [Ob.alike],rfl⟩⟩
theorem St.setBlkF {X:Ctx} {S:D7} {pl:E2} {w w':World} {m:Mem} (h:St X S pl w m) (F:D7) {i v:Nat} {cs cs':List AV} (hob:m.get i=some (.blk v cs)) (hext:Ext F w w')
  (hF:∀ b o,F b o→(X.F0 b o∨X.w0.heap.size≤b)∧¬ S b o∧∀ id ob,id≠i→m.get id=some ob→¬ ob.foot (pl id) b o)
  (hnew:∀ b o,(Ob.blk v cs').foot (pl i) b o→(Ob.blk v cs).foot (pl i) b o∨F b o)
  (hrow:∀ {pl'':E2} {m'':Mem},pl''=pl→m''=m.upd i (.blk v cs')→Keeps S S pl pl'' w w' m m''→RowA S pl'' w' m'' (pl i).1 (pl i).2 cs') :
  St X S pl w' (m.upd i (.blk v cs'))∧Keeps S S pl pl w w' m (m.upd i (.blk v cs')):=by
 obtain⟨hv,hb,ht,hf⟩:=h.inv.ob i _ hob
 have k:Keeps S S pl pl w w' m (m.upd i (.blk v cs')) :=
  ⟨fun _ _ h=>h,fun b o hs=>hext.cell b o (h.inv.low b o hs) (fun hf=>(hF b o hf).2.1 hs),fun b s hs=>by rw [hext.shape b (P0 hs)];exact hs,Nat.le_refl _,fun id o' hg _=>by
   rw [M8] at hg
   by_cases hi:id=i
   ·subst hi;rw [if_pos rfl] at hg;injection hg with hg;subst hg;exact⟨_,hob,rfl,rfl⟩
   ·rw [if_neg hi] at hg;exact⟨o',hg,by cases o'<;>simp [Ob.alike],rfl⟩⟩
 have hne:∀ id ob,id≠i→(m.upd i (.blk v cs')).get id=some ob→m.get id=some ob:=fun id ob hi hg=>by rw [M8,if_neg hi] at hg;exact hg
 refine⟨h.step1 i F k hext (fun b o hf=>(hF b o hf).1) (fun b c hs=>⟨Nat.lt_of_lt_of_le (h.inv.low b c hs) hext.size,.inl hs⟩)
  (fun id ob hi hg=>⟨hne id ob hi hg,rfl⟩) (fun id ob hi hg b c hf=>⟨fun hF'=>(hF b c hF').2.2 id ob hi (hne id ob hi hg) hf,h.inv.free id ob (hne id ob hi hg) b c hf⟩) (fun ob hg=>?_),k⟩
 rw [M8,if_pos rfl] at hg;injection hg with hg;subst hg
 refine⟨hv,⟨Nat.lt_of_lt_of_le hb hext.size,fun c hz e s hs=>ht c (by rw [hext.frz _ _ hb] at hz;exact hz) e s (by rw [hext.shape _ hb] at hs;exact hs),hrow rfl rfl k⟩,fun b c hf=>?_⟩
 rcases hnew b c hf with h1 | h1
 ·exact⟨h.own i _ hob b c h1,h.inv.free i _ hob b c h1,fun id ob' hi hg=>fun hf2=>h.inv.apart id i ob' _ (hne id ob' hi hg) hob hi b c hf2 h1⟩
 ·exact⟨(hF b c h1).1,(hF b c h1).2.1,fun id ob' hi hg hf2=>(hF b c h1).2.2 id ob' hi (hne id ob' hi hg) hf2⟩
theorem z6k {v:Nat} {cs xs:List AV} {o:Nat} (hle:o + xs.length≤cs.length) {q:Nat × Nat} {b c:Nat} (hf:(Ob.blk v (F9 cs o xs)).foot q b c) :
  (Ob.blk v cs).foot q b c∨(b=q.1∧q.2 + o≤c∧c < q.2 + o + xs.length):=by
 obtain⟨rfl,j,x,hx,hd,rfl⟩:=hf
 rw [M5 cs o xs hle] at hx
 split at hx
 ·exact .inl ⟨rfl,j,x,hx,hd,rfl⟩
 ·split at hx
  ·exact .inr ⟨rfl,by omega,by omega⟩
  ·exact .inl ⟨rfl,j,x,hx,hd,rfl⟩
theorem St.setBlk {X:Ctx} {S:D7} {pl:E2} {w:World} {m:Mem} (h:St X S pl w m) {i v:Nat} {cs:List AV} (hob:m.get i=some (.blk v cs))
  (o:Nat) (xs:List AV) (us:List Value) (hl:us.length=xs.length) (hle:o + xs.length≤cs.length) (hd:∀ x ∈ (cs.drop o).take xs.length,x.isDead=false) (hr:∀ (j:Nat) x u,xs[j]?=some x→us[j]?=some u→RelV S pl w m x u) :
  St X S pl (w.setCells (pl i).1 ((pl i).2 + o) us) (m.upd i (.blk v (F9 cs o xs))) ∧
  Keeps S S pl pl w (w.setCells (pl i).1 ((pl i).2 + o) us) m (m.upd i (.blk v (F9 cs o xs))):=by
 obtain⟨hv,hb,ht,hf⟩:=h.inv.ob i _ hob
 have hfoot:∀ b k,(b=(pl i).1∧(pl i).2 + o≤k∧k < (pl i).2 + o + us.length)→(Ob.blk v cs).foot (pl i) b k:=fun b k ⟨h1,h2,h3⟩=>by
  have hj:k - (pl i).2 < cs.length:=by omega
  have hx:cs[k - (pl i).2]?=some cs[k - (pl i).2]:=List.getElem?_eq_getElem hj
  refine⟨h1,k - (pl i).2,_,hx,hd _ ?_,by omega⟩
  apply List.mem_of_getElem? (i:=k - (pl i).2 - o)
  rw [List.getElem?_take_of_lt (by omega),List.getElem?_drop,← hx];congr 1;omega
 refine h.setBlkF _ hob (Ext.setCells w (pl i).1 ((pl i).2 + o) us) (fun b c hF=>?_) (fun b c hf'=>?_) (fun {pl'' m''} hpl hm k j x hx=>?_)
 ·have:=hfoot b c hF
  exact⟨h.own i _ hob b c this,h.inv.free i _ hob b c this,fun id ob hi hg hf2=>h.inv.apart id i ob _ hg hob hi b c hf2 this⟩
 ·rcases z6k hle hf' with h1 | h1
  ·exact .inl h1
  ·exact .inr ⟨h1.1,h1.2.1,by omega⟩
 ·rw [M5 cs o xs hle] at hx
  by_cases h1:j < o
  ·rw [if_pos h1] at hx
   obtain⟨u,hc,hrel⟩:=hf j x hx
   exact⟨u,(J0 _ _ _ _ _ _ (fun _=>.inl (by omega))).trans hc,hrel.mono k⟩
  ·rw [if_neg h1] at hx
   by_cases h2:j < o + xs.length
   ·rw [if_pos h2] at hx
    have hjl:j - o < us.length:=by omega
    have hu:us[j - o]?=some us[j - o]:=List.getElem?_eq_getElem hjl
    have hin:=V8 (pl i).1 ((pl i).2 + o) us w (fun t ht'=>by
     have hx':cs[o + t]?=some cs[o + t]:=List.getElem?_eq_getElem (by omega)
     obtain⟨u',hu',_⟩:=hf (o + t) _ hx'
     rw [Nat.add_assoc,hu'];rfl) (j - o) hjl
    rw [show (pl i).2 + o + (j - o)=(pl i).2 + j by omega] at hin
    exact⟨_,hin,(hr (j - o) x _ hx hu).mono k⟩
   ·rw [if_neg h2] at hx
    obtain⟨u,hc,hrel⟩:=hf j x hx
    exact⟨u,(J0 _ _ _ _ _ _ (fun _=>.inr (by omega))).trans hc,hrel.mono k⟩
theorem St.pub {X:Ctx} {S:D7} {pl:E2} {w:World} {m:Mem} (h:St X S pl w m) {i v sz:Nat} {es:List (List CV)} {cap:Option Nat} {pub:Bool} (hob:m.get i=some (.arr v sz es cap pub)) :
  St X (fun b o=>S b o∨b=(pl i).1∧o < es.length * sz) pl w (m.upd i (.arr v sz es cap true)) ∧
  Keeps S (fun b o=>S b o∨b=(pl i).1∧o < es.length * sz) pl pl w w m (m.upd i (.arr v sz es cap true)):=by
 obtain⟨hv,h0,h1,h2,⟨e,capn,hs,hle,hcap⟩,hrow,hp⟩:=h.inv.ob i _ hob
 have k:=z8e (pl:=pl) (S:=S) (S':=fun b o=>S b o∨b=(pl i).1∧o < es.length * sz) (w:=w) (w':=w) (ob':=.arr v sz es cap true) hob ⟨rfl,rfl,Nat.le_refl _⟩ (fun _ _ h=>.inl h) (fun _ _ _=>rfl) (fun b=>rfl)
 have hne:∀ id ob,id≠i→(m.upd i (.arr v sz es cap true)).get id=some ob→m.get id=some ob:=fun id ob hi hg=>by rw [M8,if_neg hi] at hg;exact hg
 have hin:∀ b o,(b=(pl i).1∧o < es.length * sz)→S b o∨(Ob.arr v sz es cap pub).foot (pl i) b o:=by
  rintro b o ⟨rfl,ho⟩
  cases pub with
  | true=>exact .inl (hp rfl o ho)
  | false=>exact .inr ⟨rfl,by simp⟩
 refine⟨h.step1 i (fun _ _=>False) k (Ext.refl _ _) (fun _ _ hf=>hf.elim) (fun b o hs'=>?_) (fun id ob hi hg=>⟨hne id ob hi hg,rfl⟩) (fun id ob hi hg b o hf=>⟨fun hf=>hf,?_⟩) (fun ob hg=>?_),k⟩
 ·rcases hs' with hs' | hs'
  ·exact⟨h.inv.low b o hs',.inl hs'⟩
  ·refine⟨by rw [hs'.1];exact P0 hs,?_⟩
   rcases hin b o hs' with h3 | h3
   ·exact .inl h3
   ·exact .inr (h.own i _ hob b o h3)
 ·rintro (hs' | hs')
  ·exact h.inv.free id ob (hne id ob hi hg) b o hf hs'
  ·rcases hin b o hs' with h3 | h3
   ·exact h.inv.free id ob (hne id ob hi hg) b o hf h3
   ·exact h.inv.apart id i ob _ (hne id ob hi hg) hob hi b o hf h3
 ·rw [M8,if_pos rfl] at hg;injection hg with hg;subst hg
  have hsub:∀ b o,(Ob.arr v sz es cap true).foot (pl i) b o→(Ob.arr v sz es cap pub).foot (pl i) b o:=fun b o ⟨h3,h4⟩=>⟨h3,fun _=>h4 rfl⟩
  refine⟨hv,⟨h0,h1,⟨h2.1,(by intro q;cases q)⟩,⟨e,capn,hs,hle,hcap⟩,⟨hrow.1,?_⟩,fun _ o ho=>.inr ⟨rfl,ho⟩⟩,fun b o hf=>⟨h.own i _ hob b o (hsub b o hf),?_,fun id ob' hi hg hf2=>h.inv.apart id i ob' _ (hne id ob' hi hg) hob hi b o hf2 (hsub b o hf)⟩⟩
  ·obtain⟨f,hc,hr⟩:=hrow.2
   exact⟨f,hc,fun i' j e x he hx=>(hr i' j e x he hx).mono k.sub k.cell⟩
  ·rintro (hs' | ⟨_,hs'⟩)
   ·exact h.inv.free i _ hob b o (hsub b o hf) hs'
   ·exact absurd (hf.2 rfl) (Nat.not_le.2 hs')
theorem RelC.of_arr {S:D7} {pl:E2} {w:World} {m:Mem} {i v sz n capn:Nat} {e:TypeId} {es:List (List CV)} {cap:Option Nat} (hok:ObOk S pl w m (pl i) (.arr v sz es cap true))
  (hn:n≤es.length) (hs:w.shape? (pl i).1=some (e,capn * sz)) :
  RelC S w (.sl sz (es.take n) (if cap=some es.length∧n < es.length then some (es.drop n) else none)) (.slice (some ⟨(pl i).1,0,none⟩) n capn):=by
 obtain⟨h0,h1,h2,⟨e',capn',hs',hle,hcap⟩,⟨hl,f,hc,hr⟩,hp⟩:=hok
 have hcc:capn'=capn:=by
  rw [hs] at hs';injection hs' with hs';injection hs' with _ hs'
  exact (Nat.eq_of_mul_eq_mul_right h1 hs').symm
 subst hcc
 have hlen:(es.take n).length=n:=by rw [List.length_take];omega
 have hall:∀ sp,(if cap=some es.length∧n < es.length then some (es.drop n) else none)=sp→(es.take n++sp.getD []=es∨es.take n++sp.getD []=es.take n):=by
  rintro sp rfl
  by_cases h:cap=some es.length∧n < es.length
  ·left;rw [if_pos h];simp
  ·right;rw [if_neg h];simp
 generalize hsp:(if cap=some es.length∧n < es.length then some (es.drop n) else none)=sp
 have hA:=hall sp hsp
 have hlt:(es.take n++sp.getD []).length≤es.length:=by
  rcases hA with h | h
  ·rw [h];exact Nat.le_refl _
  ·rw [h,hlen];exact hn
 have hget:∀ (j:Nat) x,(es.take n++sp.getD [])[j]?=some x→es[j]?=some x:=by
  intro j x hx
  rcases hA with h | h
  ·rwa [h] at hx
  ·rw [h] at hx
   have hj:j < n:=by have:=(List.getElem?_eq_some_iff.1 hx).1;omega
   rwa [List.getElem?_take_of_lt hj] at hx
 have hmul:∀ k,k < (es.take n++sp.getD []).length * sz→k < es.length * sz:=fun k hk=>Nat.lt_of_lt_of_le hk (Nat.mul_le_mul_right sz hlt)
 have:=RelC.sl (S:=S) (w:=w) sz (es.take n) sp (some ⟨(pl i).1,0,none⟩) capn' (pl i).1 0 f (by omega) (by
   intro s hs2
   by_cases h:cap=some es.length∧n < es.length
   ·rw [if_pos h] at hsp;subst hsp;injection hs2 with hs2;subst hs2
    have:=hcap _ h.1
    rw [hlen,List.length_drop];omega
   ·rw [if_neg h] at hsp;subst hsp;simp at hs2) (fun _=>⟨rfl,h1⟩) (fun j x hx=>hl j x (hget j x hx))
  (fun k hk=>by rw [Nat.zero_add];exact hp rfl k (hmul k hk)) (fun k hk=>by rw [Nat.zero_add];exact hc k (hmul k hk)) (fun j t x y hx hy=>hr j t x y (hget j x hx) hy)
 rwa [hlen] at this
def U0 (pl:E2) (m:Mem):D7:=fun b o=>∃ id ob,m.get id=some ob∧ob.foot (pl id) b o
structure Shrinks (S S':D7) (pl:E2) (m m':Mem):Prop where
 grow:∀ b o,S' b o→S b o∨U0 pl m b o
 feet:∀ b o,U0 pl m' b o→U0 pl m b o
theorem Shrinks.refl (S:D7) (pl:E2) (m:Mem):Shrinks S S pl m m:=⟨fun _ _ h=>.inl h,fun _ _ h=>h⟩
theorem Shrinks.trans {S S' S'':D7} {pl:E2} {m m' m'':Mem} (h:Shrinks S S' pl m m') (k:Shrinks S' S'' pl m' m''):Shrinks S S'' pl m m'' :=
 ⟨fun b o hs=>(k.grow b o hs).elim (fun q=>h.grow b o q) (fun q=>.inr (h.feet b o q)),fun b o hf=>h.feet b o (k.feet b o hf)⟩
theorem St.pub_shrinks {X:Ctx} {S:D7} {pl:E2} {w:World} {m:Mem} (h:St X S pl w m) {i v sz:Nat} {es:List (List CV)} {cap:Option Nat} {pub:Bool} (hob:m.get i=some (.arr v sz es cap pub)) :
  Shrinks S (fun b o=>S b o∨b=(pl i).1∧o < es.length * sz) pl m (m.upd i (.arr v sz es cap true)):=by
 obtain⟨hv,h0,h1,h2,h3,hrow,hp⟩:=h.inv.ob i _ hob
 refine⟨fun b o hs=>?_,fun b o ⟨id,ob,hg,hf⟩=>?_⟩
 ·rcases hs with hs | ⟨rfl,ho⟩
  ·exact .inl hs
  ·cases pub with
   | true=>exact .inl (hp rfl o ho)
   | false=>exact .inr ⟨i,_,hob,rfl,by simp⟩
 ·rw [M8] at hg
  by_cases hi:id=i
  ·subst hi;rw [if_pos rfl] at hg;injection hg with hg;subst hg
   exact⟨id,_,hob,hf.1,fun _=>hf.2 rfl⟩
  ·rw [if_neg hi] at hg;exact⟨id,ob,hg,hf⟩
theorem S9 {X:Ctx} {S:D7} {pl:E2} {w:World} {m:Mem} (h:St X S pl w m) {x:AV} {u:Value} (hr:RelV S pl w m x u) {K:CV→Mem→Prop} (hk:P7 m x K) :
  ∃ S' y m',K y m'∧RelC S' w y u∧St X S' pl w m'∧Keeps S S' pl pl w w m m'∧Shrinks S S' pl m m':=by
 cases x with
 | c x=>cases hr with | c _ _ hr=>exact⟨S,_,m,hk,hr.norm,h,Keeps.refl _ _ _ _,Shrinks.refl _ _ _⟩
 | t id ver n =>
  simp only [P7] at hk
  cases hob:m.get id with
  | none=>rw [hob] at hk;exact hk.elim
  | some ob =>
   rw [hob] at hk
   cases ob with
   | blk _ _=>exact hk.elim
   | arr v sz es cap pub =>
    obtain⟨rfl,hn,hK⟩:=hk
    cases hr with | t _ _ _ b capn hv hnc hr =>
    obtain⟨sz',es',cap',pub',e,heq,hn',rfl,hs⟩:=hr _ hob rfl
    injection heq with _ h1 h2 h3 h4;subst h1 h2 h3 h4
    obtain⟨hst,hkp⟩:=h.pub hob
    have hok:=(hst.inv.ob id _ (by rw [M8,if_pos rfl])).2
    exact⟨_,_,_,hK,(RelC.of_arr hok hn hs).norm,hst,hkp,h.pub_shrinks hob⟩
 | _=>exact hk.elim
theorem X3 {X:Ctx} {w:World}:∀ (xs:List AV) (us:List Value) {S:D7} {pl:E2} {m:Mem} (_:St X S pl w m) (_:us.length=xs.length) (_:∀ (j:Nat) x u,xs[j]?=some x→us[j]?=some u→RelV S pl w m x u)
  {K:List CV→Mem→Prop} (_:T9 m xs K),∃ S' ys m',K ys m'∧ys.length=xs.length∧(∀ (j:Nat) y u,ys[j]?=some y→us[j]?=some u→RelC S' w y u)∧St X S' pl w m'∧Keeps S S' pl pl w w m m'∧Shrinks S S' pl m m'
 | [],_,S,_,m,h,_,_,K,hk=>⟨S,[],m,hk,rfl,fun j y u hy=>by simp at hy,h,Keeps.refl _ _ _ _,Shrinks.refl _ _ _⟩
 | x :: xs,[],_,_,_,_,hl,_,_,_=>by simp at hl
 | x :: xs,u :: us,S,pl,m,h,hl,hr,K,hk=>by
  obtain⟨S1,y,m1,hk1,hy,h1,k1,s1⟩:=S9 h (hr 0 x u rfl rfl) hk
  obtain⟨S2,ys,m2,hk2,hlen,hys,h2,k2,s2⟩:=X3 xs us h1 (by simpa using hl) (fun j x u hx hu=>(hr (j + 1) x u hx hu).mono k1) hk1
  refine⟨S2,y :: ys,m2,hk2,by simp [hlen],fun j y' u' hy' hu'=>?_,h2,k1.trans k2,s1.trans s2⟩
  cases j with
  | zero=>simp at hy' hu';subst hy' hu';exact hy.mono k2.sub k2.cell
  | succ j=>exact hys j y' u' (by simpa using hy') (by simpa using hu')
theorem w0f {X:Ctx} {S:D7} {pl:E2} {w:World} {m:Mem} (h:St X S pl w m) {x:AV} {u:Value} (hr:RelV S pl w m x u) {K:CV→Mem→Prop} (hk:P7 m x K) :
  ∃ S' y m',K y m'∧RelC S' w y u∧St X S' pl w m'∧Keeps S S' pl pl w w m m':=by
 obtain⟨S',y,m',h1,h2,h3,h4,_⟩:=S9 h hr hk
 exact⟨S',y,m',h1,h2,h3,h4⟩
theorem z0e {X:Ctx} {w:World} (xs:List AV) (us:List Value) {S:D7} {pl:E2} {m:Mem} (h:St X S pl w m) (hl:us.length=xs.length) (hr:∀ (j:Nat) x u,xs[j]?=some x→us[j]?=some u→RelV S pl w m x u)
  {K:List CV→Mem→Prop} (hk:T9 m xs K):∃ S' ys m',K ys m'∧ys.length=xs.length∧(∀ (j:Nat) y u,ys[j]?=some y→us[j]?=some u→RelC S' w y u)∧St X S' pl w m'∧Keeps S S' pl pl w w m m':=by
 obtain⟨S',y,m',h1,h2,h3,h4,h5,_⟩:=X3 xs us h hl hr hk
 exact⟨S',y,m',h1,h2,h3,h4,h5⟩
end Go.Proofs.YtioiigabeoaneaaGreat.V
namespace Go.Proofs.YtioiigabeoaneaaGreat.V
open Go Go.RowKit
theorem St.setArr {X:Ctx} {S:D7} {pl:E2} {w:World} {m:Mem} (h:St X S pl w m) {i v sz:Nat} {es:List (List CV)} {cap:Option Nat} {pub:Bool} (hob:m.get i=some (.arr v sz es cap pub))
  (o:Nat) (us:List Value) (es':List (List CV)) (cap':Option Nat) {e:TypeId} {capn:Nat} (hs:w.shape? (pl i).1=some (e,capn * sz))
  (hle:o + us.length≤capn * sz) (hpub:pub=true→es.length * sz≤o) (hgrow:es.length≤es'.length) (hfit:es'.length≤capn) (hcap':∀ c,cap'=some c→capn=c)
  (hl:∀ (i:Nat) e,es'[i]?=some e→e.length=sz) (hcov:∀ k,k < es'.length * sz→k < es.length * sz∨o≤k∧k < o + us.length)
  (hr:∀ f:Nat→Value,(∀ (i j:Nat) e x,es[i]?=some e→e[j]?=some x→RelC S w x (f (i * sz + j))) →
   ∀ (i j:Nat) e x,es'[i]?=some e→e[j]?=some x→RelC S w x (if o≤i * sz + j∧i * sz + j < o + us.length then us.getD (i * sz + j - o) undef else f (i * sz + j))) :
  ∃ S',St X S' pl (w.setCells (pl i).1 o us) (m.upd i (.arr v sz es' cap' pub))∧Keeps S S' pl pl w (w.setCells (pl i).1 o us) m (m.upd i (.arr v sz es' cap' pub)):=by
 obtain⟨hv,h0,h1,h2,⟨e2,capn2,hs2,hle2,hcap2⟩,⟨hl2,f,hc,hrf⟩,hp⟩:=h.inv.ob i _ hob
 have hcc:capn2=capn:=by
  rw [hs] at hs2;injection hs2 with hs2;injection hs2 with _ hs2
  exact (Nat.eq_of_mul_eq_mul_right h1 hs2).symm
 subst hcc
 have hblt:=P0 hs
 let S':D7:=fun b k=>S b k∨(pub=true∧b=(pl i).1∧es.length * sz≤k∧k < es'.length * sz)
 have hfoot:∀ b k,(b=(pl i).1∧o≤k∧k < o + us.length)→(Ob.arr v sz es cap pub).foot (pl i) b k:=fun b k ⟨g1,g2,g3⟩=>⟨g1,fun hpb=>by have:=hpub hpb;omega⟩
 have hS:∀ b k,S b k→D8 (w.setCells (pl i).1 o us) b k=D8 w b k:=fun b k hs' =>
  J0 _ _ _ _ _ _ (fun e=>by
   rcases Nat.lt_or_ge k o with g1 | g1
   ·exact .inl g1
   ·rcases Nat.lt_or_ge k (o + us.length) with g2 | g2
    ·exact absurd hs' (h.inv.free i _ hob b k (hfoot b k ⟨e,g1,g2⟩))
    ·exact .inr g2)
 have k:=z8e (pl:=pl) (S':=S') (w':=w.setCells (pl i).1 o us) (ob':=.arr v sz es' cap' pub) hob ⟨rfl,rfl,hgrow⟩ (fun _ _ h=>.inl h) hS (fun b=>J3 _ _ _ _ _)
 have hne:∀ id ob,id≠i→(m.upd i (.arr v sz es' cap' pub)).get id=some ob→m.get id=some ob:=fun id ob hi hg=>by rw [M8,if_neg hi] at hg;exact hg
 have hnewS:∀ b k,(pub=true∧b=(pl i).1∧es.length * sz≤k∧k < es'.length * sz)→(Ob.arr v sz es cap pub).foot (pl i) b k:=fun b k ⟨_,g1,g2,_⟩=>⟨g1,fun _=>g2⟩
 refine⟨S',h.step1 i _ k (Ext.setCells w (pl i).1 o us) (fun b c hf=>h.own i _ hob b c (hfoot b c hf)) (fun b c hs'=>?_)
  (fun id ob hi hg=>⟨hne id ob hi hg,rfl⟩) (fun id ob hi hg b c hf=>⟨fun hF=>h.inv.apart id i ob _ (hne id ob hi hg) hob hi b c hf (hfoot b c hF),?_⟩) (fun ob hg=>?_),k⟩
 ·rw [X1]
  rcases hs' with hs' | hs'
  ·exact⟨h.inv.low b c hs',.inl hs'⟩
  ·exact⟨by rw [hs'.2.1];exact hblt,.inr (h.own i _ hob b c (hnewS b c hs'))⟩
 ·rintro (hs' | hs')
  ·exact h.inv.free id ob (hne id ob hi hg) b c hf hs'
  ·exact h.inv.apart id i ob _ (hne id ob hi hg) hob hi b c hf (hnewS b c hs')
 ·rw [M8,if_pos rfl] at hg;injection hg with hg;subst hg
  have hsub:∀ b c,(Ob.arr v sz es' cap' pub).foot (pl i) b c→(Ob.arr v sz es cap pub).foot (pl i) b c:=fun b c ⟨g1,g2⟩=>⟨g1,fun hpb=>Nat.le_trans (Nat.mul_le_mul_right sz hgrow) (g2 hpb)⟩
  refine⟨hv,⟨h0,h1,⟨fun c hz e s hs'=>h2.1 c (by rw [World.frozen?_setCells] at hz;exact hz) e s (by rw [J3] at hs';exact hs'),fun hp e s hs'=>h2.2 hp e s (by rw [J3] at hs';exact hs')⟩,⟨e,capn2,by rw [J3];exact hs,hfit,hcap'⟩,
   ⟨hl,fun k=>if o≤k∧k < o + us.length then us.getD (k - o) undef else f k,fun c hc'=>?_,fun i' j e' x he hx=>(hr f hrf i' j e' x he hx).mono k.sub k.cell⟩,fun hpb c hc'=>?_⟩,fun b c hf=>⟨h.own i _ hob b c (hsub b c hf),?_,fun id ob' hi hg hf2=>h.inv.apart id i ob' _ (hne id ob' hi hg) hob hi b c hf2 (hsub b c hf)⟩⟩
  ·dsimp only
   by_cases hin:o≤c∧c < o + us.length
   ·rw [if_pos hin]
    have hjl:c - o < us.length:=by omega
    have hu:us[c - o]?=some us[c - o]:=List.getElem?_eq_getElem hjl
    have hinn:=V8 (pl i).1 o us w (fun t ht'=>by
     have hcell:(D8 w (pl i).1 (o + t)).isSome=true:=by
      unfold World.shape? at hs
      unfold D8 World.cell?
      cases hh:w.heap[(pl i).1]? with
      | none=>rw [hh] at hs;simp at hs
      | some ob =>
       rw [hh] at hs
       cases ob with
       | cells cc e' fr =>
        simp only [Option.some.injEq,Prod.mk.injEq] at hs
        have:o + t < cc.size:=by rw [hs.2];omega
        simp [Array.getElem?_eq_getElem this]
       | _=>simp at hs
     exact hcell) (c - o) hjl
    rw [show o + (c - o)=c by omega] at hinn
    rw [hinn];simp [List.getD,hu]
   ·rw [if_neg hin]
    have hlt:c < es.length * sz:=(hcov c hc').resolve_right hin
    rw [← hc c hlt]
    exact J0 _ _ _ _ _ _ (fun _=>by omega)
  ·rcases Nat.lt_or_ge c (es.length * sz) with hlt | hge
   ·exact .inl (hp hpb c hlt)
   ·exact .inr ⟨hpb,rfl,hge,hc'⟩
  ·rintro (hs' | hs')
   ·exact h.inv.free i _ hob b c (hsub b c hf) hs'
   ·exact absurd (hf.2 hs'.1) (Nat.not_le.2 hs'.2.2.2)
theorem St.rename {X:Ctx} {S:D7} {pl:E2} {w:World} {m:Mem} (h:St X S pl w m) {i v sz:Nat} {es:List (List CV)} {cap:Option Nat} {pub:Bool} (hob:m.get i=some (.arr v sz es cap pub)) (site:Nat) :
  St X S (M2 pl site (pl i)) w ((m.del i).new site fun v=>.arr v sz es cap pub)∧Keeps S S pl (M2 pl site (pl i)) w w m ((m.del i).new site fun v=>.arr v sz es cap pub):=by
 obtain⟨hv,h0,h1,h2,h3,hrow,hp⟩:=h.inv.ob i _ hob
 have hne:∀ id ob,id≠site→((m.del i).new site fun v=>.arr v sz es cap pub).get id=some ob→m.get id=some ob∧id≠i:=fun id ob hi hg=>by
  rw [H7,if_neg hi,z5b] at hg
  split at hg
  ·simp at hg
  ·exact⟨hg,by assumption⟩
 have k:Keeps S S pl (M2 pl site (pl i)) w w m ((m.del i).new site fun v=>.arr v sz es cap pub) :=
  ⟨fun _ _ h=>h,fun _ _ _=>rfl,fun _ _ h=>h,by rw [L9,w0h];omega,fun id ob hg hlt=>by
   by_cases hi:id=site
   ·subst hi;rw [H7,if_pos rfl] at hg;injection hg with hg;subst hg
    rw [w0h] at hlt;exact absurd hlt (Nat.lt_irrefl _)
   ·exact⟨ob,(hne id ob hi hg).1,by cases ob<;>simp [Ob.alike],by simp [M2,hi]⟩⟩
 refine⟨h.step1 site (fun _ _=>False) k (Ext.refl _ _) (fun _ _ hf=>hf.elim) (fun b o hs=>⟨h.inv.low b o hs,.inl hs⟩) (fun id ob hi hg=>⟨(hne id ob hi hg).1,by simp [M2,hi]⟩)
  (fun id ob hi hg b o hf=>⟨fun hf=>hf,h.inv.free id ob (hne id ob hi hg).1 b o hf⟩) (fun ob hg=>?_),k⟩
 rw [H7,if_pos rfl] at hg;injection hg with hg;subst hg
 have hpl:M2 pl site (pl i) site=pl i:=by simp [M2]
 obtain⟨hl,f,hc,hr⟩:=hrow
 rw [hpl]
 exact⟨by rw [L9,w0h];exact Nat.lt_succ_self _,⟨h0,h1,h2,h3,⟨hl,f,hc,fun i' j e x he hx=>(hr i' j e x he hx).mono k.sub k.cell⟩,hp⟩,
  fun b o hf=>⟨h.own i _ hob b o hf,h.inv.free i _ hob b o hf,fun id ob' hi hg hf2=>h.inv.apart id i ob' _ (hne id ob' hi hg).1 hob (hne id ob' hi hg).2 b o hf2 hf⟩⟩
end Go.Proofs.YtioiigabeoaneaaGreat.V
namespace Go.Proofs.YtioiigabeoaneaaGreat.V
open Go Go.RowKit
def z3j (P:Program) (t:TypeId):Bool:=match P.underlying t with | some (.struct _) | some (.array _ _)=>true | _=>false
def w4c:CV→Value→Bool
 | .v (.int k n),.int k' n'=>k == k' && n == n'
 | .v (.bool b),.bool b'=>b == b'
 | .v (.string s),.string s'=>s.data.toList == s'.data.toList
 | .v (.pointer none),.pointer none=>true
 | .v (.map none),.map none=>true
 | .v .nilFunc,.nilFunc=>true
 | .v .nilIface,.nilIface=>true
 | .sl _ [] (some []),.slice none 0 0=>true
 | _,_=>false
def z1i:List CV→List Value→Bool
 | [],[]=>true
 | x :: xs,v :: vs=>w4c x v && z1i xs vs
 | _,_=>false
def z0n (P:Program) (t:TypeId) (z:List CV):Bool:=match (P.info? t).bind (·.zero) with
 | some v=>z1i z v.cells.toList
 | none=>false
def Q2 (P:Program) (t:TypeId):Bool:=(P.info? t).isSome && (P.underlying t).isSome
def z3b (P:Program) (f:Field):Nat × Nat × Bool:=(f.offset,P.cellsOf f.type,z3j P f.type)
def z3l (P:Program) (t:TypeId) (ez:List CV):TK→Bool
 | .sc=>true
 | .bool=>match P.underlying t with | some .bool=>true | _=>false
 | .int k=>match P.underlying t with | some (.int k')=>k == k' | _=>false
 | .str=>match P.underlying t with | some .string=>true | _=>false
 | .st fs=>match P.underlying t with | some (.struct fields)=>fields.toList.map (z3b P) == fs && fields.toList.all fun f=>Q2 P f.type | _=>false
 | .ar n esz ea=>match P.underlying t with | some (.array n' e)=>n == n' && P.cellsOf e == esz && z3j P e == ea && Q2 P e && decide (0 < esz) | _=>false
 | .sl esz ea eb u8=>match P.underlying t with
  | some (.slice e)=>P.cellsOf e == esz && z3j P e == ea && P.bytesOf e == eb && Q2 P e && decide (0 < esz) && decide (eb≤2 ^ 30) && decide (0 < eb) && (z0n P e ez && ez.length == esz) &&
    (!u8 || (match P.underlying e with | some (.int .u8)=>true | _=>false))
  | _=>false
 | .pt esz ea=>match P.underlying t with | some (.pointer e)=>P.cellsOf e == esz && z3j P e == ea && Q2 P e && decide (0 < esz) | _=>false
def w7e (P:Program) (e:TypeId) (c:Nat):Bool:=match P.underlying e,c with
 | some (.int _),1=>true
 | some .bool,2=>true
 | some .string,3=>true
 | _,_=>false
def z3y (P:Program):Nat→List Field→List Nat→Bool
 | _,[],[]=>true
 | i, f :: fs, c :: cs => f.name != "_" && f.offset == i && w7e P f.type c && z3y P (i + 1) fs cs
 | _,_,_=>false
def k5j (P:Program) (t:TypeId):List Nat→Bool
 | []=>true
 | cd=>!P.eqGuardType P.depth t && match P.underlying t with | some (.struct fs)=>!P.stoodInHeld t && z3y P 0 fs.toList cd | _=>false
def w5a (P:Program) (t:TypeId) (ti:TI):Bool :=
 Q2 P t && P.cellsOf t == ti.size && z3j P t == ti.agg && z0n P t ti.zero && z3l P t ti.ezero ti.k && k5j P t ti.eq
def X6 (P:Program):Nat→List TI→Bool
 | _,[]=>true
 | t,ti :: r=>((ti.size == 0 && ti.k.isSc) || w5a P t ti) && X6 P (t + 1) r
def TabOk (P:Program) (T:Tab):Prop:=∀ t,(T.at t).size≠0∨(T.at t).k.isSc=false→w5a P t (T.at t)=true
theorem z1x (P:Program):∀ (l:List TI) (s:Nat),X6 P s l=true→∀ i,(l.getD i TI.no).size≠0∨(l.getD i TI.no).k.isSc=false→w5a P (s + i) (l.getD i TI.no)=true
 | [],_,_,i,h=>by simp [TI.no,TK.isSc] at h
 | ti :: r,s,hc,0,h=>by
  simp only [X6,Bool.and_eq_true,Bool.or_eq_true,beq_iff_eq] at hc
  simp only [List.getD_cons_zero] at h ⊢
  rcases hc.1 with ⟨h1,h2⟩ | h1
  ·rw [h2] at h;simp [h1] at h
  ·exact h1
 | ti :: r,s,hc,i + 1,h=>by
  simp only [X6,Bool.and_eq_true] at hc
  have:=z1x P r (s + 1) hc.2 i (by simpa using h)
  simpa [Nat.add_assoc,Nat.add_comm 1 i] using this
theorem TabOk.of_check {P:Program} {T:Tab} (h:X6 P 0 T=true):TabOk P T:=fun t ht=>by
 have:=z1x P T 0 h t ht
 rwa [Nat.zero_add] at this
section
variable {P:Program} {T:Tab} {t:Nat}
theorem S5 (h:Q2 P t=true):∃ i d,P.info? t=some i∧P.underlying t=some d:=by
 unfold Q2 at h
 simp only [Bool.and_eq_true,Option.isSome_iff_exists] at h
 obtain⟨⟨i,hi⟩,⟨d,hd⟩⟩:=h
 exact⟨i,d,hi,hd⟩
theorem F7 (h:Q2 P t=true) (w:World):(sizeOf t).run P w=.ok (P.cellsOf t) w:=by
 obtain⟨i,d,hi,hd⟩:=S5 h
 exact run_sizeOf w hi
theorem z5r (h:Q2 P t=true) (w:World):(isAgg t).run P w=.ok (z3j P t) w:=by
 obtain⟨i,d,hi,hd⟩:=S5 h
 unfold isAgg z3j
 simp only [Sem.run_bind,run_underlying hd,Result.andThen_ok,hd]
 cases d<;>rfl
theorem TabOk.ti (h:TabOk P T) (hs:(T.at t).size≠0):Q2 P t=true∧P.cellsOf t=(T.at t).size∧z3j P t=(T.at t).agg∧z0n P t (T.at t).zero=true:=by
 have:=h t (.inl hs)
 simp only [w5a,Bool.and_eq_true,beq_iff_eq] at this
 exact⟨this.1.1.1.1.1,this.1.1.1.1.2,this.1.1.1.2,this.1.1.2⟩
theorem TabOk.tk (h:TabOk P T) (hs:(T.at t).k.isSc=false):z3l P t (T.at t).ezero (T.at t).k=true∧z0n P t (T.at t).zero=true∧Q2 P t=true:=by
 have:=h t (.inr hs)
 simp only [w5a,Bool.and_eq_true,beq_iff_eq] at this
 exact⟨this.1.2,this.1.1.2,this.1.1.1.1.1⟩
theorem z4e (S:D7) (w:World):∀ (z:List CV) (vs:List Value),z1i z vs=true→z.length=vs.length∧∀ (i:Nat) x u,z[i]?=some x→vs[i]?=some u→RelC S w x u
 | [],[],_=>⟨rfl,fun i x u h=>by simp at h⟩
 | [],_ :: _,h=>by simp [z1i] at h
 | _ :: _,[],h=>by simp [z1i] at h
 | x :: z,v :: vs,h=>by
  simp only [z1i,Bool.and_eq_true] at h
  obtain⟨hl,hr⟩:=z4e S w z vs h.2
  refine⟨by simp [hl],fun i y u hy hu=>?_⟩
  cases i with
  | succ i=>exact hr i y u (by simpa using hy) (by simpa using hu)
  | zero =>
   simp only [List.getElem?_cons_zero,Option.some.injEq] at hy hu
   subst hy hu
   have hx:=h.1
   unfold w4c at hx
   split at hx<;>simp only [Bool.and_eq_true,beq_iff_eq,Bool.false_eq_true] at hx
   ·obtain⟨rfl,rfl⟩:=hx;exact .v _ rfl
   ·subst hx;exact .v _ rfl
   ·rename_i s s'
    have:s=s':=by cases s;cases s';simp only at hx;congr 1;exact Array.ext' hx
    subst this;exact .v _ rfl
   ·exact .v _ rfl
   ·exact .v _ rfl
   ·exact .v _ rfl
   ·exact .v _ rfl
   ·exact .sl _ [] (some []) none 0 0 0 (fun _=>.nilFunc) (Nat.le_refl _) (fun s h=>by injection h with h;subst h;rfl) (fun h=>absurd rfl h) (fun i e h=>by simp at h) (fun k h=>by simp at h) (fun k h=>by simp at h) (fun i j e x h=>by simp at h)
theorem Y8 {z:List CV} (h:z0n P t z=true) (hk:Q2 P t=true) (S:D7) (w:World):∃ v,(zeroValue t).run P w=.ok v w∧z.length=v.cells.size∧∀ (i:Nat) x u,z[i]?=some x→v.cells[i]?=some u→RelC S w x u:=by
 obtain⟨i,d,hi,hd⟩:=S5 hk
 unfold z0n at h
 rw [hi] at h
 simp only [Option.bind_some] at h
 cases hz:i.zero with
 | none=>rw [hz] at h;simp at h
 | some v =>
  rw [hz] at h
  obtain⟨hl,hr⟩:=z4e S w z v.cells.toList h
  refine⟨v,?_,by simpa using hl,fun j x u hx hu=>hr j x u hx (by simpa using hu)⟩
  unfold zeroValue
  simp only [Sem.run_bind,run_typeInfo w hi,Result.andThen_ok,hz]
  rfl
end
end Go.Proofs.YtioiigabeoaneaaGreat.V
namespace Go.Proofs.YtioiigabeoaneaaGreat.V
open Go Go.RowKit
def Did (X:Ctx) (S:D7) (pl:E2) (w:World) (m:Mem) (r:Result Value) (K:KK):Prop :=
 ∃ u w' S' pl' v m',r=.ok u w'∧K v m'∧RelV S' pl' w' m' v u∧St X S' pl' w' m'∧Keeps S S' pl pl' w w' m m'
section
variable {P:Program} {T:Tab} {X:Ctx} {S:D7} {pl:E2} {w:World} {m:Mem} {K:KK}
theorem Did.same (h:St X S pl w m) {u:Value} {v:AV} (hk:K v m) (hr:RelV S pl w m v u):Did X S pl w m (.ok u w) K :=
 ⟨u,w,S,pl,v,m,rfl,hk,hr,h,Keeps.refl _ _ _ _⟩
theorem Did.lit (h:St X S pl w m) {u:Value} (hs:z3m u=true) (hk:K (.c (.v u)) m):Did X S pl w m (.ok u w) K:=Did.same h hk (.c _ _ (.v u hs))
theorem H2 {x u:Value} (h:RelV S pl w m (.c (.v x)) u):u=x:=by cases h with | c _ _ h=>cases h with | v _ _=>rfl
theorem z5p (op:BinOp) (t:TypeId) (a b:Value) {Q:Value→Prop} (h:z9h op a b Q):∃ r,(binOp op t a b).run P w=.ok r w∧z3m r=true∧Q r:=by
 cases a<;>cases b<;>simp only [z9h] at h<;>try exact h.elim
 case int.int k x k' y =>
  cases op<;>simp only at h
  case shl =>
   obtain⟨h0,hq⟩:=h
   refine⟨_,?_,rfl,hq⟩
   simp only [binOp,Op.shift];rw [if_neg (by omega)];rfl
  case shr =>
   obtain⟨h0,hq⟩:=h
   refine⟨_,?_,rfl,hq⟩
   simp only [binOp,Op.shift];rw [if_neg (by omega)];rfl
  case quo =>
   obtain⟨rfl,h0,hq⟩:=h
   refine⟨_,?_,rfl,hq⟩
   simp only [binOp,Op.intDiv,ne_eq,not_true_eq_false,if_false];rw [if_neg h0];rfl
  case rem =>
   obtain⟨rfl,h0,hq⟩:=h
   refine⟨_,?_,rfl,hq⟩
   simp only [binOp,Op.intDiv,ne_eq,not_true_eq_false,if_false];rw [if_neg h0];rfl
  all_goals
   obtain⟨rfl,hq⟩:=h
   refine⟨_,?_,rfl,hq⟩
   simp only [binOp,ne_eq,not_true_eq_false,if_false,Op.intArith,Op.intBits,Op.intCmp];rfl
 case string.string x y =>
  cases op<;>simp only at h<;>try exact h.elim
  case add =>
   obtain⟨h0,hq⟩:=h
   refine⟨_,?_,rfl,hq⟩
   simp only [binOp,Op.stringOp];rw [if_neg (by omega)];rfl
  all_goals
   refine⟨_,?_,rfl,h⟩
   simp only [binOp,Op.stringOp];rfl
theorem M6 (op:BinOp) (t:TypeId) (x y:Operand) (a b:Value) (h:¬ (a=.nilIface∧b=.nilIface)) (h':∀ c d,¬ (a=.agg c∧b=.agg d)) :
  (eqGuard op t x y a b).run P w=.ok () w:=by
 unfold eqGuard
 cases op<;>first | rfl | (cases a<;>cases b<;>first | rfl | exact absurd ⟨rfl,rfl⟩ h | exact absurd ⟨rfl,rfl⟩ (h' _ _))
theorem w0b (d:Nat) {t:TypeId} (ht:P.underlying t=some .bool) (a b:Bool):(Op.equalIn (d + 1) t (.bool a) (.bool b)).run P w=.ok (a == b) w:=by
 simp only [Op.equalIn,Sem.run_bind,run_underlying ht,Result.andThen_ok];rfl
theorem z6p {t:TypeId} (ht:P.underlying t=some .bool) (a b:Bool):(Op.equal t (.bool a) (.bool b)).run P w=.ok (a == b) w:=w0b 9999 ht a b
theorem z4u (d:Nat) {t e:TypeId} (ht:P.underlying t=some (.pointer e)) (a b:Option Addr) (h:a=none∨b=none):(Op.equalIn (d + 1) t (.pointer a) (.pointer b)).run P w=.ok (a.isNone && b.isNone) w:=by
 simp only [Op.equalIn,Sem.run_bind,run_underlying ht,Result.andThen_ok]
 cases a with
 | none=>rfl
 | some a=>cases b with
  | none=>rfl
  | some b=>simp at h
theorem z2d {t e:TypeId} (ht:P.underlying t=some (.pointer e)) (a b:Option Addr) (h:a=none∨b=none):(Op.equal t (.pointer a) (.pointer b)).run P w=.ok (a.isNone && b.isNone) w:=z4u 9999 ht a b h
theorem z4z {x:AV} {u:Value} {b:Bool} (hx:z0l x=some b) (h:RelV S pl w m x u):∃ a,u=.pointer a∧a.isNone=b:=by
 unfold z0l at hx
 split at hx<;>first | (simp at hx;done) | (injection hx with hx;subst hx)
 ·exact⟨none,H2 h,rfl⟩
 ·cases h with | c _ _ h=>cases h;exact⟨_,rfl,rfl⟩
 ·cases h;exact⟨_,rfl,rfl⟩
 ·cases h;exact⟨_,rfl,rfl⟩
theorem w3s (hT:TabOk P T) (h:St X S pl w m) (op:BinOp) (t:TypeId) (ox oy:Operand) {x y:AV} {a b:Value} (hx:RelV S pl w m x a) (hy:RelV S pl w m y b)
  (hk:z6t op (T.at t).k m x y K):Did X S pl w m ((do eqGuard op t ox oy a b;binOp op t a b:Sem Value).run P w) K:=by
 unfold z6t at hk
 split at hk
 ·have e1:=H2 hx;have e2:=H2 hy;subst e1 e2
  split at hk
  ·rename_i hk2
   have ht:P.underlying t=some .bool:=by
    have:=(hT.tk (t:=t) (by rw [hk2];rfl)).1
    rw [hk2] at this;simp only [z3l] at this
    split at this<;>first | assumption | simp at this
   rw [Sem.run_bind,M6 _ t ox oy _ _ (by simp) (by simp)];simp only [Sem.run_bind,Result.andThen_ok,binOp,z6p ht]
   exact Did.lit h rfl hk
  ·rename_i hk2
   have ht:P.underlying t=some .bool:=by
    have:=(hT.tk (t:=t) (by rw [hk2];rfl)).1
    rw [hk2] at this;simp only [z3l] at this
    split at this<;>first | assumption | simp at this
   rw [Sem.run_bind,M6 _ t ox oy _ _ (by simp) (by simp)];simp only [Sem.run_bind,Result.andThen_ok,binOp,z6p ht]
   exact Did.lit h rfl hk
  ·exact hk.elim
 ·have e1:=H2 hx;have e2:=H2 hy;subst e1 e2
  obtain⟨r,hr,hs,hq⟩:=z5p (P:=P) (w:=w) op t _ _ hk
  rw [Sem.run_bind,M6 op t ox oy _ _ (by simp) (by simp),Result.andThen_ok,hr]
  exact Did.lit h hs hq
 ·have e1:=H2 hx;have e2:=H2 hy;subst e1 e2
  obtain⟨r,hr,hs,hq⟩:=z5p (P:=P) (w:=w) op t _ _ hk
  rw [Sem.run_bind,M6 op t ox oy _ _ (by simp) (by simp),Result.andThen_ok,hr]
  exact Did.lit h hs hq
 ·split at hk
  ·rename_i k2 n1 n2
   obtain⟨p,rfl,hp⟩:=z4z n1 hx
   obtain⟨q,rfl,hq⟩:=z4z n2 hy
   have ht:∃ e,P.underlying t=some (.pointer e):=by
    have:=(hT.tk (t:=t) (by rw [k2];rfl)).1
    rw [k2] at this;simp only [z3l] at this
    split at this<;>first | exact⟨_,by assumption⟩ | simp at this
   obtain⟨e,ht⟩:=ht
   have hor:p=none∨q=none:=by
    rcases hk.1 with h1 | h1
    ·left;rw [h1] at hp;cases p<;>simp_all
    ·right;rw [h1] at hq;cases q<;>simp_all
   rw [Sem.run_bind,M6 _ t ox oy _ _ (by simp) (by simp),Result.andThen_ok]
   have:(binOp .eql t (.pointer p) (.pointer q)).run P w=.ok (.bool (p.isNone && q.isNone)) w:=by
    simp only [binOp,Sem.run_bind,z2d ht p q hor,Result.andThen_ok];rfl
   rw [this,hp,hq]
   exact Did.lit h rfl hk.2
  ·rename_i k2 n1 n2
   obtain⟨p,rfl,hp⟩:=z4z n1 hx
   obtain⟨q,rfl,hq⟩:=z4z n2 hy
   have ht:∃ e,P.underlying t=some (.pointer e):=by
    have:=(hT.tk (t:=t) (by rw [k2];rfl)).1
    rw [k2] at this;simp only [z3l] at this
    split at this<;>first | exact⟨_,by assumption⟩ | simp at this
   obtain⟨e,ht⟩:=ht
   have hor:p=none∨q=none:=by
    rcases hk.1 with h1 | h1
    ·left;rw [h1] at hp;cases p<;>simp_all
    ·right;rw [h1] at hq;cases q<;>simp_all
   rw [Sem.run_bind,M6 _ t ox oy _ _ (by simp) (by simp),Result.andThen_ok]
   have:(binOp .neq t (.pointer p) (.pointer q)).run P w=.ok (.bool !(p.isNone && q.isNone)) w:=by
    simp only [binOp,Sem.run_bind,z2d ht p q hor,Result.andThen_ok];rfl
   rw [this,hp,hq]
   exact Did.lit h rfl hk.2
  ·exact hk.elim
theorem k0g {d:Nat} {e:TypeId} {c:Nat} {x y:AV} {u v:Value} {r:Bool} (hs:w7e P e c=true) (hx:RelV S pl w m x u) (hy:RelV S pl w m y v) (h:z4a c x y=some r) :
  P.plainKey e=true∧(Op.equalIn (d + 1) e u v).run P w=.ok r w:=by
 unfold w7e at hs
 split at hs
 ·rename_i k hu
  unfold z4a at h
  split at h<;>first | (rename_i hq;simp at hq;done) | skip
  ·have e1:=H2 hx;have e2:=H2 hy;subst e1 e2
   split at h
   ·injection h with h;subst h;rename_i hk;subst hk
    exact⟨by unfold Program.plainKey;rw [hu],run_equalIn_int w d e _ k _ _ hu⟩
   ·simp at h
  all_goals simp_all
 ·rename_i hu
  unfold z4a at h
  split at h<;>first | (simp at h;done) | skip
  all_goals first
   | (have e1:=H2 hx;have e2:=H2 hy;subst e1 e2;injection h with h;subst h;exact⟨by unfold Program.plainKey;rw [hu],run_equalIn_bool' w d e _ _ hu⟩)
   | simp_all
 ·rename_i hu
  unfold z4a at h
  split at h<;>first | (simp at h;done) | skip
  all_goals first
   | (have e1:=H2 hx;have e2:=H2 hy;subst e1 e2;injection h with h;subst h;exact⟨by unfold Program.plainKey;rw [hu],run_equalIn_string w d e _ _ hu⟩)
   | simp_all
 ·simp at hs
theorem w2c {d:Nat} {us vs:Array Value}:∀ (cs:List Nat) (fs:List Field) (i:Nat) (xs ys:List AV) {r:Bool},z3y P i fs cs=true→M0 cs xs ys=some r →
  (∀ (j:Nat) x,xs[j]?=some x→∃ u,us[i + j]?=some u∧RelV S pl w m x u)→(∀ (j:Nat) x,ys[j]?=some x→∃ u,vs[i + j]?=some u∧RelV S pl w m x u) →
  (Op.eqFields (d + 1) us vs fs).run P w=.ok r w
 | [],[],i,[],[],r,_,h,_,_=>by simp [M0] at h;subst h;rfl
 | [],[],i,[],_ :: _,r,_,h,_,_=>by simp [M0] at h
 | [],[],i,_ :: _,_,r,_,h,_,_=>by simp [M0] at h
 | [],_ :: _,i,_,_,r,hf,_,_,_=>by simp [z3y] at hf
 | _ :: _,[],i,_,_,r,hf,_,_,_=>by simp [z3y] at hf
 | _ :: _,_ :: _,i,[],_,r,_,h,_,_=>by simp [M0] at h
 | _ :: _,_ :: _,i,_ :: _,[],r,_,h,_,_=>by simp [M0] at h
 | c :: cs,f :: fs,i,x :: xs,y :: ys,r,hf,h,hx,hy=>by
  simp only [z3y,Bool.and_eq_true,bne_iff_ne,ne_eq,beq_iff_eq] at hf
  obtain⟨⟨⟨hn,ho⟩,hs⟩,hf⟩:=hf
  simp only [M0] at h
  split at h
  ·rename_i a b ha hb
   injection h with h;subst h
   obtain⟨u,hu,ru⟩:=hx 0 x rfl
   obtain⟨v,hv,rv⟩:=hy 0 y rfl
   obtain⟨hp,he⟩:=k0g (d:=d) hs ru rv ha
   have p1:=run_part_plain (P:=P) w hp (xs:=us) (off:=f.offset) (by rw [ho];simpa using hu)
   have p2:=run_part_plain (P:=P) w hp (xs:=vs) (off:=f.offset) (by rw [ho];simpa using hv)
   have ih:=w2c (d:=d) cs fs (i + 1) xs ys hf hb (fun j x hj=>by have:=hx (j + 1) x (by simpa using hj);rwa [show i + (j + 1)=i + 1 + j by omega] at this) (fun j x hj=>by have:=hy (j + 1) x (by simpa using hj);rwa [show i + (j + 1)=i + 1 + j by omega] at this)
   rw [Op.eqFields]
   simp only [if_pos hn,Sem.run_bind,p1,p2,he,Result.andThen_ok]
   cases a
   ·simp
   ·simpa using ih
  ·simp at h
theorem w6h (hT:TabOk P T) (h:St X S pl w m) (op:BinOp) (t:TypeId) (ox oy:Operand) {xs ys:List AV} {a b:Value} (hx:RelV S pl w m (.agg xs) a) (hy:RelV S pl w m (.agg ys) b)
  (hk:eqW op (T.at t) m xs ys K):Did X S pl w m ((do eqGuard op t ox oy a b;binOp op t a b:Sem Value).run P w) K:=by
 cases hx with | agg _ us hl hx =>
 cases hy with | agg _ vs hl' hy =>
 unfold eqW at hk
 split at hk
 ·rename_i fs c cs hst heq
  have hti:=hT t (.inr (by rw [hst];rfl))
  unfold w5a at hti
  simp only [Bool.and_eq_true] at hti
  have he:=hti.2
  rw [heq] at he
  unfold k5j at he
  simp only [Bool.and_eq_true,Bool.not_eq_true'] at he
  obtain⟨hg,he⟩:=he
  split at he
  ·rename_i fields hu
   simp only [Bool.and_eq_true,Bool.not_eq_true'] at he
   obtain⟨hsi,hfl⟩:=he
   have run:∀ r,M0 (c :: cs) xs ys=some r→(Op.equal t (.agg us.toArray) (.agg vs.toArray)).run P w=.ok r w:=fun r hr=>by
    have hf:P.fieldsOf t=fields:=by simp [Program.fieldsOf,hu]
    show (Op.equalIn (9999 + 1) t _ _).run P w=_
    rw [run_equalIn_struct (P:=P) w 9999 t _ _ (by rw [hf];exact hu) hsi,hf]
    refine w2c (S:=S) (pl:=pl) (m:=m) (d:=9998) (c :: cs) fields.toList 0 xs ys hfl hr (fun j x hj=>?_) (fun j x hj=>?_)
    ·have hlt:=(List.getElem?_eq_some_iff.1 hj).1
     have:us[j]?=some us[j]:=List.getElem?_eq_getElem (by omega)
     exact⟨us[j],by simp,hx j x _ hj this⟩
    ·have hlt:=(List.getElem?_eq_some_iff.1 hj).1
     have:vs[j]?=some vs[j]:=List.getElem?_eq_getElem (by omega)
     exact⟨vs[j],by simp,hy j x _ hj this⟩
   have guard:∀ op,(eqGuard op t ox oy (.agg us.toArray) (.agg vs.toArray)).run P w=.ok () w:=fun op=>by
    unfold eqGuard
    cases op<;>first
     | rfl
     | (simp [Sem.run_bind,run_program,hg])
   split at hk
   ·rename_i r hr
    rw [Sem.run_bind,guard,Result.andThen_ok]
    have:(binOp .eql t (.agg us.toArray) (.agg vs.toArray)).run P w=.ok (.bool r) w:=by
     simp only [binOp,Sem.run_bind,run r hr,Result.andThen_ok];rfl
    rw [this]
    exact Did.lit h rfl hk
   ·rename_i r hr
    rw [Sem.run_bind,guard,Result.andThen_ok]
    have:(binOp .neq t (.agg us.toArray) (.agg vs.toArray)).run P w=.ok (.bool !r) w:=by
     simp only [binOp,Sem.run_bind,run r hr,Result.andThen_ok];rfl
    rw [this]
    exact Did.lit h rfl hk
   ·exact hk.elim
  ·simp at he
 ·exact hk.elim
theorem w4z (h:St X S pl w m) (op:UnOp) {x:AV} {a:Value} (hx:RelV S pl w m x a) (hk:unW op m x K):Did X S pl w m ((Op.unary op a).run P w) K:=by
 unfold unW at hk
 split at hk<;>first | exact hk.elim | (have e1:=H2 hx;subst e1;exact Did.lit h rfl hk)
theorem z3z (h:St X S pl w m) {s f:Nat} {fs:List (Nat × Nat × Bool)} (hT:TabOk P T) (hs:(T.at s).k=.st fs) {off n:Nat} {ea:Bool} (hf:fs[f]?=some (off,n + 1,ea))
  {x:AV} {a:Value} (hx:RelV S pl w m x a) (hk:L0 off m x K):Did X S pl w m ((Instr.fieldAt s a f).run P w) K:=by
 have ht:=(hT.tk (t:=s) (by rw [hs];rfl)).1
 rw [hs] at ht;simp only [z3l] at ht
 split at ht
 ·rename_i fields hu
  simp only [Bool.and_eq_true,beq_iff_eq,List.all_eq_true] at ht
  obtain⟨hmap,hall⟩:=ht
  have hfi:(fields.toList.map (z3b P))[f]?=some (off,n + 1,ea):=by rw [hmap];exact hf
  rw [List.getElem?_map] at hfi
  cases hfl:fields.toList[f]? with
  | none=>rw [hfl] at hfi;simp at hfi
  | some fd =>
   rw [hfl] at hfi
   simp only [Option.map_some,Option.some.injEq,z3b,Prod.mk.injEq] at hfi
   obtain⟨h1,h2,h3⟩:=hfi
   have hfa:fields[f]?=some fd:=by rw [← Array.getElem?_toList];exact hfl
   have hkn:=hall fd (List.mem_of_getElem? hfl)
   have run:∀ ad:Addr,(Instr.fieldAt s (.pointer (some ad)) f).run P w=.ok (.pointer (some (ad.add off))) w:=by
    intro ad
    unfold Instr.fieldAt
    simp only [Sem.run_bind,run_underlying hu,Result.andThen_ok,hfa,Instr.sureAddr,Sem.run_pure,fieldPlace,F7 hkn]
    rw [if_neg (by omega),h1]
    rfl
   have hadd:∀ b o:Nat,(⟨b,o,none⟩:Addr).add off=⟨b,o + off,none⟩:=fun b o=>by unfold Addr.add;split<;>simp_all
   unfold L0 at hk
   split at hk
   ·cases hx with | p id ver off' b o hv hx =>
    rw [run,hadd,Nat.add_assoc]
    exact Did.same h hk (.p _ _ _ _ _ hv hx)
   ·cases hx with | c _ _ hx =>
    cases hx with | rp cs b o g hS hc hr =>
    rw [run,hadd]
    refine Did.same h hk (.c _ _ (.rp _ b (o + off) (fun i=>g (off + i)) (fun i hi=>?_) (fun i hi=>?_) (fun i x hx=>?_)))
    ·rw [List.length_drop] at hi;have:=hS (off + i) (by omega);rwa [← Nat.add_assoc] at this
    ·rw [List.length_drop] at hi;have:=hc (off + i) (by omega);rwa [← Nat.add_assoc] at this
    ·rw [List.getElem?_drop] at hx;exact hr _ x hx
   ·cases hx with | tp id ver i off' b o hv hx =>
    rw [run,hadd,Nat.add_assoc]
    exact Did.same h hk (.tp _ _ _ _ _ _ hv hx)
   ·exact hk.elim
 ·simp at ht
theorem z4t (o:Oper) (y:Operand) (ρ:Operand→Value) (ho:o.op=.nilCheck y) {x:AV} (hx:RelV S pl w m x (ρ y)) (hk:L5 m x K) :
  ∃ u v,(execOp ρ o).run P w=.ok (.value u) w∧K v m∧RelV S pl w m v u:=by
 have run:∀ u,ρ y=u→(∀ b,u≠.pointer none→u≠.nilIface→u≠.nilFunc→(∀ n f c,u≠.func (.method n) f c)→b=u→(execOp ρ o).run P w=.ok (.value b) w):=by
  intro u hu b h1 h2 h3 h4 hb
  subst hb
  unfold execOp
  rw [ho]
  simp only [hu]
  cases b with
  | pointer a=>cases a with | none=>exact absurd rfl h1 | some a=>rfl
  | func f c d=>cases f<;>first | rfl | exact absurd rfl (h4 _ _ _)
  | nilIface=>exact absurd rfl h2
  | nilFunc=>exact absurd rfl h3
  | _=>rfl
 generalize hu:ρ y=u at hx
 unfold L5 at hk
 split at hk
 ·cases hx with | p id ver o b q hv hx=>exact⟨_,_,run _ hu _ (by simp) (by simp) (by simp) (by simp) rfl,hk,.p _ _ _ _ _ hv hx⟩
 ·cases hx with | c _ _ hx =>
  cases hx with | rp cs b q g hS hc hr=>exact⟨_,_,run _ hu _ (by simp) (by simp) (by simp) (by simp) rfl,hk,.c _ _ (.rp _ b q g hS hc hr)⟩
 ·cases hx with | tp id ver i o b q hv hx=>exact⟨_,_,run _ hu _ (by simp) (by simp) (by simp) (by simp) rfl,hk,.tp _ _ _ _ _ _ hv hx⟩
 ·rename_i f c d
  have e1:=H2 hx;subst e1
  cases f<;>first | (simp at hk;done) | skip
  exact⟨_,_,run _ hu _ (by simp) (by simp) (by simp) (by simp) rfl,hk.2,hx⟩
 ·exact hk.elim
theorem z4r {t:TypeId} (hkn:Q2 P t=true) (b o:Nat) (f:Nat→Value) (hc:∀ j,j < (if z3j P t then P.cellsOf t else 1)→D8 w b (o + j)=some (f j)) :
  (loadVar t ⟨b,o,none⟩).run P w=.ok (if z3j P t then .agg ((List.range (P.cellsOf t)).map f).toArray else f 0) w:=by
 have hadd:∀ j,(⟨b,o,none⟩:Addr).add j=⟨b,o + j,none⟩:=fun j=>by unfold Addr.add;split<;>simp_all
 unfold loadVar
 simp only [Sem.run_bind,z5r hkn,Result.andThen_ok]
 cases hag:z3j P t with
 | true =>
  rw [hag] at hc
  simp only [if_true,Sem.run_bind,F7 hkn,Result.andThen_ok]
  rw [run_loadCells w ⟨b,o,none⟩ (P.cellsOf t) f (fun j hj=>by rw [hadd];exact hc j (by simpa using hj))]
  rfl
 | false =>
  rw [hag] at hc
  have h0:=hc 0 (by simp)
  simp only [Nat.add_zero] at h0
  simp only [Bool.false_eq_true,if_false,run_load]
  rw [show w.cell? ⟨b,o,none⟩=some (f 0) from h0]
theorem z7t {K:AV→Prop} {agg:Bool} {s:Nat} {cs:List AV} {f:Nat→Value} (hr:∀ (j:Nat) x,cs[j]?=some x→RelV S pl w m x (f j)) (hk:W2 agg s cs K) :
  (if agg then s else 1)≤cs.length∧∃ y,K y∧RelV S pl w m y (if agg then .agg ((List.range s).map f).toArray else f 0):=by
 unfold W2 at hk
 cases agg with
 | true =>
  simp only [if_true] at hk ⊢
  refine⟨hk.1,_,hk.2,.agg _ _ (by simp;omega) (fun i x u hx hu=>?_)⟩
  have hi:i < s:=by have:=(List.getElem?_eq_some_iff.1 hx).1;rw [List.length_take] at this;omega
  rw [List.getElem?_take_of_lt hi] at hx
  rw [List.getElem?_map,List.getElem?_range hi] at hu
  simp only [Option.map_some,Option.some.injEq] at hu
  subst hu;exact hr i x hx
 | false =>
  simp only [Bool.false_eq_true,if_false] at hk ⊢
  cases cs with
  | nil=>exact hk.elim
  | cons x r=>exact⟨by simp,x,hk,hr 0 x rfl⟩
theorem z2z (hT:TabOk P T) (h:St X S pl w m) {t s:Nat} (hs:(T.at t).size=s + 1) {x:AV} {a:Value} (hx:RelV S pl w m x a) (hk:W5 (T.at t).agg (s + 1) m x K) :
  ∃ u y,(Instr.loadAt t a).run P w=.ok u w∧K y m∧RelV S pl w m y u:=by
 obtain⟨hkn,hsz,hag,_⟩:=hT.ti (t:=t) (by rw [hs];omega)
 rw [hs] at hsz
 have run:∀ (b o:Nat) (cs:List AV) (f:Nat→Value),(∀ (j:Nat) x,cs[j]?=some x→RelV S pl w m x (f j))→(∀ j,j < cs.length→D8 w b (o + j)=some (f j))→W2 (T.at t).agg (s + 1) cs (fun y=>K y m) →
   ∃ u y,(Instr.loadAt t (.pointer (some ⟨b,o,none⟩))).run P w=.ok u w∧K y m∧RelV S pl w m y u:=by
  intro b o cs f hr hc hk
  obtain⟨hle,y,hy,hrel⟩:=z7t hr hk
  have:=z4r (w:=w) hkn b o f (fun j hj=>hc j (by rw [hag,hsz] at hj;omega))
  unfold Instr.loadAt
  simp only [Sem.run_bind,Instr.sureAddr,Sem.run_pure,Result.andThen_ok,this]
  rw [hag,hsz]
  exact⟨_,y,rfl,hy,hrel⟩
 unfold W5 at hk
 split at hk
 ·rename_i id ver o
  cases hx with | p _ _ _ b q hv hx =>
  split at hk
  ·rename_i v cs hg
   obtain⟨rfl,hk⟩:=hk
   obtain⟨_,hb⟩:=hx _ hg rfl
   obtain⟨hv',h1,h2,hf⟩:=h.inv.ob id _ hg
   have hch:∃ f:Nat→Value,∀ (j:Nat) x,cs[j]?=some x→D8 w (pl id).1 ((pl id).2 + j)=some (f j)∧RelV S pl w m x (f j):=by
    refine⟨fun j=>(D8 w (pl id).1 ((pl id).2 + j)).getD undef,fun j x hx=>?_⟩
    obtain⟨u,hu,hr⟩:=hf j x hx
    dsimp only
    rw [hu];exact⟨rfl,hr⟩
   obtain⟨f,hf⟩:=hch
   refine run b (q + o) (cs.drop o) (fun j=>f (o + j)) (fun j x hx=>?_) (fun j hj=>?_) hk
   ·rw [List.getElem?_drop] at hx;exact (hf _ x hx).2
   ·rw [List.length_drop] at hj
    have:=(hf (o + j) _ (List.getElem?_eq_getElem (by omega))).1
    rw [← hb] at this
    rw [Nat.add_assoc];exact this
  ·exact hk.elim
 ·rename_i cs
  cases hx with | c _ _ hx =>
  cases hx with | rp _ b q g hS hc hr =>
  refine run b q (cs.map .c) g (fun j x hx=>?_) (fun j hj=>hc j (by simpa using hj)) hk
  rw [List.getElem?_map] at hx
  cases hcj:cs[j]? with
  | none=>rw [hcj] at hx;simp at hx
  | some y=>rw [hcj] at hx;simp at hx;subst hx;exact .c _ _ (hr j y hcj)
 ·rename_i id ver i o
  cases hx with | tp _ _ _ _ b q hv hx =>
  split at hk
  ·rename_i v sz es cap pub hg
   obtain⟨rfl,hi,hk⟩:=hk
   obtain⟨sz',es',cap',pub',heq,_,hb,hq⟩:=hx _ hg rfl
   injection heq with _ e1 e2 _ _;subst e1 e2 hb hq
   obtain⟨hv',h0,h1,h2,h3,⟨hl,f,hc,hr⟩,hp⟩:=h.inv.ob id _ hg
   have he:es[i]?=some es[i]:=List.getElem?_eq_getElem hi
   have hd:es.getD i []=es[i]:=by simp [List.getD,he]
   have hlen:=hl i _ he
   rw [hd] at hk
   refine run _ (i * sz + o) (((es[i]).drop o).map .c) (fun j=>f (i * sz + (o + j))) (fun j x hx=>?_) (fun j hj=>?_) hk
   ·rw [List.getElem?_map,List.getElem?_drop] at hx
    cases hcj:es[i][o + j]? with
    | none=>rw [hcj] at hx;simp at hx
    | some y=>rw [hcj] at hx;simp at hx;subst hx;exact .c _ _ (hr i _ _ y he hcj)
   ·rw [List.length_map,List.length_drop] at hj
    have hlt:i * sz + (o + j) < es.length * sz:=by
     have:(i + 1) * sz≤es.length * sz:=Nat.mul_le_mul_right sz hi
     rw [Nat.add_mul] at this;omega
    rw [Nat.add_assoc];exact hc _ hlt
  ·exact hk.elim
 ·exact hk.elim
theorem w1n (hT:TabOk P T) (h:St X S pl w m) {t s:Nat} (hs:(T.at t).size=s + 1) {x:AV} {a:Value} (hx:RelV S pl w m x a) (hk:W5 (T.at t).agg (s + 1) m x K) :
  Did X S pl w m ((Instr.loadAt t a).run P w) K:=by
 obtain⟨u,y,h1,h2,h3⟩:=z2z hT h hs hx hk
 rw [h1];exact Did.same h h2 h3
end
end Go.Proofs.YtioiigabeoaneaaGreat.V
