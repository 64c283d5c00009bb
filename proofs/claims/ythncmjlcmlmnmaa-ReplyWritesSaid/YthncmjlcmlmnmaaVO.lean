/- The abstract execution again, over an unknown record of what is not to be unfolded: so 'cbv' goes through the code and stops where a step wants a thought. At the record that is meant it is the execution of V0. Conditions: none. -/
import Derived.Test.YthncmjlcmlmnmaaV17
namespace Go.Proofs.Ythncmjlcmlmnmaa.V
open Go

abbrev EL := List (List CV)
structure Ops where
  wrap : IntKind → Int → Int
  bin : BinOp → IntKind → Int → Int → Int
  cmp : BinOp → Int → Int → Bool
  un : UnOp → IntKind → Int → Int
  bnot : Bool → Bool
  beq2 : Bool → Bool → Bool
  least : Bool → Int → Int → Int
  nz : Int → Prop
  ile : Int → Int → Prop
  ilt : Int → Int → Prop
  nle : Nat → Nat → Prop
  plus : Nat → Nat → Nat
  times : Nat → Nat → Nat
  itimes : Int → Nat → Int
  toN : Int → Nat
  least2 : Nat → Nat → Nat
  sadd : ByteArray → ByteArray → ByteArray
  scmp : BinOp → ByteArray → ByteArray → Bool
  ssz : ByteArray → Nat
  sext : ByteArray → Nat → Nat → ByteArray
  sget : ByteArray → Nat → Int
  ofb : ByteArray → EL
  tob : EL → (ByteArray → Prop) → Prop
  len : EL → Nat
  take : Nat → EL → EL
  view : Nat → EL → (EL → Prop) → Prop
  drop : Nat → EL → EL
  app : EL → EL → EL
  rep : Nat → List CV → EL
  setE : EL → Nat → Nat → List CV → EL
  width : EL → Nat → Nat
  over : EL → EL → Nat → EL
  elem : EL → Nat → (List CV → Prop) → Prop
  emp : EL → (Unit → Prop) → (Unit → Prop) → Prop
  br : Bool → (Unit → Prop) → (Unit → Prop) → Prop
  agree : List Nat → Mem → Mem → Prop
  call : Nat → Mem → FuncId → List AV → KK → Prop
  loop : Code → List AV → Mem → KX → Prop
  sub : List CV → Nat → Nat → (List CV → Prop) → Prop
  drawn : Array Oper → List AV → Mem → (List AV → Mem → Prop) → Prop
  reg : Array Oper → List AV → Mem → (List AV → Mem → Prop) → Prop
  join : (List AV → Mem → Prop) → List AV → Mem → Prop
  toI : Nat → Int
  neq : Nat → Nat → Prop
  hiOk : Bool → Int → Nat → Nat → Prop
  nat : Nat → Nat → (Nat → Prop) → Prop
  and2 : Bool → Bool → Bool
  alt : (Unit → Prop) → (Unit → Prop) → Prop
  lzE : (Unit → EL) → EL
  lzI : (Unit → Int) → Int
  lzN : (Unit → Nat) → Nat
  lzS : (Unit → ByteArray) → ByteArray
  lzB : (Unit → Bool) → Bool

/-- Bits of numbers, named. -/
def bOr (n : Nat) (a b : Int) : Nat := (BitVec.ofInt n a ||| BitVec.ofInt n b).toNat
def bAnd (n : Nat) (a b : Int) : Nat := (BitVec.ofInt n a &&& BitVec.ofInt n b).toNat
def bXor (n : Nat) (a b : Int) : Nat := (BitVec.ofInt n a ^^^ BitVec.ofInt n b).toNat
def bAndNot (n : Nat) (a b : Int) : Nat := (BitVec.ofInt n a &&& ~~~ BitVec.ofInt n b).toNat
def binStd (op : BinOp) (k : IntKind) (a b : Int) : Int := match op with
  | .shl => k.wrap (a * 2 ^ (min b.toNat k.bits))
  | .shr => a.fdiv (2 ^ (min b.toNat k.bits))
  | .add => k.wrap (a + b)
  | .sub => k.wrap (a - b)
  | .mul => k.wrap (a * b)
  | .quo => k.wrap (a.tdiv b)
  | .rem => a.tmod b
  | .and => k.wrap (bAnd k.bits a b)
  | .or => k.wrap (bOr k.bits a b)
  | .xor => k.wrap (bXor k.bits a b)
  | .andNot => k.wrap (bAndNot k.bits a b)
  | _ => 0
def cmpStd (op : BinOp) (a b : Int) : Bool := match op with
  | .eql => a == b
  | .neq => a != b
  | .lss => decide (a < b)
  | .leq => decide (a ≤ b)
  | .gtr => decide (a > b)
  | .geq => decide (a ≥ b)
  | _ => false
def scmpStd (op : BinOp) (a b : ByteArray) : Bool := match op with
  | .eql => a.toList == b.toList
  | .neq => !(a.toList == b.toList)
  | .lss => Op.bytesLess a.toList b.toList
  | .leq => Op.bytesLess a.toList b.toList || a.toList == b.toList
  | .gtr => !(Op.bytesLess a.toList b.toList || a.toList == b.toList)
  | .geq => !(Op.bytesLess a.toList b.toList)
  | _ => false
def unStd (op : UnOp) (k : IntKind) (n : Int) : Int := match op with
  | .neg => k.wrap (0 - n)
  | .xor => k.wrap (BitVec.ofInt k.bits (if k.signed then -1 else k.max) ^^^ BitVec.ofInt k.bits n).toNat
  | _ => 0
def std (B : Nat) (T : Tab) (G : Glob) (D : Spec) : Ops where
  wrap k n := k.wrap n
  bin := binStd
  cmp := cmpStd
  un := unStd
  bnot b := !b
  beq2 a b := a == b
  least mx a b := if mx then (if b > a then b else a) else (if b < a then b else a)
  nz b := b ≠ 0
  ile a b := a ≤ b
  ilt a b := a < b
  nle a b := a ≤ b
  plus a b := a + b
  times a b := a * b
  itimes a b := a * b
  toN a := a.toNat
  least2 a b := min a b
  sadd a b := a ++ b
  scmp := scmpStd
  ssz s := s.size
  sext s l h := s.extract l h
  sget s i := ((s.data.toList.getD i 0).toNat : Nat)
  ofb s := encB s.data.toList
  tob es K := match bytesOf es with | some b => K ⟨b.toArray⟩ | none => False
  len es := es.length
  take n es := es.take n
  view n es K := n ≤ es.length ∧ K (es.take n)
  drop n es := es.drop n
  app a b := a ++ b
  rep n z := List.replicate n z
  setE es i o ys := es.set i (putAt (es.getD i []) o ys)
  width es i := (es.getD i []).length
  over ns es n := ns.take n ++ es.drop n
  elem es i K := K (es.getD i [])
  emp es A B := if es = [] then A () else B ()
  br v A B := (v = true → A ()) ∧ (v = false → B ())
  agree := Agree
  call site m f args K := callW D site m f args K
  loop c tm m K := execW B T G D (.loop c) tm m K
  sub cs i z K := K (cs.drop (i * z))
  drawn ops tm m K := drawnW T G D ops tm m (Join B K)
  reg ops tm m K := opsW T G D ops.toList ops.toList tm m (Join B K)
  join := Join B
  toI n := n
  neq a b := a = b
  hiOk c h n l := h ≤ n ∨ c = true ∧ h ≤ l
  nat j _ K := K j
  and2 a b := a && b
  alt A B := A () ∨ B ()
  lzE f := f ()
  lzI f := f ()
  lzN f := f ()
  lzS f := f ()
  lzB f := f ()
end Go.Proofs.Ythncmjlcmlmnmaa.V
