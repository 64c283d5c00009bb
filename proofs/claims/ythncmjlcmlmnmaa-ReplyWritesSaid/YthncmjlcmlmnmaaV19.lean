/- Plain facts about what the execution leaves: bytes, numbers, lengths. Conditions: none. -/
import Derived.Test.YthncmjlcmlmnmaaVR
import Derived.IntWalk
import Derived.Laws.Bits64
namespace Go.Proofs.Ythncmjlcmlmnmaa.V
open Go
@[simp] theorem bits_u8 : IntKind.u8.bits = 8 := rfl
@[simp] theorem bits_i64 : IntKind.i64.bits = 64 := rfl
@[simp] theorem bits_u64 : IntKind.u64.bits = 64 := rfl
@[simp] theorem natc (n : Nat) : Int.ofNat n = (n : Int) := rfl
theorem i64_id {n : Int} (h : -9223372036854775808 ≤ n ∧ n ≤ 9223372036854775807) : IntKind.i64.wrap n = n := IntWalk.i64_in n h
theorem u64_id {n : Int} (h : 0 ≤ n ∧ n ≤ 18446744073709551615) : IntKind.u64.wrap n = n := IntWalk.u64_in n h
theorem u8_id {n : Int} (h : 0 ≤ n ∧ n ≤ 255) : IntKind.u8.wrap n = n := IntWalk.u8_in n h
@[simp] theorem encB_length (l : List UInt8) : (encB l).length = l.length := by simp [encB]
@[simp] theorem encB_append (a b : List UInt8) : encB (a ++ b) = encB a ++ encB b := by simp [encB]
@[simp] theorem encB_nil : encB [] = [] := rfl
theorem encB_cons (c : UInt8) (l : List UInt8) : encB (c :: l) = [.v (.int .u8 c.toNat)] :: encB l := rfl
theorem encB_u8 (n : Nat) : [[CV.v (.int .u8 (IntKind.u8.wrap (n : Int)))]] = encB [UInt8.ofNat n] := by
  rw [IntKind.wrap_u8]; simp [encB]
theorem encB_get {l : List UInt8} {i : Nat} (h : i < l.length) : (encB l).getD i [] = [.v (.int .u8 (l[i]).toNat)] := by simp [encB, List.getD, h]
@[simp] theorem encB_drop (l : List UInt8) (n : Nat) : (encB l).drop n = encB (l.drop n) := by simp [encB, List.map_drop]
@[simp] theorem encB_take (l : List UInt8) (n : Nat) : (encB l).take n = encB (l.take n) := by simp [encB, List.map_take]
/-- ints as elements -/
def encI (l : List Int) : List (List CV) := l.map fun n => [.v (.int .i64 n)]
@[simp] theorem encI_length (l : List Int) : (encI l).length = l.length := by simp [encI]
theorem encI_get {l : List Int} {i : Nat} (h : i < l.length) : (encI l).getD i [] = [.v (.int .i64 l[i])] := by simp [encI, List.getD, h]
/-- what an int is as a uint64 -/
def uv (n : Int) : Nat := (n % 18446744073709551616).toNat
theorem uv_lt (n : Int) : uv n < 2 ^ 64 := by unfold uv; omega
theorem u64_uv (n : Int) : IntKind.u64.wrap n = (uv n : Int) := by rw [IntKind.wrap_u64]; unfold uv; omega
theorem uv_nat (n : Nat) (h : n < 2 ^ 64) : uv (n : Int) = n := by unfold uv; omega
theorem encB_inj {a b : List UInt8} (h : encB a = encB b) : a = b := by
  unfold encB at h
  refine (List.map_inj_right (fun x y h => ?_)).1 h
  simp at h; exact UInt8.toNat_inj.1 (by exact_mod_cast h)
theorem bytesOf_encB : ∀ l : List UInt8, bytesOf (encB l) = some l
  | [] => rfl
  | c :: l => by rw [encB_cons, bytesOf, bytesOf_encB l]; simp
theorem fdiv_nn (a b : Int) (h : 0 ≤ b) : a.fdiv b = a / b := Int.fdiv_eq_ediv_of_nonneg a h
theorem ofInt_nat (n : Nat) (a : Nat) : (BitVec.ofInt n (a : Int)).toNat = a % 2 ^ n := by simp
theorem bOr_nat (n a b : Nat) (ha : a < 2 ^ n) (hb : b < 2 ^ n) : bOr n (a : Int) (b : Int) = a ||| b := by
  unfold bOr; rw [BitVec.toNat_or, ofInt_nat, ofInt_nat, Nat.mod_eq_of_lt ha, Nat.mod_eq_of_lt hb]
theorem bAnd_nat (n a b : Nat) (ha : a < 2 ^ n) (hb : b < 2 ^ n) : bAnd n (a : Int) (b : Int) = a &&& b := by
  unfold bAnd; rw [BitVec.toNat_and, ofInt_nat, ofInt_nat, Nat.mod_eq_of_lt ha, Nat.mod_eq_of_lt hb]
theorem bXor_nat (n a b : Nat) (ha : a < 2 ^ n) (hb : b < 2 ^ n) : bXor n (a : Int) (b : Int) = a ^^^ b := by
  unfold bXor; rw [BitVec.toNat_xor, ofInt_nat, ofInt_nat, Nat.mod_eq_of_lt ha, Nat.mod_eq_of_lt hb]
theorem or128 (n : Nat) : bOr 8 (IntKind.u8.wrap (n : Int)) 128 = n % 128 + 128 := by
  have h1 : IntKind.u8.wrap (n : Int) = ((n % 256 : Nat) : Int) := by rw [IntKind.wrap_u8]; omega
  have h0 : (128 : Int) = ((128 : Nat) : Int) := rfl
  rw [h1, h0, bOr_nat _ _ _ (by omega) (by omega)]
  have : ∀ x : Fin 256, (x.val ||| 128) = x.val % 128 + 128 := by decide +kernel
  have := this ⟨n % 256, by omega⟩
  simp only at this; rw [this]; omega
end Go.Proofs.Ythncmjlcmlmnmaa.V
