/- The law 'CodecDeep' answers true, in plain Lean. Conditions: none. -/
import Derived.Test.YthncmjlcmlmnmaaCDA
import Derived.KernelRfl
namespace Go.Proofs.Ythncmjlcmlmnmaa
open Go V
set_option maxRecDepth 100000
set_option maxHeartbeats 2000000
/-- TakeTerm of a wide term: all is well just if it is not too long. -/
theorem take_good {ρ : Type} (fail : ρ) (n fu : Nat) (hf : n + 5 ≤ fu) (hn : n ≤ 50) (hs : sz n ≤ 2000) : ∃ y, ∀ K : Int → Int → ByteArray → EL → EL → Int → Int → ρ, p18 fail fu K (bW n) = K (wK n) 0 ⟨#[]⟩ [] (wArgs n) y 0 := by
  have := fun K => read_good fail n fu hf [] 0 1 (by omega) (by omega) (by omega) (by omega) K
  simp only [List.append_nil] at this
  refine ⟨binStd .sub .i64 (((bW n).length : Nat) : Int) ((([] : EL).length : Nat) : Int), fun K => ?_⟩
  rw [p18, p65, this, p66, N00, cond_false, cond_false]
theorem take_bad {ρ : Type} (fail : ρ) (n fu : Nat) (hf : n + 5 ≤ fu) (hn : n ≤ 50) (hs : 2000 < sz n) (K : Int → Int → ByteArray → EL → EL → Int → Int → ρ) : p18 fail fu K (bW n) = K 0 0 ⟨#[]⟩ [] [] 0 3 := by
  obtain ⟨a, b, c, l, g, B, q, h⟩ := read_bad fail n fu hf [] 0 1 (by omega) (by omega) (by omega) (by omega) (by omega)
  simp only [List.append_nil] at h
  rw [p18, p65, h, p66, N30, cond_true, cond_true]
theorem begun_k (K : Bool → Prop) : p13 (ρ := Prop) False 300 K = K true := by kernel_rfl
section
variable {ρ : Type} (fail : ρ) (fu : Nat) (K : Bool → ρ) {a b : Int} (h : binStd .rem .u8 a 4 = binStd .rem .u8 b 4)
include h
theorem c3 : p4_3 fail fu K a = p4_3 fail fu K b := by funext x y; simp only [p4_3, h]
theorem c4 : ∀ n, p4_4L fail fu K a n = p4_4L fail fu K b n
  | 0 => rfl
  | n + 1 => by funext x y z; simp only [p4_4L, p4_4, c3 fail fu K h, c4 n]
theorem c5 : p4_5 fail fu K a = p4_5 fail fu K b := by funext x y; simp only [p4_5, c3 fail fu K h]
theorem c6 : ∀ n, p4_6L fail fu K a n = p4_6L fail fu K b n
  | 0 => rfl
  | n + 1 => by funext x y z; simp only [p4_6L, p4_6, c5 fail fu K h, c6 n]
theorem cL {c d : Int} (h6 : binStd .rem .u8 c 6 = binStd .rem .u8 d 6) (h3 : binStd .rem .u8 c 3 = binStd .rem .u8 d 3) : p4 fail fu K c a = p4 fail fu K d b := by
  simp only [p4, h, h6, h3, c4 fail fu K h, c6 fail fu K h]
end
theorem e00 : p4 (ρ := Prop) False 300 (fun y => y = true) 0 0 = (true = true) := by kernel_rfl
theorem e01 : p4 (ρ := Prop) False 300 (fun y => y = true) 0 1 = (true = true) := by kernel_rfl
theorem e02 : p4 (ρ := Prop) False 300 (fun y => y = true) 0 2 = (true = true) := by kernel_rfl
theorem e10 : p4 (ρ := Prop) False 300 (fun y => y = true) 1 0 = (true = true) := by kernel_rfl
theorem e11 : p4 (ρ := Prop) False 300 (fun y => y = true) 1 1 = (true = true) := by kernel_rfl
theorem e12 : p4 (ρ := Prop) False 300 (fun y => y = true) 1 2 = (true = true) := by kernel_rfl
theorem e20 : p4 (ρ := Prop) False 300 (fun y => y = true) 2 0 = (true = true) := by kernel_rfl
theorem e21 : p4 (ρ := Prop) False 300 (fun y => y = true) 2 1 = (true = true) := by kernel_rfl
theorem e22 : p4 (ρ := Prop) False 300 (fun y => y = true) 2 2 = (true = true) := by kernel_rfl
theorem e30 : p4 (ρ := Prop) False 300 (fun y => y = true) 3 0 = (true = true) := by kernel_rfl
theorem e31 : p4 (ρ := Prop) False 300 (fun y => y = true) 3 1 = (true = true) := by kernel_rfl
theorem e32 : p4 (ρ := Prop) False 300 (fun y => y = true) 3 2 = (true = true) := by kernel_rfl
theorem e40 : p4 (ρ := Prop) False 300 (fun y => y = true) 4 0 = (true = true) := by kernel_rfl
theorem e41 : p4 (ρ := Prop) False 300 (fun y => y = true) 4 1 = (true = true) := by kernel_rfl
theorem e42 : p4 (ρ := Prop) False 300 (fun y => y = true) 4 2 = (true = true) := by kernel_rfl
theorem e50 : p4 (ρ := Prop) False 300 (fun y => y = true) 5 0 = (true = true) := by kernel_rfl
theorem e51 : p4 (ρ := Prop) False 300 (fun y => y = true) 5 1 = (true = true) := by kernel_rfl
theorem e52 : p4 (ρ := Prop) False 300 (fun y => y = true) 5 2 = (true = true) := by kernel_rfl
end Go.Proofs.Ythncmjlcmlmnmaa

namespace Go.Proofs.Ythncmjlcmlmnmaa
open Go V
set_option maxRecDepth 100000
set_option maxHeartbeats 2000000
theorem sz9 : sz 9 = 1023 := by decide
theorem sz10 : sz 10 = 2047 := by decide
theorem sz11 : sz 11 = 4095 := by decide
theorem wide_all (r : Nat) (hr : r < 3) : p21 (ρ := Prop) False 300 (fun y35 y36 y37 y38 y39 => p17 False 300 (fun y40 => p18 False 300 (fun y41 y42 y43 y44 y45 y46 y47 => p22 False 300 (fun y49 => bif ((cmpStd .eql y47 0) == (cmpStd .leq y49 2000)) then (bif (cmpStd .eql y47 0) then (p4_9 False 300 (fun y => y = true) true) else (p4_9 False 300 (fun y => y = true) (cmpStd .eql y47 3))) else (p4_9 False 300 (fun y => y = true) false)) y35 y36 y37 y38 y39 1048576) y40) nilE y35 y36 y37 y38 y39) ((10 + r : Nat) : Int) := by
  rw [wide_w False 300 _ (10 + r) (by omega) (by omega) (by omega)]
  have hn : 10 + r - 1 ≤ 11 := by omega
  generalize hm : 10 + r - 1 = n at hn ⊢
  have hs : sz n ≤ 4095 := by
    have : n = 9 ∨ n = 10 ∨ n = 11 := by omega
    rcases this with rfl | rfl | rfl
    · rw [sz9]; omega
    · rw [sz10]; omega
    · rw [sz11]; omega
  rw [codecTerm_w False n 300 (by omega) (by omega)]
  by_cases h2 : sz n ≤ 2000
  · obtain ⟨y, hy⟩ := take_good False n 300 (by omega) (by omega) h2
    rw [hy, size_w False n 300 (by omega) 1048576 (by omega) (by omega), E00, cond_true, leq_t (show ((sz n : Nat) : Int) ≤ 2000 by omega)]
    rfl
  · have hf : cmpStd .leq ((sz n : Nat) : Int) 2000 = false := decide_eq_false (by omega)
    rw [take_bad False n 300 (by omega) (by omega) (by omega), size_w False n 300 (by omega) 1048576 (by omega) (by omega), hf, E30]
    rfl
end Go.Proofs.Ythncmjlcmlmnmaa

namespace Go.Proofs.Ythncmjlcmlmnmaa
open Go V
set_option maxRecDepth 100000
set_option maxHeartbeats 2000000
theorem rem_u8 (a b : Int) : binStd .rem .u8 a b = a.tmod b := rfl
def c6K (a c : Int) : Prop := binStd .rem .u8 a 6 = binStd .rem .u8 c 6 ∧ binStd .rem .u8 a 3 = binStd .rem .u8 c 3
def d4K (b d : Int) : Prop := binStd .rem .u8 b 4 = binStd .rem .u8 d 4
theorem c6_of {a c : Int} (h0 : 0 ≤ a) (h1 : 0 ≤ c) (h : a % 6 = c % 6) : c6K a c := by
  unfold c6K
  rw [rem_u8, rem_u8, rem_u8, rem_u8, Int.tmod_eq_emod_of_nonneg h0, Int.tmod_eq_emod_of_nonneg h0, Int.tmod_eq_emod_of_nonneg h1, Int.tmod_eq_emod_of_nonneg h1]
  omega
theorem d4_of {b d : Int} (h0 : 0 ≤ b) (h1 : 0 ≤ d) (h : b % 4 = d % 4) : d4K b d := by
  unfold d4K
  rw [rem_u8, rem_u8, Int.tmod_eq_emod_of_nonneg h0, Int.tmod_eq_emod_of_nonneg h1]
  exact h
theorem key_of {a b c d : Int} (h : c6K a c) (h' : d4K b d) (he : p4 (ρ := Prop) False 300 (fun y => y = true) c d = (true = true)) : p4 (ρ := Prop) False 300 (fun y => y = true) a b := by
  rw [cL False 300 (fun y => y = true) h' h.1 h.2, he]
end Go.Proofs.Ythncmjlcmlmnmaa

namespace Go.Proofs.Ythncmjlcmlmnmaa
open Go V
set_option maxRecDepth 100000
set_option maxHeartbeats 2000000
theorem wide_case (a b : Int) (ha : 0 ≤ a) (hb : 0 ≤ b) (h3 : b % 4 = 3) : p4 (ρ := Prop) False 300 (fun y => y = true) a b := by
  have hr : binStd .rem .u8 b 4 = 3 := by rw [rem_u8, Int.tmod_eq_emod_of_nonneg hb, h3]
  have hq : binStd .rem .u8 a 3 = ((a % 3).toNat : Int) := by rw [rem_u8, Int.tmod_eq_emod_of_nonneg ha]; omega
  have hw : IntKind.i64.wrap (((a % 3).toNat : Nat) : Int) = (((a % 3).toNat : Nat) : Int) := i64_id (by omega)
  have hx : binStd .add .i64 10 (((a % 3).toNat : Nat) : Int) = ((10 + (a % 3).toNat : Nat) : Int) := by rw [addI 10 _ (by omega)]; omega
  have ht := wide_all (a % 3).toNat (by omega)
  rw [p4, begun_k]
  rw [hr, hq, hw, hx]
  rw [Bool.not_true, cond_false, gd_t (show (6 : Int) ≠ 0 by decide), gd_t (show (4 : Int) ≠ 0 by decide), E30, cond_false, E31, cond_false, E32, cond_false, gd_t (show (3 : Int) ≠ 0 by decide)]
  exact ht
theorem deep_pure (a b : Int) (ha : 0 ≤ a ∧ a ≤ 255) (hb : 0 ≤ b ∧ b ≤ 255) : p4 (ρ := Prop) False 300 (fun y => y = true) a b := by
  by_cases h3 : b % 4 = 3
  · exact wide_case a b ha.1 hb.1 h3
  have h6 : a % 6 = 0 ∨ a % 6 = 1 ∨ a % 6 = 2 ∨ a % 6 = 3 ∨ a % 6 = 4 ∨ a % 6 = 5 := by omega
  have h4 : b % 4 = 0 ∨ b % 4 = 1 ∨ b % 4 = 2 := by omega
  rcases h6 with h6 | h6 | h6 | h6 | h6 | h6
  · rcases h4 with h4 | h4 | h4
    · exact key_of (c6_of (c := 0) ha.1 (by decide) h6) (d4_of (d := 0) hb.1 (by decide) h4) e00
    · exact key_of (c6_of (c := 0) ha.1 (by decide) h6) (d4_of (d := 1) hb.1 (by decide) h4) e01
    · exact key_of (c6_of (c := 0) ha.1 (by decide) h6) (d4_of (d := 2) hb.1 (by decide) h4) e02
  · rcases h4 with h4 | h4 | h4
    · exact key_of (c6_of (c := 1) ha.1 (by decide) h6) (d4_of (d := 0) hb.1 (by decide) h4) e10
    · exact key_of (c6_of (c := 1) ha.1 (by decide) h6) (d4_of (d := 1) hb.1 (by decide) h4) e11
    · exact key_of (c6_of (c := 1) ha.1 (by decide) h6) (d4_of (d := 2) hb.1 (by decide) h4) e12
  · rcases h4 with h4 | h4 | h4
    · exact key_of (c6_of (c := 2) ha.1 (by decide) h6) (d4_of (d := 0) hb.1 (by decide) h4) e20
    · exact key_of (c6_of (c := 2) ha.1 (by decide) h6) (d4_of (d := 1) hb.1 (by decide) h4) e21
    · exact key_of (c6_of (c := 2) ha.1 (by decide) h6) (d4_of (d := 2) hb.1 (by decide) h4) e22
  · rcases h4 with h4 | h4 | h4
    · exact key_of (c6_of (c := 3) ha.1 (by decide) h6) (d4_of (d := 0) hb.1 (by decide) h4) e30
    · exact key_of (c6_of (c := 3) ha.1 (by decide) h6) (d4_of (d := 1) hb.1 (by decide) h4) e31
    · exact key_of (c6_of (c := 3) ha.1 (by decide) h6) (d4_of (d := 2) hb.1 (by decide) h4) e32
  · rcases h4 with h4 | h4 | h4
    · exact key_of (c6_of (c := 4) ha.1 (by decide) h6) (d4_of (d := 0) hb.1 (by decide) h4) e40
    · exact key_of (c6_of (c := 4) ha.1 (by decide) h6) (d4_of (d := 1) hb.1 (by decide) h4) e41
    · exact key_of (c6_of (c := 4) ha.1 (by decide) h6) (d4_of (d := 2) hb.1 (by decide) h4) e42
  · rcases h4 with h4 | h4 | h4
    · exact key_of (c6_of (c := 5) ha.1 (by decide) h6) (d4_of (d := 0) hb.1 (by decide) h4) e50
    · exact key_of (c6_of (c := 5) ha.1 (by decide) h6) (d4_of (d := 1) hb.1 (by decide) h4) e51
    · exact key_of (c6_of (c := 5) ha.1 (by decide) h6) (d4_of (d := 2) hb.1 (by decide) h4) e52
end Go.Proofs.Ythncmjlcmlmnmaa
