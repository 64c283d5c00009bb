/- Rows of cells, read. Printed by gen.py. Conditions: none. -/
import Derived.Test.YthncmjlcmlmnmaaVW
namespace Go.Proofs.Ythncmjlcmlmnmaa
open Go V
def rw_i64_i64_l3 {ρ : Type} (fail : ρ) (r : List CV) (k : Int → Int → EL → ρ) : ρ := match r with
  | [.v (.int .i64 c0), .v (.int .i64 c1), .sl 3 c2 none] => k c0 c1 c2
  | _ => fail
theorem rw_i64_i64_l3_inv {r : List CV} {k : Int → Int → EL → Prop} (h : rw_i64_i64_l3 False r k) : ∃ (c0 : Int) (c1 : Int) (c2 : EL), r = [.v (.int .i64 c0), .v (.int .i64 c1), .sl 3 c2 none] ∧ k c0 c1 c2 := by
  unfold rw_i64_i64_l3 at h; split at h
  · exact ⟨_, _, _, rfl, h⟩
  · exact h.elim
def rw_i64_i64_s_l3_l5 {ρ : Type} (fail : ρ) (r : List CV) (k : Int → Int → ByteArray → EL → EL → ρ) : ρ := match r with
  | [.v (.int .i64 c0), .v (.int .i64 c1), .v (.string c2), .sl 3 c3 none, .sl 5 c4 none] => k c0 c1 c2 c3 c4
  | _ => fail
theorem rw_i64_i64_s_l3_l5_inv {r : List CV} {k : Int → Int → ByteArray → EL → EL → Prop} (h : rw_i64_i64_s_l3_l5 False r k) : ∃ (c0 : Int) (c1 : Int) (c2 : ByteArray) (c3 : EL) (c4 : EL), r = [.v (.int .i64 c0), .v (.int .i64 c1), .v (.string c2), .sl 3 c3 none, .sl 5 c4 none] ∧ k c0 c1 c2 c3 c4 := by
  unfold rw_i64_i64_s_l3_l5 at h; split at h
  · exact ⟨_, _, _, _, _, rfl, h⟩
  · exact h.elim
def rw_i64 {ρ : Type} (fail : ρ) (r : List CV) (k : Int → ρ) : ρ := match r with
  | [.v (.int .i64 c0)] => k c0
  | _ => fail
theorem rw_i64_inv {r : List CV} {k : Int → Prop} (h : rw_i64 False r k) : ∃ (c0 : Int), r = [.v (.int .i64 c0)] ∧ k c0 := by
  unfold rw_i64 at h; split at h
  · exact ⟨_, rfl, h⟩
  · exact h.elim
def rw_u8 {ρ : Type} (fail : ρ) (r : List CV) (k : Int → ρ) : ρ := match r with
  | [.v (.int .u8 c0)] => k c0
  | _ => fail
theorem rw_u8_inv {r : List CV} {k : Int → Prop} (h : rw_u8 False r k) : ∃ (c0 : Int), r = [.v (.int .u8 c0)] ∧ k c0 := by
  unfold rw_u8 at h; split at h
  · exact ⟨_, rfl, h⟩
  · exact h.elim
def rw_s_i64_i64_s_l3_l5 {ρ : Type} (fail : ρ) (r : List CV) (k : ByteArray → Int → Int → ByteArray → EL → EL → ρ) : ρ := match r with
  | [.v (.string c0), .v (.int .i64 c1), .v (.int .i64 c2), .v (.string c3), .sl 3 c4 none, .sl 5 c5 none] => k c0 c1 c2 c3 c4 c5
  | _ => fail
theorem rw_s_i64_i64_s_l3_l5_inv {r : List CV} {k : ByteArray → Int → Int → ByteArray → EL → EL → Prop} (h : rw_s_i64_i64_s_l3_l5 False r k) : ∃ (c0 : ByteArray) (c1 : Int) (c2 : Int) (c3 : ByteArray) (c4 : EL) (c5 : EL), r = [.v (.string c0), .v (.int .i64 c1), .v (.int .i64 c2), .v (.string c3), .sl 3 c4 none, .sl 5 c5 none] ∧ k c0 c1 c2 c3 c4 c5 := by
  unfold rw_s_i64_i64_s_l3_l5 at h; split at h
  · exact ⟨_, _, _, _, _, _, rfl, h⟩
  · exact h.elim
def rw_s {ρ : Type} (fail : ρ) (r : List CV) (k : ByteArray → ρ) : ρ := match r with
  | [.v (.string c0)] => k c0
  | _ => fail
theorem rw_s_inv {r : List CV} {k : ByteArray → Prop} (h : rw_s False r k) : ∃ (c0 : ByteArray), r = [.v (.string c0)] ∧ k c0 := by
  unfold rw_s at h; split at h
  · exact ⟨_, rfl, h⟩
  · exact h.elim
end Go.Proofs.Ythncmjlcmlmnmaa
