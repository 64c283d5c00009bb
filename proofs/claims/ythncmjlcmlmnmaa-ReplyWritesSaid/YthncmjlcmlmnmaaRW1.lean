/- Numbers in seven bits a byte: how they are laid and read, in plain Lean. Conditions: none. -/
import Derived.Test.YthncmjlcmlmnmaaVX
import Derived.Test.YthncmjlcmlmnmaaVW
import Derived.Test.YthncmjlcmlmnmaaG
import Derived.Test.YthncmjlcmlmnmaaPR
namespace Go.Proofs.Ythncmjlcmlmnmaa
open Go V
set_option maxRecDepth 10000
/-- A number's bytes. -/
def varB (v : Nat) : List UInt8 := if v < 128 then [UInt8.ofNat v] else UInt8.ofNat (v % 128 + 128) :: varB (v / 128)
termination_by v
/-- What begins bytes: a number and how many bytes it has, or what is wrong; i bytes of it stand before. -/
def tv : Nat → List UInt8 → Except Int (Nat × Nat)
  | _, [] => .error 2
  | i, c :: cs =>
    if i = 9 ∧ 1 < c.toNat then .error 4
    else if 128 ≤ c.toNat then (match tv (i + 1) cs with | .ok (v, k) => .ok (c.toNat - 128 + 128 * v, k + 1) | .error e => .error e)
    else if c.toNat = 0 ∧ 0 < i then .error 5
    else .ok (c.toNat, 1)
theorem varB_len (v : Nat) : 1 ≤ (varB v).length := by unfold varB; split <;> simp
theorem varB_lt {v : Nat} (h : v < 128) : varB v = [UInt8.ofNat v] := by unfold varB; rw [if_pos h]
theorem varB_ge {v : Nat} (h : 128 ≤ v) : varB v = UInt8.ofNat (v % 128 + 128) :: varB (v / 128) := by rw [varB]; rw [if_neg (by omega)]
theorem tv_pos : ∀ (bs : List UInt8) (i v k : Nat), tv i bs = .ok (v, k) → 1 ≤ k ∧ k ≤ bs.length
  | [], _, _, _, h => by simp [tv] at h
  | c :: cs, i, v, k, h => by
    simp only [tv] at h
    split at h
    · cases h
    · split at h
      · split at h
        · rename_i v' k' h'
          injection h with h; injection h with h1 h2; subst h2
          have := tv_pos cs (i + 1) v' k' h'
          simp; omega
        · cases h
      · split at h
        · cases h
        · injection h with h; injection h with h1 h2; subst h2; simp
theorem tv_err : ∀ (bs : List UInt8) (i : Nat) (e : Int), tv i bs = .error e → e = 2 ∨ e = 4 ∨ e = 5
  | [], _, _, h => by simp [tv] at h; exact .inl h.symm
  | c :: cs, i, e, h => by
    simp only [tv] at h
    split at h
    · injection h with h; exact .inr (.inl h.symm)
    · split at h
      · split at h
        · cases h
        · rename_i e' h'; injection h with h; subst h; exact tv_err cs _ _ h'
      · split at h
        · injection h with h; exact .inr (.inr h.symm)
        · cases h
theorem tv_lt : ∀ (bs : List UInt8) (i v k : Nat), i ≤ 9 → tv i bs = .ok (v, k) → v * 2 ^ (7 * i) < 2 ^ 64
  | [], _, _, _, _, h => by simp [tv] at h
  | c :: cs, i, v, k, hi, h => by
    simp only [tv] at h
    have hc := c.toNat_lt
    split at h
    · cases h
    · rename_i h9
      split at h
      · rename_i hc2
        split at h
        · rename_i v' k' h'
          injection h with h; injection h with h1 h2; subst h1
          have hi' : i ≠ 9 := fun q => h9 ⟨q, by omega⟩
          have := tv_lt cs (i + 1) v' k' (by omega) h'
          have hp : 2 ^ (7 * (i + 1)) = 128 * 2 ^ (7 * i) := by rw [show 7 * (i + 1) = 7 * i + 7 by omega, Nat.pow_add]; omega
          rw [hp] at this
          have h64 : 2 ^ 64 = 2 ^ (64 - 7 * i) * 2 ^ (7 * i) := by rw [← Nat.pow_add]; congr 1; omega
          have hq : 2 ^ (64 - 7 * i) = 128 * 2 ^ (57 - 7 * i) := by rw [show 64 - 7 * i = 7 + (57 - 7 * i) by omega, Nat.pow_add]
          have hpos : 0 < 2 ^ (7 * i) := Nat.two_pow_pos _
          have hv : v' < 2 ^ (57 - 7 * i) := by
            rw [h64, hq] at this
            have h2 : (128 * v') * 2 ^ (7 * i) < (128 * 2 ^ (57 - 7 * i)) * 2 ^ (7 * i) := by
              calc (128 * v') * 2 ^ (7 * i) = v' * (128 * 2 ^ (7 * i)) := by rw [Nat.mul_comm 128 v', Nat.mul_assoc]
                _ < _ := this
            have := Nat.lt_of_mul_lt_mul_right h2
            omega
          rw [h64]
          apply Nat.mul_lt_mul_of_pos_right _ hpos
          rw [hq]; omega
        · cases h
      · rename_i hc2
        split at h
        · cases h
        · injection h with h; injection h with h1 h2; subst h1
          have h64 : 2 ^ 64 = 2 ^ (64 - 7 * i) * 2 ^ (7 * i) := by rw [← Nat.pow_add]; congr 1; omega
          rw [h64]
          apply Nat.mul_lt_mul_of_pos_right _ (Nat.two_pow_pos _)
          by_cases h8 : i = 9
          · subst h8
            have : c.toNat ≤ 1 := by rcases Nat.lt_or_ge 1 c.toNat with q | q; exact absurd ⟨rfl, q⟩ h9; exact q
            show c.toNat < 2 ^ (64 - 63)
            omega
          · have : 2 ^ 7 ≤ 2 ^ (64 - 7 * i) := Nat.pow_le_pow_right (by omega) (by omega)
            omega
theorem tv_u64 {bs : List UInt8} {v k : Nat} (h : tv 0 bs = .ok (v, k)) : v < 2 ^ 64 := by have := tv_lt bs 0 v k (by omega) h; simpa using this
/-- What is read is what is written. -/
theorem tv_only : ∀ (bs : List UInt8) (i v k : Nat), tv i bs = .ok (v, k) → bs.take k = varB v ∧ (0 < i → 0 < v)
  | [], _, _, _, h => by simp [tv] at h
  | c :: cs, i, v, k, h => by
    simp only [tv] at h
    have hc := c.toNat_lt
    split at h
    · cases h
    · split at h
      · rename_i hc2
        split at h
        · rename_i v' k' h'
          injection h with h; injection h with h1 h2; subst h1; subst h2
          obtain ⟨h3, h4⟩ := tv_only cs (i + 1) v' k' h'
          have h5 := h4 (by omega)
          refine ⟨?_, fun _ => by omega⟩
          rw [varB_ge (by omega), List.take_succ_cons, h3]
          congr 1
          · rw [show (c.toNat - 128 + 128 * v') % 128 + 128 = c.toNat by omega]; exact UInt8.ofNat_toNat.symm
          · congr 1; omega
        · cases h
      · split at h
        · cases h
        · rename_i hc2 hz
          injection h with h; injection h with h1 h2; subst h1; subst h2
          refine ⟨?_, fun hi => Nat.pos_of_ne_zero fun q => hz ⟨q, hi⟩⟩
          rw [varB_lt (by omega)]
          simp
theorem u8_nat {n : Nat} (h : n < 256) : (UInt8.ofNat n).toNat = n := by simp; omega
/-- What is written is read. -/
theorem tv_back : ∀ (v : Nat), ∀ (i : Nat) (r : List UInt8), i ≤ 9 → v * 2 ^ (7 * i) < 2 ^ 64 → (0 < i → 0 < v) → tv i (varB v ++ r) = .ok (v, (varB v).length) := by
  intro v
  induction v using Nat.strongRecOn with
  | ind v ih =>
    intro i r hi hv h0
    have hp : 2 ^ (7 * (i + 1)) = 128 * 2 ^ (7 * i) := by rw [show 7 * (i + 1) = 7 * i + 7 by omega, Nat.pow_add]; omega
    have h9 : i = 9 → v ≤ 1 := fun q => by subst q; have : (2 : Nat) ^ 64 = 2 * 2 ^ (7 * 9) := by decide
                                           rw [this] at hv; have := Nat.lt_of_mul_lt_mul_right hv; omega
    by_cases h : v < 128
    · rw [varB_lt h]
      simp only [List.cons_append, List.nil_append, tv, u8_nat (show v < 256 by omega)]
      rw [if_neg (fun q => by have := h9 q.1; omega), if_neg (by omega), if_neg (fun q => by have := h0 q.2; omega)]
      rfl
    · rw [varB_ge (by omega)]
      simp only [List.cons_append, tv, u8_nat (show v % 128 + 128 < 256 by omega)]
      have hi9 : i ≠ 9 := fun q => by have := h9 q; omega
      have h2 : v / 128 * 2 ^ (7 * (i + 1)) < 2 ^ 64 := by
        rw [hp, ← Nat.mul_assoc]
        exact Nat.lt_of_le_of_lt (Nat.mul_le_mul_right _ (Nat.div_mul_le_self v 128)) hv
      rw [if_neg (fun q => hi9 q.1), if_pos (by omega), ih (v / 128) (by omega) (i + 1) r (by omega) h2 (fun _ => by omega)]
      simp only [List.length_cons]
      congr 2; omega
/-- What is cut off ends too soon. -/
theorem tv_cut : ∀ (v : Nat), ∀ (i n : Nat), i ≤ 9 → v * 2 ^ (7 * i) < 2 ^ 64 → n < (varB v).length → tv i ((varB v).take n) = .error 2 := by
  intro v
  induction v using Nat.strongRecOn with
  | ind v ih =>
    intro i n hi hv hn
    have hp : 2 ^ (7 * (i + 1)) = 128 * 2 ^ (7 * i) := by rw [show 7 * (i + 1) = 7 * i + 7 by omega, Nat.pow_add]; omega
    have h9 : i = 9 → v ≤ 1 := fun q => by subst q; have : (2 : Nat) ^ 64 = 2 * 2 ^ (7 * 9) := by decide
                                           rw [this] at hv; have := Nat.lt_of_mul_lt_mul_right hv; omega
    by_cases h : v < 128
    · rw [varB_lt h] at hn ⊢
      simp at hn; subst hn; rfl
    · rw [varB_ge (by omega)] at hn ⊢
      cases n with
      | zero => rfl
      | succ n =>
        have hi9 : i ≠ 9 := fun q => by have := h9 q; omega
        have h2 : v / 128 * 2 ^ (7 * (i + 1)) < 2 ^ 64 := by
          rw [hp, ← Nat.mul_assoc]
          exact Nat.lt_of_le_of_lt (Nat.mul_le_mul_right _ (Nat.div_mul_le_self v 128)) hv
        simp only [List.take_succ_cons, tv, u8_nat (show v % 128 + 128 < 256 by omega)]
        rw [if_neg (fun q => hi9 q.1), if_pos (by omega), ih (v / 128) (by omega) (i + 1) n (by omega) h2 (by simpa using hn)]
end Go.Proofs.Ythncmjlcmlmnmaa

namespace Go.Proofs.Ythncmjlcmlmnmaa
open Go V
set_option maxRecDepth 100000
set_option maxHeartbeats 4000000
def p139_1 {ρ : Type} (fail : ρ) (fu : Nat)  (K0 : Int → Int → Int → ρ)  (z3 : Int) (j6 : Int) (j7 : Bool) : ρ :=
  bif j7 then (K0 0 0 5) else (K0 j6 (binStd .add .i64 z3 1) 0)
def p139_2 {ρ : Type} (fail : ρ) (fu : Nat)  (K0 : Int → Int → Int → ρ) (rec1 : Int → Int → Int → ρ) (z1 : Int) (z2 : Int) (z3 : Int) (c4 : Int) (j5 : Bool) : ρ :=
  bif j5 then (K0 0 0 4) else (gd ((0 : Int) ≤ (IntKind.u64.wrap (binStd .mul .i64 7 z3))) fail (bif (cmpStd .geq c4 128) then (rec1 (binStd .or .u64 z1 (binStd .shl .u64 (IntKind.u64.wrap (binStd .andNot .u8 c4 128)) (IntKind.u64.wrap (binStd .mul .i64 7 z3)))) z2 (binStd .add .i64 z3 1)) else (bif (cmpStd .eql c4 0) then (p139_1 fail fu  K0 z3 (binStd .or .u64 z1 (binStd .shl .u64 (IntKind.u64.wrap (binStd .andNot .u8 c4 128)) (IntKind.u64.wrap (binStd .mul .i64 7 z3)))) (cmpStd .gtr z3 0)) else (p139_1 fail fu  K0 z3 (binStd .or .u64 z1 (binStd .shl .u64 (IntKind.u64.wrap (binStd .andNot .u8 c4 128)) (IntKind.u64.wrap (binStd .mul .i64 7 z3)))) false))))
def p139_3 {ρ : Type} (fail : ρ) (fu : Nat)  (K0 : Int → Int → Int → ρ) (rec1 : Int → Int → Int → ρ) (x0 : EL) (z1 : Int) (z2 : Int) (z3 : Int) : ρ :=
  bif (cmpStd .lss z3 z2) then (gd ((0 : Int) ≤ z3) fail (gd ((z3 : Int) < (x0.length : Nat)) fail (rw_u8 fail (List.getD x0 ((z3 : Int).toNat) []) (fun c4 => bif (cmpStd .eql z3 9) then (p139_2 fail fu  K0 rec1 z1 z2 z3 c4 (cmpStd .gtr c4 1)) else (p139_2 fail fu  K0 rec1 z1 z2 z3 c4 false))))) else (K0 0 0 2)
def p139_3L {ρ : Type} (fail : ρ) (fu : Nat)  (K0 : Int → Int → Int → ρ)  (x0 : EL) : Nat → Int → Int → Int → ρ
  | 0, _, _, _ => fail
  | n + 1, z1, z2, z3 => p139_3 fail fu  K0 (p139_3L fail fu  K0  x0 n) x0 z1 z2 z3
/-- octet.TakeVar -/
def p139 {ρ : Type} (fail : ρ) (fu : Nat)  (K0 : Int → Int → Int → ρ) (x0 : EL) : ρ :=
  p139_3L fail fu  K0 x0 fu 0 ((x0.length : Nat) : Int) 0
theorem d_p139 (fu : Nat)  {K0 : Int → Int → Int → Prop} (L : EL → Nat) (hN : L = List.length) {x0 : EL} (h : p139 False fu K0 x0) : Den Try.prog G0 139 [.c (.sl 1 x0 none)] (fun r bs => (∃ (y0 : Int) (y1 : Int) (y2 : Int) (o0 : OV), (r = .tup [.c (.v (.int .u64 y0)), .c (.v (.int .i64 y1)), .c (.v (.int .i64 y2))] ∧ bs = [o0]) ∧ K0 y0 y1 y2)) := by
  obtain ⟨O, hO⟩ : ∃ O, O = std 0 T G0 (Den Try.prog G0) := ⟨_, rfl⟩
  have hLO : L = O.len := by rw [hN, hO]; rfl
  subst hLO
  refine den_h hO tiA mixed tabOk (fn := Try.f139) (sh := true) (by kernel_rfl) rfl rfl rfl rfl ?_
  intro Q hQ
  unfold p139 at h
  conv => cbv
  refine loop_of hO tiA [2, 7, 8, 9] [] [] (fun (n : Nat) tm m => ∃ (z1 : Int) (z2 : Int) (z3 : Int), ((tm = frame 0 43 [(2, .c (.v (.int .u64 z1))), (7, .c (.sl 1 x0 none)), (8, .c (.v (.int .i64 z2))), (9, .c (.v (.int .i64 z3)))] ∧ m = ⟨[], 1⟩)) ∧ p139_3L False fu  K0 x0 n z1 z2 z3) (fun n => n) fu ⟨0, ((x0.length : Nat) : Int), 0, ⟨(by (conv => lhs; cbv) <;> (subst hO; rfl)), (by (conv => lhs; cbv) <;> (subst hO; rfl))⟩, h⟩ ?_
  rintro n1 tm m L ⟨z1, z2, z3, hs, h⟩ hLn1
  cases n1 with
  | zero => rw [p139_3L] at h; exact h.elim
  | succ n1 =>
    rw [p139_3L] at h
    unfold p139_3 at h
    obtain ⟨rfl, rfl⟩ := hs
    conv => cbv
    refine br_h hO h (by subst hO; rfl) (fun hc1 h => ?_) (fun hc1 h => ?_)
    · conv => cbv
      refine join_all hO ?_
      conv => cbv
      refine and_h h (fun g => (by subst hO; exact g)) (fun h => ?_)
      refine and_h h (fun g => (by subst hO; exact g)) (fun h => ?_)
      obtain ⟨c4, hr, h⟩ := rw_u8_inv h
      refine elem_of hO _ (by subst hO; exact hr) ?_
      clear hr
      conv => cbv
      refine reg_join hO tiA [2, 5, 6, 7, 8, 9, 19] [] [] (fun tm m => ∃ (j5 : Bool), ((tm = frame 0 43 [(2, .c (.v (.int .u64 z1))), (5, .c (.v (.int .i64 z3))), (6, .c (.v (.int .u8 c4))), (7, .c (.sl 1 x0 none)), (8, .c (.v (.int .i64 z2))), (9, .c (.v (.int .i64 z3))), (19, .c (.v (.bool j5)))] ∧ m = ⟨[], 1⟩)) ∧ p139_2 False fu  K0 (p139_3L False fu  K0  x0 n1) z1 z2 z3 c4 j5) (fun L hL_2 => ?_) ?_
      · conv => cbv
        refine br_h hO h (by subst hO; rfl) (fun hc6 h => ?_) (fun hc6 h => ?_)
        · conv => cbv
          refine br_t hO hc6 ?_
          conv => cbv
          refine br_t hO hc6 ?_
          conv => cbv
          exact hL_2 _ _ ⟨(cmpStd .gtr c4 1), ⟨(by (conv => lhs; cbv) <;> (subst hO; rfl)), (by (conv => lhs; cbv) <;> (subst hO; rfl))⟩, h⟩
        · conv => cbv
          refine br_f hO hc6 ?_
          conv => cbv
          refine br_f hO hc6 ?_
          conv => cbv
          exact hL_2 _ _ ⟨false, ⟨(by (conv => lhs; cbv) <;> (subst hO; rfl)), (by (conv => lhs; cbv) <;> (subst hO; rfl))⟩, h⟩
      · rintro tm m ⟨j5, hs, h⟩
        unfold p139_2 at h
        obtain ⟨rfl, rfl⟩ := hs
        conv => cbv
        refine br_h hO h (by subst hO; rfl) (fun hc2 h => ?_) (fun hc2 h => ?_)
        · conv => cbv
          rw [hQ]
          exact ⟨0, 0, 4, _, ⟨(by subst hO; rfl), (by subst hO; rfl)⟩, h⟩
        · conv => cbv
          refine join_all hO ?_
          conv => cbv
          refine and_h h (fun g => (by subst hO; exact g)) (fun h => ?_)
          refine br_h hO h (by subst hO; rfl) (fun hc3 h => ?_) (fun hc3 h => ?_)
          · conv => cbv
            refine join_all hO ?_
            conv => cbv
            exact hLn1 n1 _ _ (Nat.lt_succ_self n1) ⟨binStd .or .u64 z1 (binStd .shl .u64 (IntKind.u64.wrap (binStd .andNot .u8 c4 128)) (IntKind.u64.wrap (binStd .mul .i64 7 z3))), z2, binStd .add .i64 z3 1, ⟨(by (conv => lhs; cbv) <;> (subst hO; rfl)), (by (conv => lhs; cbv) <;> (subst hO; rfl))⟩, h⟩
          · conv => cbv
            refine reg_join hO tiA [2, 5, 35] [] [] (fun tm m => ∃ (j6 : Int) (j7 : Bool), ((tm = frame 0 43 [(2, .c (.v (.int .u64 j6))), (5, .c (.v (.int .i64 z3))), (35, .c (.v (.bool j7)))] ∧ m = ⟨[], 1⟩)) ∧ p139_1 False fu  K0 z3 j6 j7) (fun L hL_1 => ?_) ?_
            · conv => cbv
              refine br_h hO h (by subst hO; rfl) (fun hc5 h => ?_) (fun hc5 h => ?_)
              · conv => cbv
                refine br_t hO hc5 ?_
                conv => cbv
                refine br_t hO hc5 ?_
                conv => cbv
                exact hL_1 _ _ ⟨binStd .or .u64 z1 (binStd .shl .u64 (IntKind.u64.wrap (binStd .andNot .u8 c4 128)) (IntKind.u64.wrap (binStd .mul .i64 7 z3))), (cmpStd .gtr z3 0), ⟨(by (conv => lhs; cbv) <;> (subst hO; rfl)), (by (conv => lhs; cbv) <;> (subst hO; rfl))⟩, h⟩
              · conv => cbv
                refine br_f hO hc5 ?_
                conv => cbv
                refine br_f hO hc5 ?_
                conv => cbv
                exact hL_1 _ _ ⟨binStd .or .u64 z1 (binStd .shl .u64 (IntKind.u64.wrap (binStd .andNot .u8 c4 128)) (IntKind.u64.wrap (binStd .mul .i64 7 z3))), false, ⟨(by (conv => lhs; cbv) <;> (subst hO; rfl)), (by (conv => lhs; cbv) <;> (subst hO; rfl))⟩, h⟩
            · rintro tm m ⟨j6, j7, hs, h⟩
              unfold p139_1 at h
              obtain ⟨rfl, rfl⟩ := hs
              conv => cbv
              refine br_h hO h (by subst hO; rfl) (fun hc4 h => ?_) (fun hc4 h => ?_)
              · conv => cbv
                rw [hQ]
                exact ⟨0, 0, 5, _, ⟨(by subst hO; rfl), (by subst hO; rfl)⟩, h⟩
              · conv => cbv
                rw [hQ]
                exact ⟨j6, binStd .add .i64 z3 1, 0, _, ⟨(by subst hO; rfl), (by subst hO; rfl)⟩, h⟩
    · conv => cbv
      rw [hQ]
      exact ⟨0, 0, 2, _, ⟨(by subst hO; rfl), (by subst hO; rfl)⟩, h⟩
end Go.Proofs.Ythncmjlcmlmnmaa

namespace Go.Proofs.Ythncmjlcmlmnmaa
open Go V
set_option maxRecDepth 100000
set_option maxHeartbeats 4000000
def p94_1 {ρ : Type} (fail : ρ) (fu : Nat)  (K0 : EL → Int → ρ)  (x0 : EL) (j1 : Int) : ρ :=
  K0 x0 j1
/-- (*codec.Reader).Fails -/
def p94 {ρ : Type} (fail : ρ) (fu : Nat)  (K0 : EL → Int → ρ) (x0 : EL) (x1 : Int) (x2 : Int) : ρ :=
  bif (cmpStd .eql x1 0) then (p94_1 fail fu  K0 x0 x2) else (p94_1 fail fu  K0 x0 x1)
theorem d_p94 (fu : Nat)  {K0 : EL → Int → Prop} (L : EL → Nat) (hN : L = List.length) {x0 : EL} {x1 : Int} {x2 : Int} (h : p94 False fu K0 x0 x1 x2) : Den Try.prog G0 94 [.ptr [.c (.sl 1 x0 none), .c (.v (.int .i64 x1))], .c (.v (.int .i64 x2))] (fun r bs => (∃ (y0 : EL) (y1 : Int) (o1 : OV), (r = .tup [] ∧ bs = [.ptr [.c (.sl 1 y0 none), .c (.v (.int .i64 y1))], o1]) ∧ K0 y0 y1)) := by
  obtain ⟨O, hO⟩ : ∃ O, O = std 1 T G0 (Den Try.prog G0) := ⟨_, rfl⟩
  have hLO : L = O.len := by rw [hN, hO]; rfl
  subst hLO
  refine den_h hO tiA mixed tabOk (fn := Try.f94) (sh := true) (by kernel_rfl) rfl rfl rfl rfl ?_
  intro Q hQ
  unfold p94 at h
  conv => cbv
  refine br_join_h hO tiA h (by subst hO; rfl) [] [0] [] (fun tm m => ∃ (j1 : Int), ((tm = frame 0 13 [] ∧ m = ⟨[(0, .blk 0 [.c (.sl 1 x0 none), .c (.v (.int .i64 j1))])], 2⟩)) ∧ p94_1 False fu  K0 x0 j1) (fun hc1 h L hL_1 => ?_) (fun hc1 h L hL_1 => ?_) ?_
  · conv => cbv
    exact hL_1 _ _ ⟨x2, ⟨(by (conv => lhs; cbv) <;> (subst hO; rfl)), (by (conv => lhs; cbv) <;> (subst hO; rfl))⟩, h⟩
  · conv => cbv
    exact hL_1 _ _ ⟨x1, ⟨(by (conv => lhs; cbv) <;> (subst hO; rfl)), (by (conv => lhs; cbv) <;> (subst hO; rfl))⟩, h⟩
  · rintro tm m ⟨j1, hs, h⟩
    unfold p94_1 at h
    obtain ⟨rfl, rfl⟩ := hs
    conv => cbv
    rw [hQ]
    exact ⟨x0, j1, _, ⟨(by subst hO; rfl), (by subst hO; rfl)⟩, h⟩
end Go.Proofs.Ythncmjlcmlmnmaa

namespace Go.Proofs.Ythncmjlcmlmnmaa
open Go V
set_option maxRecDepth 100000
set_option maxHeartbeats 4000000
/-- (*codec.Reader).Raw -/
def p116 {ρ : Type} (fail : ρ) (fu : Nat)  (K0 : Int → EL → Int → ρ) (x0 : EL) (x1 : Int) : ρ :=
  bif (cmpStd .neq x1 0) then (K0 0 x0 x1) else (p139 fail fu (fun y1 y2 y3 => p94 fail fu (fun y4 y5 => gd ((0 : Int) ≤ y2) fail (gd ((y2 : Int) ≤ (y4.length : Nat)) fail (gd (((y4.length : Nat) : Int) ≤ (y4.length : Nat)) fail (K0 y1 (List.drop ((y2 : Int).toNat) (List.take (((y4.length : Nat) : Int).toNat) y4)) y5)))) x0 x1 y3) x0)
theorem d_p116 (fu : Nat)  {K0 : Int → EL → Int → Prop} (L : EL → Nat) (hN : L = List.length) {x0 : EL} {x1 : Int} (h : p116 False fu K0 x0 x1) : Den Try.prog G0 116 [.ptr [.c (.sl 1 x0 none), .c (.v (.int .i64 x1))]] (fun r bs => (∃ (y0 : Int) (y1 : EL) (y2 : Int), (r = .c (.v (.int .u64 y0)) ∧ bs = [.ptr [.c (.sl 1 y1 none), .c (.v (.int .i64 y2))]]) ∧ K0 y0 y1 y2)) := by
  obtain ⟨O, hO⟩ : ∃ O, O = std 1 T G0 (Den Try.prog G0) := ⟨_, rfl⟩
  have hLO : L = O.len := by rw [hN, hO]; rfl
  subst hLO
  refine den_h hO tiA mixed tabOk (fn := Try.f116) (sh := true) (by kernel_rfl) rfl rfl rfl rfl ?_
  intro Q hQ
  unfold p116 at h
  conv => cbv
  refine br_h hO h (by subst hO; rfl) (fun hc1 h => ?_) (fun hc1 h => ?_)
  · conv => cbv
    rw [hQ]
    exact ⟨0, x0, x1, ⟨(by subst hO; rfl), (by subst hO; rfl)⟩, h⟩
  · conv => cbv
    refine join_all hO ?_
    conv => cbv
    refine call_h hO [.shut] (d_p139 fu O.len hN h) ?_
    intro os Q hos hQ
    conv => cbv
    refine ⟨(by (rw [hos]) <;> (subst hO; rfl)), ?_⟩
    intro r bs hq
    rw [hQ] at hq
    clear hos hQ h
    obtain ⟨y1, y2, y3, _, ⟨rfl, rfl⟩, h⟩ := hq
    conv => cbv
    refine call_h hO [.ref 2, .shut] (d_p94 fu O.len hN h) ?_
    intro os Q hos hQ
    conv => cbv
    refine ⟨(by (rw [hos]) <;> (subst hO; rfl)), ?_⟩
    intro r bs hq
    rw [hQ] at hq
    clear hos hQ h
    obtain ⟨y4, y5, _, ⟨rfl, rfl⟩, h⟩ := hq
    conv => cbv
    refine and_h h (fun g => (by subst hO; exact g)) (fun h => ?_)
    refine and_h h (fun g => (by subst hO; exact g)) (fun h => ?_)
    refine and_h h (fun g => (by subst hO; exact g)) (fun h => ?_)
    rw [hQ]
    exact ⟨y1, List.drop ((y2 : Int).toNat) (List.take (((y4.length : Nat) : Int).toNat) y4), y5, ⟨(by subst hO; rfl), (by subst hO; rfl)⟩, h⟩
end Go.Proofs.Ythncmjlcmlmnmaa

namespace Go.Proofs.Ythncmjlcmlmnmaa
open Go V
set_option maxRecDepth 100000
set_option maxHeartbeats 4000000
def p93_1 {ρ : Type} (fail : ρ) (fu : Nat)  (K0 : Int → EL → Int → ρ)  (x2 : Int) (y1 : Int) (y2 : EL) (y3 : Int) (j4 : Bool) : ρ :=
  bif j4 then (p94 fail fu (fun y5 y6 => K0 x2 y5 y6) y2 y3 5) else (K0 (IntKind.i64.wrap y1) y2 y3)
/-- (*codec.Reader).Kind -/
def p93 {ρ : Type} (fail : ρ) (fu : Nat)  (K0 : Int → EL → Int → ρ) (x0 : EL) (x1 : Int) (x2 : Int) (x3 : Int) : ρ :=
  p116 fail fu (fun y1 y2 y3 => bif (cmpStd .lss y1 (IntKind.u64.wrap x2)) then (p93_1 fail fu  K0 x2 y1 y2 y3 true) else (p93_1 fail fu  K0 x2 y1 y2 y3 (cmpStd .gtr y1 (IntKind.u64.wrap x3)))) x0 x1
theorem d_p93 (fu : Nat)  {K0 : Int → EL → Int → Prop} (L : EL → Nat) (hN : L = List.length) {x0 : EL} {x1 : Int} {x2 : Int} {x3 : Int} (h : p93 False fu K0 x0 x1 x2 x3) : Den Try.prog G0 93 [.ptr [.c (.sl 1 x0 none), .c (.v (.int .i64 x1))], .c (.v (.int .i64 x2)), .c (.v (.int .i64 x3))] (fun r bs => (∃ (y0 : Int) (y1 : EL) (y2 : Int) (o1 : OV) (o2 : OV), (r = .c (.v (.int .i64 y0)) ∧ bs = [.ptr [.c (.sl 1 y1 none), .c (.v (.int .i64 y2))], o1, o2]) ∧ K0 y0 y1 y2)) := by
  obtain ⟨O, hO⟩ : ∃ O, O = std 1 T G0 (Den Try.prog G0) := ⟨_, rfl⟩
  have hLO : L = O.len := by rw [hN, hO]; rfl
  subst hLO
  refine den_h hO tiA mixed tabOk (fn := Try.f93) (sh := true) (by kernel_rfl) rfl rfl rfl rfl ?_
  intro Q hQ
  unfold p93 at h
  conv => cbv
  refine call_h hO [.ref 2] (d_p116 fu O.len hN h) ?_
  intro os Q hos hQ
  conv => cbv
  refine ⟨(by (rw [hos]) <;> (subst hO; rfl)), ?_⟩
  intro r bs hq
  rw [hQ] at hq
  clear hos hQ h
  obtain ⟨y1, y2, y3, ⟨rfl, rfl⟩, h⟩ := hq
  conv => cbv
  refine reg_join hO tiA [0, 1, 7, 19] [0] [] (fun tm m => ∃ (j4 : Bool), ((tm = frame 0 25 [(0, .p 0 0 0), (1, .c (.v (.int .i64 x2))), (7, .c (.v (.int .u64 y1))), (19, .c (.v (.bool j4)))] ∧ m = ⟨[(0, .blk 0 [.c (.sl 1 y2 none), .c (.v (.int .i64 y3))])], 2⟩)) ∧ p93_1 False fu  K0 x2 y1 y2 y3 j4) (fun L hL_1 => ?_) ?_
  · conv => cbv
    refine br_h hO h (by subst hO; rfl) (fun hc2 h => ?_) (fun hc2 h => ?_)
    · conv => cbv
      refine br_t hO hc2 ?_
      conv => cbv
      refine br_t hO hc2 ?_
      conv => cbv
      refine br_t hO hc2 ?_
      conv => cbv
      refine br_t hO hc2 ?_
      conv => cbv
      exact hL_1 _ _ ⟨true, ⟨(by (conv => lhs; cbv) <;> (subst hO; rfl)), (by (conv => lhs; cbv) <;> (subst hO; rfl))⟩, h⟩
    · conv => cbv
      refine br_f hO hc2 ?_
      conv => cbv
      refine br_f hO hc2 ?_
      conv => cbv
      refine br_f hO hc2 ?_
      conv => cbv
      refine br_f hO hc2 ?_
      conv => cbv
      exact hL_1 _ _ ⟨(cmpStd .gtr y1 (IntKind.u64.wrap x3)), ⟨(by (conv => lhs; cbv) <;> (subst hO; rfl)), (by (conv => lhs; cbv) <;> (subst hO; rfl))⟩, h⟩
  · rintro tm m ⟨j4, hs, h⟩
    unfold p93_1 at h
    obtain ⟨rfl, rfl⟩ := hs
    conv => cbv
    refine br_h hO h (by subst hO; rfl) (fun hc1 h => ?_) (fun hc1 h => ?_)
    · conv => cbv
      refine call_h hO [.ref 2, .shut] (d_p94 fu O.len hN h) ?_
      intro os Q hos hQ
      conv => cbv
      refine ⟨(by (rw [hos]) <;> (subst hO; rfl)), ?_⟩
      intro r bs hq
      rw [hQ] at hq
      clear hos hQ h
      obtain ⟨y5, y6, _, ⟨rfl, rfl⟩, h⟩ := hq
      conv => cbv
      rw [hQ]
      exact ⟨x2, y5, y6, _, _, ⟨(by subst hO; rfl), (by subst hO; rfl)⟩, h⟩
    · conv => cbv
      refine join_all hO ?_
      conv => cbv
      rw [hQ]
      exact ⟨IntKind.i64.wrap y1, y2, y3, _, _, ⟨(by subst hO; rfl), (by subst hO; rfl)⟩, h⟩
end Go.Proofs.Ythncmjlcmlmnmaa

namespace Go.Proofs.Ythncmjlcmlmnmaa
open Go V
set_option maxRecDepth 100000
set_option maxHeartbeats 4000000
/-- (*codec.Reader).Num -/
def p91 {ρ : Type} (fail : ρ) (fu : Nat)  (K0 : Int → EL → Int → ρ) (x0 : EL) (x1 : Int) : ρ :=
  p116 fail fu (fun y1 y2 y3 => bif (cmpStd .gtr y1 1073741824) then (p94 fail fu (fun y4 y5 => K0 0 y4 y5) y2 y3 4) else (K0 (IntKind.i64.wrap y1) y2 y3)) x0 x1
theorem d_p91 (fu : Nat)  {K0 : Int → EL → Int → Prop} (L : EL → Nat) (hN : L = List.length) {x0 : EL} {x1 : Int} (h : p91 False fu K0 x0 x1) : Den Try.prog G0 91 [.ptr [.c (.sl 1 x0 none), .c (.v (.int .i64 x1))]] (fun r bs => (∃ (y0 : Int) (y1 : EL) (y2 : Int), (r = .c (.v (.int .i64 y0)) ∧ bs = [.ptr [.c (.sl 1 y1 none), .c (.v (.int .i64 y2))]]) ∧ K0 y0 y1 y2)) := by
  obtain ⟨O, hO⟩ : ∃ O, O = std 1 T G0 (Den Try.prog G0) := ⟨_, rfl⟩
  have hLO : L = O.len := by rw [hN, hO]; rfl
  subst hLO
  refine den_h hO tiA mixed tabOk (fn := Try.f91) (sh := true) (by kernel_rfl) rfl rfl rfl rfl ?_
  intro Q hQ
  unfold p91 at h
  conv => cbv
  refine call_h hO [.ref 2] (d_p116 fu O.len hN h) ?_
  intro os Q hos hQ
  conv => cbv
  refine ⟨(by (rw [hos]) <;> (subst hO; rfl)), ?_⟩
  intro r bs hq
  rw [hQ] at hq
  clear hos hQ h
  obtain ⟨y1, y2, y3, ⟨rfl, rfl⟩, h⟩ := hq
  conv => cbv
  refine br_h hO h (by subst hO; rfl) (fun hc1 h => ?_) (fun hc1 h => ?_)
  · conv => cbv
    refine call_h hO [.ref 2, .shut] (d_p94 fu O.len hN h) ?_
    intro os Q hos hQ
    conv => cbv
    refine ⟨(by (rw [hos]) <;> (subst hO; rfl)), ?_⟩
    intro r bs hq
    rw [hQ] at hq
    clear hos hQ h
    obtain ⟨y4, y5, _, ⟨rfl, rfl⟩, h⟩ := hq
    conv => cbv
    rw [hQ]
    exact ⟨0, y4, y5, ⟨(by subst hO; rfl), (by subst hO; rfl)⟩, h⟩
  · conv => cbv
    refine join_all hO ?_
    conv => cbv
    rw [hQ]
    exact ⟨IntKind.i64.wrap y1, y2, y3, ⟨(by subst hO; rfl), (by subst hO; rfl)⟩, h⟩
end Go.Proofs.Ythncmjlcmlmnmaa

namespace Go.Proofs.Ythncmjlcmlmnmaa
open Go V
set_option maxRecDepth 100000
set_option maxHeartbeats 4000000
/-- octet.TakeText -/
def p126 {ρ : Type} (fail : ρ) (fu : Nat)  (K0 : EL → Int → Int → ρ) (x0 : EL) (x1 : Int) : ρ :=
  p139 fail fu (fun y1 y2 y3 => bif (cmpStd .neq y3 0) then (K0 nilE 0 y3) else (bif (cmpStd .gtr y1 (IntKind.u64.wrap (if 0 > x1 then 0 else x1))) then (K0 nilE 0 3) else (bif (cmpStd .gtr y1 (IntKind.u64.wrap (binStd .sub .i64 ((x0.length : Nat) : Int) y2))) then (K0 nilE 0 2) else (gd ((0 : Int) ≤ y2) fail (gd ((y2 : Int) ≤ (binStd .add .i64 y2 (IntKind.i64.wrap y1))) fail (gd ((binStd .add .i64 y2 (IntKind.i64.wrap y1) : Int) ≤ (binStd .add .i64 y2 (IntKind.i64.wrap y1))) fail (gd ((binStd .add .i64 y2 (IntKind.i64.wrap y1) : Int) ≤ (x0.length : Nat)) fail (gd (0 = nilE.length) fail (gd ((nilE.length + (List.drop ((y2 : Int).toNat) (List.take ((binStd .add .i64 y2 (IntKind.i64.wrap y1) : Int).toNat) x0)).length) * 1 ≤ 35184372088832) fail (K0 (nilE ++ (List.drop ((y2 : Int).toNat) (List.take ((binStd .add .i64 y2 (IntKind.i64.wrap y1) : Int).toNat) x0))) (binStd .add .i64 y2 (IntKind.i64.wrap y1)) 0)))))))))) x0
theorem d_p126 (fu : Nat)  {K0 : EL → Int → Int → Prop} (L : EL → Nat) (hN : L = List.length) {x0 : EL} {x1 : Int} (h : p126 False fu K0 x0 x1) : Den Try.prog G0 126 [.c (.sl 1 x0 none), .c (.v (.int .i64 x1))] (fun r bs => (∃ (y0 : EL) (y1 : Int) (y2 : Int) (o0 : OV) (o1 : OV), (r = .tup [.c (.sl 1 y0 none), .c (.v (.int .i64 y1)), .c (.v (.int .i64 y2))] ∧ bs = [o0, o1]) ∧ K0 y0 y1 y2)) := by
  obtain ⟨O, hO⟩ : ∃ O, O = std 0 T G0 (Den Try.prog G0) := ⟨_, rfl⟩
  have hLO : L = O.len := by rw [hN, hO]; rfl
  subst hLO
  refine den_h hO tiA mixed tabOk (fn := Try.f126) (sh := true) (by kernel_rfl) rfl rfl rfl rfl ?_
  intro Q hQ
  unfold p126 at h
  conv => cbv
  refine call_h hO [.shut] (d_p139 fu O.len hN h) ?_
  intro os Q hos hQ
  conv => cbv
  refine ⟨(by (rw [hos]) <;> (subst hO; rfl)), ?_⟩
  intro r bs hq
  rw [hQ] at hq
  clear hos hQ h
  obtain ⟨y1, y2, y3, _, ⟨rfl, rfl⟩, h⟩ := hq
  conv => cbv
  refine br_h hO h (by subst hO; rfl) (fun hc1 h => ?_) (fun hc1 h => ?_)
  · conv => cbv
    rw [hQ]
    exact ⟨nilE, 0, y3, _, _, ⟨(by subst hO; rfl), (by subst hO; rfl)⟩, h⟩
  · conv => cbv
    refine br_h hO h (by subst hO; rfl) (fun hc2 h => ?_) (fun hc2 h => ?_)
    · conv => cbv
      rw [hQ]
      exact ⟨nilE, 0, 3, _, _, ⟨(by subst hO; rfl), (by subst hO; rfl)⟩, h⟩
    · conv => cbv
      refine br_h hO h (by subst hO; rfl) (fun hc3 h => ?_) (fun hc3 h => ?_)
      · conv => cbv
        rw [hQ]
        exact ⟨nilE, 0, 2, _, _, ⟨(by subst hO; rfl), (by subst hO; rfl)⟩, h⟩
      · conv => cbv
        refine join_all hO ?_
        conv => cbv
        refine join_all hO ?_
        conv => cbv
        refine join_all hO ?_
        conv => cbv
        refine and_h h (fun g => (by subst hO; exact g)) (fun h => ?_)
        refine and_h h (fun g => (by subst hO; exact g)) (fun h => ?_)
        refine and_h h (fun g => (by subst hO; exact g)) (fun h => ?_)
        refine and_h h (fun g => (by subst hO; exact g)) (fun h => ?_)
        refine and_h h (fun g => (by subst hO; exact g)) (fun h => ?_)
        refine and_h h (fun g => (by subst hO; exact g)) (fun h => ?_)
        refine view_full hO ?_
        conv => cbv
        rw [hQ]
        exact ⟨(nilE ++ (List.drop ((y2 : Int).toNat) (List.take ((binStd .add .i64 y2 (IntKind.i64.wrap y1) : Int).toNat) x0))), binStd .add .i64 y2 (IntKind.i64.wrap y1), 0, _, _, ⟨(by subst hO; rfl), (by subst hO; rfl)⟩, h⟩
end Go.Proofs.Ythncmjlcmlmnmaa

namespace Go.Proofs.Ythncmjlcmlmnmaa
open Go V
set_option maxRecDepth 100000
set_option maxHeartbeats 4000000
/-- (*codec.Reader).Text -/
def p95 {ρ : Type} (fail : ρ) (fu : Nat)  (K0 : EL → EL → Int → ρ) (x0 : EL) (x1 : Int) (x2 : Int) : ρ :=
  bif (cmpStd .neq x1 0) then (K0 nilE x0 x1) else (p126 fail fu (fun y1 y2 y3 => p94 fail fu (fun y4 y5 => gd ((0 : Int) ≤ y2) fail (gd ((y2 : Int) ≤ (y4.length : Nat)) fail (gd (((y4.length : Nat) : Int) ≤ (y4.length : Nat)) fail (K0 y1 (List.drop ((y2 : Int).toNat) (List.take (((y4.length : Nat) : Int).toNat) y4)) y5)))) x0 x1 y3) x0 x2)
theorem d_p95 (fu : Nat)  {K0 : EL → EL → Int → Prop} (L : EL → Nat) (hN : L = List.length) {x0 : EL} {x1 : Int} {x2 : Int} (h : p95 False fu K0 x0 x1 x2) : Den Try.prog G0 95 [.ptr [.c (.sl 1 x0 none), .c (.v (.int .i64 x1))], .c (.v (.int .i64 x2))] (fun r bs => (∃ (y0 : EL) (y1 : EL) (y2 : Int) (o1 : OV), (r = .c (.sl 1 y0 none) ∧ bs = [.ptr [.c (.sl 1 y1 none), .c (.v (.int .i64 y2))], o1]) ∧ K0 y0 y1 y2)) := by
  obtain ⟨O, hO⟩ : ∃ O, O = std 1 T G0 (Den Try.prog G0) := ⟨_, rfl⟩
  have hLO : L = O.len := by rw [hN, hO]; rfl
  subst hLO
  refine den_h hO tiA mixed tabOk (fn := Try.f95) (sh := true) (by kernel_rfl) rfl rfl rfl rfl ?_
  intro Q hQ
  unfold p95 at h
  conv => cbv
  refine br_h hO h (by subst hO; rfl) (fun hc1 h => ?_) (fun hc1 h => ?_)
  · conv => cbv
    rw [hQ]
    exact ⟨nilE, x0, x1, _, ⟨(by subst hO; rfl), (by subst hO; rfl)⟩, h⟩
  · conv => cbv
    refine join_all hO ?_
    conv => cbv
    refine call_h hO [.shut, .shut] (d_p126 fu O.len hN h) ?_
    intro os Q hos hQ
    conv => cbv
    refine ⟨(by (rw [hos]) <;> (subst hO; rfl)), ?_⟩
    intro r bs hq
    rw [hQ] at hq
    clear hos hQ h
    obtain ⟨y1, y2, y3, _, _, ⟨rfl, rfl⟩, h⟩ := hq
    conv => cbv
    refine call_h hO [.ref 2, .shut] (d_p94 fu O.len hN h) ?_
    intro os Q hos hQ
    conv => cbv
    refine ⟨(by (rw [hos]) <;> (subst hO; rfl)), ?_⟩
    intro r bs hq
    rw [hQ] at hq
    clear hos hQ h
    obtain ⟨y4, y5, _, ⟨rfl, rfl⟩, h⟩ := hq
    conv => cbv
    refine and_h h (fun g => (by subst hO; exact g)) (fun h => ?_)
    refine and_h h (fun g => (by subst hO; exact g)) (fun h => ?_)
    refine and_h h (fun g => (by subst hO; exact g)) (fun h => ?_)
    rw [hQ]
    exact ⟨y1, List.drop ((y2 : Int).toNat) (List.take (((y4.length : Nat) : Int).toNat) y4), y5, _, ⟨(by subst hO; rfl), (by subst hO; rfl)⟩, h⟩
end Go.Proofs.Ythncmjlcmlmnmaa

namespace Go.Proofs.Ythncmjlcmlmnmaa
open Go V
set_option maxRecDepth 100000
set_option maxHeartbeats 4000000
def p137_1 {ρ : Type} (fail : ρ) (fu : Nat)  (K0 : EL → Int → Int → ρ)   (j1 : EL) (j2 : Int) (j3 : Int) : ρ :=
  K0 j1 j2 j3
def p137_2 {ρ : Type} (fail : ρ) (fu : Nat)  (K0 : EL → Int → Int → ρ)   (j6 : EL) (j7 : Int) (j8 : Int) : ρ :=
  p137_1 fail fu  K0  j6 j7 j8
/-- (*codec.Reader).part -/
def p137 {ρ : Type} (fail : ρ) (fu : Nat)  (K0 : EL → Int → Int → ρ) (x0 : EL) (x1 : Int) (x2 : Int) (x3 : Int) (x4 : Int) (x5 : Int) : ρ :=
  bif (cmpStd .gtr (binStd .add .i64 x2 1) x3) then (p94 fail fu (fun y4 y5 => p137_1 fail fu  K0  y4 y5 (binStd .add .i64 x2 1)) x0 x1 3) else (bif (cmpStd .gtr x4 x5) then (p94 fail fu (fun y9 y10 => p137_2 fail fu  K0  y9 y10 (binStd .add .i64 x2 1)) x0 x1 6) else (p137_2 fail fu  K0  x0 x1 (binStd .add .i64 x2 1)))
theorem d_p137 (fu : Nat)  {K0 : EL → Int → Int → Prop} (L : EL → Nat) (hN : L = List.length) {x0 : EL} {x1 : Int} {x2 : Int} {x3 : Int} {x4 : Int} {x5 : Int} (h : p137 False fu K0 x0 x1 x2 x3 x4 x5) : Den Try.prog G0 137 [.ptr [.c (.sl 1 x0 none), .c (.v (.int .i64 x1))], .ptr [.c (.v (.int .i64 x2))], .c (.v (.int .i64 x3)), .c (.v (.int .i64 x4)), .c (.v (.int .i64 x5))] (fun r bs => (∃ (y0 : EL) (y1 : Int) (y2 : Int) (o2 : OV) (o3 : OV) (o4 : OV), (r = .tup [] ∧ bs = [.ptr [.c (.sl 1 y0 none), .c (.v (.int .i64 y1))], .ptr [.c (.v (.int .i64 y2))], o2, o3, o4]) ∧ K0 y0 y1 y2)) := by
  obtain ⟨O, hO⟩ : ∃ O, O = std 2 T G0 (Den Try.prog G0) := ⟨_, rfl⟩
  have hLO : L = O.len := by rw [hN, hO]; rfl
  subst hLO
  refine den_h hO tiA mixed tabOk (fn := Try.f137) (sh := true) (by kernel_rfl) rfl rfl rfl rfl ?_
  intro Q hQ
  unfold p137 at h
  conv => cbv
  refine br_join_h hO tiA h (by subst hO; rfl) [] [0, 1] [] (fun tm m => ∃ (j1 : EL) (j2 : Int) (j3 : Int), ((tm = frame 0 29 [] ∧ m = ⟨[(0, .blk 0 [.c (.sl 1 j1 none), .c (.v (.int .i64 j2))]), (1, .blk 1 [.c (.v (.int .i64 j3))])], 3⟩)) ∧ p137_1 False fu  K0  j1 j2 j3) (fun hc1 h L hL_1 => ?_) (fun hc1 h L hL_1 => ?_) ?_
  · conv => cbv
    refine call_h hO [.ref 2, .shut] (d_p94 fu O.len hN h) ?_
    intro os Q hos hQ
    conv => cbv
    refine ⟨(by (rw [hos]) <;> (subst hO; rfl)), ?_⟩
    intro r bs hq
    rw [hQ] at hq
    clear hos hQ h
    obtain ⟨y4, y5, _, ⟨rfl, rfl⟩, h⟩ := hq
    conv => cbv
    exact hL_1 _ _ ⟨y4, y5, binStd .add .i64 x2 1, ⟨(by (conv => lhs; cbv) <;> (subst hO; rfl)), (by (conv => lhs; cbv) <;> (subst hO; rfl))⟩, h⟩
  · conv => cbv
    refine br_join_h hO tiA h (by subst hO; rfl) [] [0, 1] [] (fun tm m => ∃ (j6 : EL) (j7 : Int) (j8 : Int), ((tm = frame 0 29 [] ∧ m = ⟨[(0, .blk 0 [.c (.sl 1 j6 none), .c (.v (.int .i64 j7))]), (1, .blk 1 [.c (.v (.int .i64 j8))])], 3⟩)) ∧ p137_2 False fu  K0  j6 j7 j8) (fun hc2 h L hL_2 => ?_) (fun hc2 h L hL_2 => ?_) ?_
    · conv => cbv
      refine call_h hO [.ref 2, .shut] (d_p94 fu O.len hN h) ?_
      intro os Q hos hQ
      conv => cbv
      refine ⟨(by (rw [hos]) <;> (subst hO; rfl)), ?_⟩
      intro r bs hq
      rw [hQ] at hq
      clear hos hQ h
      obtain ⟨y9, y10, _, ⟨rfl, rfl⟩, h⟩ := hq
      conv => cbv
      exact hL_2 _ _ ⟨y9, y10, binStd .add .i64 x2 1, ⟨(by (conv => lhs; cbv) <;> (subst hO; rfl)), (by (conv => lhs; cbv) <;> (subst hO; rfl))⟩, h⟩
    · conv => cbv
      exact hL_2 _ _ ⟨x0, x1, binStd .add .i64 x2 1, ⟨(by (conv => lhs; cbv) <;> (subst hO; rfl)), (by (conv => lhs; cbv) <;> (subst hO; rfl))⟩, h⟩
    · rintro tm m ⟨j6, j7, j8, hs, h⟩
      unfold p137_2 at h
      obtain ⟨rfl, rfl⟩ := hs
      conv => cbv
      exact hL_1 _ _ ⟨j6, j7, j8, ⟨(by (conv => lhs; cbv) <;> (subst hO; rfl)), (by (conv => lhs; cbv) <;> (subst hO; rfl))⟩, h⟩
  · rintro tm m ⟨j1, j2, j3, hs, h⟩
    unfold p137_1 at h
    obtain ⟨rfl, rfl⟩ := hs
    conv => cbv
    rw [hQ]
    exact ⟨j1, j2, j3, _, _, _, ⟨(by subst hO; rfl), (by subst hO; rfl)⟩, h⟩
end Go.Proofs.Ythncmjlcmlmnmaa

namespace Go.Proofs.Ythncmjlcmlmnmaa
open Go V
set_option maxRecDepth 100000
set_option maxHeartbeats 2000000
theorem gd_y {ρ : Type} {p : Prop} [Decidable p] {f k : ρ} (h : p) : gd p f k = k := if_pos h
theorem eqlT {a b : Int} (h : a = b) : cmpStd .eql a b = true := by subst h; simp [cmpStd]
theorem eqlF {a b : Int} (h : a ≠ b) : cmpStd .eql a b = false := by simp [cmpStd, h]
theorem neqT {a b : Int} (h : a ≠ b) : cmpStd .neq a b = true := by simp [cmpStd, h]
theorem neqF {a b : Int} (h : a = b) : cmpStd .neq a b = false := by subst h; simp [cmpStd]
theorem lssT {a b : Int} (h : a < b) : cmpStd .lss a b = true := decide_eq_true h
theorem lssF {a b : Int} (h : b ≤ a) : cmpStd .lss a b = false := decide_eq_false (by omega)
theorem leqT {a b : Int} (h : a ≤ b) : cmpStd .leq a b = true := decide_eq_true h
theorem leqF {a b : Int} (h : b < a) : cmpStd .leq a b = false := decide_eq_false (by omega)
theorem gtrT {a b : Int} (h : b < a) : cmpStd .gtr a b = true := decide_eq_true h
theorem gtrF {a b : Int} (h : a ≤ b) : cmpStd .gtr a b = false := decide_eq_false (by omega)
theorem geqT {a b : Int} (h : b ≤ a) : cmpStd .geq a b = true := decide_eq_true h
theorem geqF {a b : Int} (h : a < b) : cmpStd .geq a b = false := decide_eq_false (by omega)
theorem addZ {a b : Int} (h1 : -4611686018427387904 ≤ a ∧ a ≤ 4611686018427387903) (h2 : -4611686018427387904 ≤ b ∧ b ≤ 4611686018427387903) : binStd .add .i64 a b = a + b := i64_id (by omega)
theorem subZ {a b : Int} (h1 : -4611686018427387904 ≤ a ∧ a ≤ 4611686018427387903) (h2 : -4611686018427387904 ≤ b ∧ b ≤ 4611686018427387903) : binStd .sub .i64 a b = a - b := i64_id (by omega)
theorem mulZ {a b : Int} (h : -4611686018427387904 ≤ a * b ∧ a * b ≤ 4611686018427387903) : binStd .mul .i64 a b = a * b := i64_id (by omega)
theorem andnot_lo (c : UInt8) : binStd .andNot .u8 (c.toNat : Nat) 128 = ((c.toNat % 128 : Nat) : Int) := by
  have : ∀ x : Fin 256, binStd .andNot .u8 (x.val : Nat) 128 = ((x.val % 128 : Nat) : Int) := by decide +kernel
  exact this ⟨c.toNat, c.toNat_lt⟩
/-- A part more of a number. -/
theorem u64_nat (n : Nat) (h : n < 2 ^ 64) : IntKind.u64.wrap ((n : Nat) : Int) = ((n : Nat) : Int) := by
  have h' : n < 18446744073709551616 := h
  exact u64_id (by omega)
theorem or_shl (a m i : Nat) (ha : a < 2 ^ (7 * i)) (hi : i ≤ 9) (hm : m * 2 ^ (7 * i) < 2 ^ 64) : binStd .or .u64 (a : Nat) (binStd .shl .u64 (m : Nat) ((7 * i : Nat) : Int)) = ((a + m * 2 ^ (7 * i) : Nat) : Int) := by
  have hs : binStd .shl .u64 (m : Nat) ((7 * i : Nat) : Int) = ((m * 2 ^ (7 * i) : Nat) : Int) := by
    show IntKind.u64.wrap ((m : Int) * 2 ^ (min (((7 * i : Nat) : Int)).toNat 64)) = _
    have hmin : min (((7 * i : Nat) : Int)).toNat 64 = 7 * i := by rw [Int.toNat_natCast]; omega
    have hp : (m : Int) * 2 ^ (7 * i) = ((m * 2 ^ (7 * i) : Nat) : Int) := by rw [Int.natCast_mul, Int.natCast_pow]; rfl
    rw [hmin, hp, u64_nat _ hm]
  rw [hs]
  show IntKind.u64.wrap (bOr 64 _ _ : Nat) = _
  have ha2 : a < 2 ^ 64 := Nat.lt_of_lt_of_le ha (Nat.pow_le_pow_right (by omega) (by omega))
  rw [bOr_nat 64 _ _ ha2 hm]
  have h1 : a ||| m * 2 ^ (7 * i) = a + m * 2 ^ (7 * i) := by
    have := Nat.shiftLeft_add_eq_or_of_lt ha m
    rw [Nat.shiftLeft_eq] at this
    rw [Nat.or_comm, ← this, Nat.add_comm]
  have h2 : a + m * 2 ^ (7 * i) < 2 ^ 64 := by rw [← h1]; exact Nat.or_lt_two_pow ha2 hm
  rw [h1, u64_nat _ h2]
theorem rw_byte {ρ : Type} (fail : ρ) (bs : List UInt8) (i : Nat) (h : i < bs.length) (k : Int → ρ) : rw_u8 fail (List.getD (encB bs) ((i : Int).toNat) []) k = k ((bs[i]).toNat : Nat) := by
  rw [Int.toNat_natCast, encB_get h]; rfl
/-- What the reading of a number comes to. -/
def tvK {ρ : Type} (i a : Nat) (K : Int → Int → Int → ρ) : Except Int (Nat × Nat) → ρ
  | .ok (v, k) => K ((a + v * 2 ^ (7 * i) : Nat) : Int) ((i + k : Nat) : Int) 0
  | .error e => K 0 0 e
theorem takeVar_loop {ρ : Type} (fail : ρ) (fu : Nat) (K : Int → Int → Int → ρ) (bs : List UInt8) (hl : bs.length ≤ 1099511627776) : ∀ (n i a : Nat), i ≤ 9 → i ≤ bs.length → 10 ≤ n + i → a < 2 ^ (7 * i) →
    p139_3L fail fu K (encB bs) n (a : Nat) ((bs.length : Nat) : Int) (i : Nat) = tvK i a K (tv i (bs.drop i)) := by
  intro n
  induction n with
  | zero => intro i a hi; omega
  | succ n ih =>
    intro i a hi hib hn ha
    rw [p139_3L, p139_3]
    by_cases hlt : i < bs.length
    · have hd : bs.drop i = bs[i] :: bs.drop (i + 1) := List.drop_eq_getElem_cons hlt
      rw [lssT (by omega), cond_true, gd_y (by omega), gd_y (by rw [encB_length]; omega), rw_byte fail bs i hlt, hd]
      generalize bs[i] = c
      have hc := c.toNat_lt
      simp only [tv]
      have h7 : binStd .mul .i64 7 (i : Nat) = ((7 * i : Nat) : Int) := by rw [mulZ (by omega)]; omega
      have h7u : IntKind.u64.wrap ((7 * i : Nat) : Int) = ((7 * i : Nat) : Int) := u64_id (by omega)
      have hcu : IntKind.u64.wrap ((c.toNat % 128 : Nat) : Int) = ((c.toNat % 128 : Nat) : Int) := u64_id (by omega)
      have h9 : ∀ b : Bool, (b = decide (i = 9 ∧ 1 < c.toNat)) → p139_2 fail fu K (p139_3L fail fu K (encB bs) n) (a : Nat) ((bs.length : Nat) : Int) (i : Nat) ((c.toNat : Nat) : Int) b = tvK i a K (tv i (c :: bs.drop (i + 1))) := fun b hb => by
        rw [p139_2, h7, h7u, andnot_lo, hcu]
        simp only [tv]
        by_cases h9 : i = 9 ∧ 1 < c.toNat
        · rw [hb, decide_eq_true h9, cond_true, if_pos h9]; rfl
        · rw [hb, decide_eq_false h9, cond_false, if_neg h9, gd_y (by omega)]
          by_cases hc2 : 128 ≤ c.toNat
          · have hi9 : i ≠ 9 := fun q => h9 ⟨q, by omega⟩
            have hp : 2 ^ (7 * (i + 1)) = 128 * 2 ^ (7 * i) := by rw [show 7 * (i + 1) = 7 * i + 7 by omega, Nat.pow_add]; omega
            have hm : c.toNat % 128 * 2 ^ (7 * i) < 128 * 2 ^ (7 * i) := Nat.mul_lt_mul_of_pos_right (by omega) (Nat.two_pow_pos _)
            have hm64 : 128 * 2 ^ (7 * i) ≤ 2 ^ 64 := by rw [← hp]; exact Nat.pow_le_pow_right (by omega) (by omega)
            have hsum : a + c.toNat % 128 * 2 ^ (7 * i) < 2 ^ (7 * (i + 1)) := by
              rw [hp]
              have : c.toNat % 128 * 2 ^ (7 * i) ≤ 127 * 2 ^ (7 * i) := Nat.mul_le_mul_right _ (by omega)
              omega
            rw [geqT (by omega), cond_true, if_pos hc2, or_shl a (c.toNat % 128) i ha hi (by omega), addZ (by omega) (by omega)]
            have := ih (i + 1) (a + c.toNat % 128 * 2 ^ (7 * i)) (by omega) (by omega) (by omega) hsum
            rw [show ((i : Nat) : Int) + 1 = ((i + 1 : Nat) : Int) by omega, this]
            cases tv (i + 1) (bs.drop (i + 1)) with
            | error e => rfl
            | ok x =>
              obtain ⟨v, k⟩ := x
              simp only [tvK]
              rw [show a + c.toNat % 128 * 2 ^ (7 * i) + v * 2 ^ (7 * (i + 1)) = a + (c.toNat - 128 + 128 * v) * 2 ^ (7 * i) by
                rw [hp, show c.toNat % 128 = c.toNat - 128 by omega, Nat.add_mul, Nat.mul_comm 128 v, Nat.mul_assoc v 128]; omega, show i + 1 + k = i + (k + 1) by omega]
          · rw [geqF (by omega), cond_false, if_neg hc2]
            have hmod : c.toNat % 128 = c.toNat := by omega
            have hm : c.toNat * 2 ^ (7 * i) < 2 ^ 64 := by
              by_cases hi9 : i = 9
              · subst hi9
                have : c.toNat ≤ 1 := by rcases Nat.lt_or_ge 1 c.toNat with q | q; exact absurd ⟨rfl, q⟩ h9; exact q
                have h63 : (2 : Nat) ^ 64 = 2 * 2 ^ (7 * 9) := by decide
                have := Nat.mul_le_mul_right (2 ^ (7 * 9)) this
                omega
              · have hp : 2 ^ (7 * (i + 1)) = 128 * 2 ^ (7 * i) := by rw [show 7 * (i + 1) = 7 * i + 7 by omega, Nat.pow_add]; omega
                have hm64 : 128 * 2 ^ (7 * i) ≤ 2 ^ 64 := by rw [← hp]; exact Nat.pow_le_pow_right (by omega) (by omega)
                have : c.toNat * 2 ^ (7 * i) ≤ 127 * 2 ^ (7 * i) := Nat.mul_le_mul_right _ (by omega)
                have hpos := Nat.two_pow_pos (7 * i)
                omega
            rw [hmod, or_shl a c.toNat i ha hi hm]
            by_cases hz : c.toNat = 0
            · rw [eqlT (by omega), cond_true, p139_1]
              by_cases h0 : 0 < i
              · rw [gtrT (by omega), cond_true, if_pos ⟨hz, h0⟩]; rfl
              · rw [gtrF (by omega), cond_false, if_neg (fun q => h0 q.2), addZ (by omega) (by omega)]
                rfl
            · rw [eqlF (by omega), cond_false, p139_1, cond_false, if_neg (fun q => hz q.1), addZ (by omega) (by omega)]
              rfl
      by_cases hi9 : i = 9
      · rw [eqlT (by omega), cond_true]
        exact h9 _ (by rw [Bool.eq_iff_iff]; simp [cmpStd, hi9]; omega)
      · rw [eqlF (by omega), cond_false]
        exact h9 _ (by simp [hi9])
    · rw [lssF (by omega), cond_false, List.drop_eq_nil_of_le (by omega)]; rfl
theorem takeVar_eq {ρ : Type} (fail : ρ) (fu : Nat) (hf : 10 ≤ fu) (K : Int → Int → Int → ρ) (bs : List UInt8) (hl : bs.length ≤ 1099511627776) : p139 fail fu K (encB bs) = tvK 0 0 K (tv 0 bs) := by
  rw [p139, encB_length]
  exact takeVar_loop fail fu K bs hl fu 0 0 (by omega) (by omega) (by omega) (by omega)
/-- A number that begins bytes, and the rest. -/
def rdV (bs : List UInt8) : Except Int (Nat × List UInt8) := match tv 0 bs with | .ok (v, k) => .ok (v, bs.drop k) | .error e => .error e
/-- What a reader's step comes to: a value and the rest, or a junk value, the bytes as they were, and an error. -/
theorem fails0 {ρ : Type} (fail : ρ) (fu : Nat) (K : EL → Int → ρ) (B : EL) (e : Int) : p94 fail fu K B 0 e = K B e := by
  rw [p94, eqlT rfl, cond_true, p94_1]
theorem failsE {ρ : Type} (fail : ρ) (fu : Nat) (K : EL → Int → ρ) (B : EL) (e e' : Int) (h : e ≠ 0) : p94 fail fu K B e e' = K B e := by
  rw [p94, eqlF h, cond_false, p94_1]
def rdK {ρ : Type} (K : Int → EL → Int → ρ) (junk : Int) (B : EL) : Except Int (Nat × List UInt8) → ρ
  | .ok (v, r) => K (v : Nat) (encB r) 0
  | .error e => K junk B e
theorem rdV_err {bs : List UInt8} {e : Int} (h : rdV bs = .error e) : e = 2 ∨ e = 4 ∨ e = 5 := by
  unfold rdV at h; split at h
  · cases h
  · rename_i e' h'; injection h with h; subst h; exact tv_err _ _ _ h'
theorem rdV_ok {bs : List UInt8} {v : Nat} {r : List UInt8} (h : rdV bs = .ok (v, r)) : v < 2 ^ 64 ∧ r.length < bs.length ∧ bs = varB v ++ r := by
  unfold rdV at h; split at h
  · rename_i v' k h'
    injection h with h; injection h with h1 h2; subst h1; subst h2
    have h3 := tv_pos _ _ _ _ h'
    refine ⟨tv_u64 h', by simp; omega, ?_⟩
    rw [← (tv_only _ _ _ _ h').1, List.take_append_drop]
  · cases h
theorem raw_eq {ρ : Type} (fail : ρ) (fu : Nat) (hf : 10 ≤ fu) (K : Int → EL → Int → ρ) (bs : List UInt8) (hl : bs.length ≤ 1099511627776) : p116 fail fu K (encB bs) 0 = rdK K 0 (encB bs) (rdV bs) := by
  rw [p116, neqF rfl, cond_false, takeVar_eq fail fu hf _ bs hl]
  unfold rdV
  cases ht : tv 0 bs with
  | error e =>
    simp only [tvK, fails0]
    rw [gd_y (by omega), gd_y (by omega), gd_y (by omega)]
    simp [rdK]
  | ok x =>
    obtain ⟨v, k⟩ := x
    have := tv_pos _ _ _ _ ht
    simp only [tvK, fails0]
    rw [gd_y (by omega), gd_y (by rw [encB_length]; omega), gd_y (by omega)]
    simp [rdK]
theorem rawE {ρ : Type} (fail : ρ) (fu : Nat) (K : Int → EL → Int → ρ) (B : EL) (e : Int) (h : e ≠ 0) : p116 fail fu K B e = K 0 B e := by
  rw [p116, neqT h, cond_true]
/-- A kind. -/
def rdKind (lo hi : Nat) (bs : List UInt8) : Except Int (Nat × List UInt8) := match rdV bs with
  | .ok (v, r) => if v < lo ∨ hi < v then .error 5 else .ok (v, r)
  | .error e => .error e
/-- What a step of the reader comes to. -/
def KOut {ρ : Type} (p : (Int → EL → Int → ρ) → ρ) (j : Int) : Except Int (Nat × List UInt8) → Prop
  | .ok (v, r) => ∀ K : Int → EL → Int → ρ, p K = K (v : Nat) (encB r) 0
  | .error e => e ≠ 0 ∧ ∃ B, ∀ K : Int → EL → Int → ρ, p K = K j B e
theorem kind_eq {ρ : Type} (fail : ρ) (fu : Nat) (hf : 10 ≤ fu) (bs : List UInt8) (hl : bs.length ≤ 1099511627776) (lo hi : Nat) (h1 : lo ≤ 100) (h2 : hi ≤ 100) :
    KOut (fun K => p93 fail fu K (encB bs) 0 (lo : Nat) (hi : Nat)) (lo : Nat) (rdKind lo hi bs) := by
  have e1 := u64_nat lo (by omega)
  have e2 := u64_nat hi (by omega)
  have hraw := fun K => raw_eq (ρ := ρ) fail fu hf K bs hl
  unfold rdKind
  cases hr : rdV bs with
  | error e =>
    have he := rdV_err hr
    rw [hr] at hraw
    refine ⟨by omega, encB bs, fun K => ?_⟩
    dsimp only
    rw [p93, hraw, e1, e2]
    simp only [rdK]
    by_cases hlo : (0 : Int) < (lo : Nat)
    · rw [lssT hlo, cond_true, p93_1, cond_true, failsE _ _ _ _ _ _ (by omega)]
    · rw [lssF (by omega), cond_false, gtrF (by omega), p93_1, cond_false, i64_id (by omega), show ((lo : Nat) : Int) = 0 by omega]
  | ok x =>
    obtain ⟨v, r⟩ := x
    have hv := (rdV_ok hr).1
    rw [hr] at hraw
    dsimp only
    by_cases hlo : v < lo
    · rw [if_pos (.inl hlo)]
      refine ⟨by omega, encB r, fun K => ?_⟩
      dsimp only
      rw [p93, hraw, e1, e2]
      simp only [rdK]
      rw [lssT (by omega), cond_true, p93_1, cond_true, fails0]
    · by_cases hhi : hi < v
      · rw [if_pos (.inr hhi)]
        refine ⟨by omega, encB r, fun K => ?_⟩
        dsimp only
        rw [p93, hraw, e1, e2]
        simp only [rdK]
        rw [lssF (by omega), cond_false, gtrT (by omega), p93_1, cond_true, fails0]
      · rw [if_neg (by omega)]
        intro K
        dsimp only
        rw [p93, hraw, e1, e2]
        simp only [rdK]
        rw [lssF (by omega), cond_false, gtrF (by omega), p93_1, cond_false, i64_id (by omega)]
theorem kindE {ρ : Type} (fail : ρ) (fu : Nat) (K : Int → EL → Int → ρ) (B : EL) (e : Int) (h : e ≠ 0) (lo hi : Nat) (h1 : lo ≤ 100) (h2 : hi ≤ 100) : p93 fail fu K B e (lo : Nat) (hi : Nat) = K (lo : Nat) B e := by
  rw [p93, rawE _ _ _ _ _ h, u64_id (show (0 : Int) ≤ (lo : Nat) ∧ ((lo : Nat) : Int) ≤ _ by omega), u64_id (show (0 : Int) ≤ (hi : Nat) ∧ ((hi : Nat) : Int) ≤ _ by omega)]
  by_cases hlo : (0 : Int) < (lo : Nat)
  · rw [lssT hlo, cond_true, p93_1, cond_true, failsE _ _ _ _ _ _ h]
  · rw [lssF (by omega), cond_false, gtrF (by omega), p93_1, cond_false, i64_id (by omega), show ((lo : Nat) : Int) = 0 by omega]
/-- A number up to 2^30. -/
def rdNum (bs : List UInt8) : Except Int (Nat × List UInt8) := match rdV bs with
  | .ok (v, r) => if 1073741824 < v then .error 4 else .ok (v, r)
  | .error e => .error e
theorem num_eq {ρ : Type} (fail : ρ) (fu : Nat) (hf : 10 ≤ fu) (bs : List UInt8) (hl : bs.length ≤ 1099511627776) :
    KOut (fun K => p91 fail fu K (encB bs) 0) 0 (rdNum bs) := by
  have hraw := fun K => raw_eq (ρ := ρ) fail fu hf K bs hl
  unfold rdNum
  cases hr : rdV bs with
  | error e =>
    have he := rdV_err hr
    rw [hr] at hraw
    refine ⟨by omega, encB bs, fun K => ?_⟩
    dsimp only
    rw [p91, hraw]
    simp only [rdK]
    rw [gtrF (by omega), cond_false, i64_id (by omega)]
  | ok x =>
    obtain ⟨v, r⟩ := x
    have hv := (rdV_ok hr).1
    rw [hr] at hraw
    dsimp only
    by_cases hhi : 1073741824 < v
    · rw [if_pos hhi]
      refine ⟨by omega, encB r, fun K => ?_⟩
      dsimp only
      rw [p91, hraw]
      simp only [rdK]
      rw [gtrT (by omega), cond_true, fails0]
    · rw [if_neg hhi]
      intro K
      dsimp only
      rw [p91, hraw]
      simp only [rdK]
      rw [gtrF (by omega), cond_false, i64_id (by omega)]
theorem numE {ρ : Type} (fail : ρ) (fu : Nat) (K : Int → EL → Int → ρ) (B : EL) (e : Int) (h : e ≠ 0) : p91 fail fu K B e = K 0 B e := by
  rw [p91, rawE _ _ _ _ _ h, gtrF (by omega), cond_false, i64_id (by omega)]
/-- A text, of at most so many bytes. -/
def rdTxt (most : Nat) (bs : List UInt8) : Except Int (List UInt8 × List UInt8) := match rdV bs with
  | .ok (v, r) => if most < v then .error 3 else if r.length < v then .error 2 else .ok (r.take v, r.drop v)
  | .error e => .error e
def SOut {ρ : Type} (p : (EL → EL → Int → ρ) → ρ) : Except Int (List UInt8 × List UInt8) → Prop
  | .ok (s, r) => ∀ K : EL → EL → Int → ρ, p K = K (encB s) (encB r) 0
  | .error e => e ≠ 0 ∧ ∃ B, ∀ K : EL → EL → Int → ρ, p K = K nilE B e
theorem text_eq {ρ : Type} (fail : ρ) (fu : Nat) (hf : 10 ≤ fu) (bs : List UInt8) (hl : bs.length ≤ 1099511627776) (most : Nat) (hm : most ≤ 1000000) :
    SOut (fun K => p95 fail fu K (encB bs) 0 (most : Nat)) (rdTxt most bs) := by
  have htk := fun K => takeVar_eq (ρ := ρ) fail fu hf K bs hl
  have e1 := u64_nat most (by omega)
  unfold rdTxt rdV
  cases ht : tv 0 bs with
  | error e =>
    have he := tv_err _ _ _ ht
    rw [ht] at htk
    refine ⟨by omega, encB bs, fun K => ?_⟩
    dsimp only
    rw [p95, neqF rfl, cond_false, p126, htk]
    simp only [tvK]
    rw [neqT (show e ≠ 0 by omega), cond_true, fails0, gd_y (by omega), gd_y (by omega), gd_y (by omega)]
    simp
  | ok x =>
    obtain ⟨v, k⟩ := x
    have hk := tv_pos _ _ _ _ ht
    have hv := tv_u64 ht
    rw [ht] at htk
    have hstart : ∀ K : EL → EL → Int → ρ, p95 fail fu K (encB bs) 0 (most : Nat) = bif cmpStd .gtr ((v : Nat) : Int) ((most : Nat) : Int) then K nilE (encB bs) 3 else bif cmpStd .gtr ((v : Nat) : Int) (((bs.length : Nat) : Int) - ((k : Nat) : Int)) then K nilE (encB bs) 2 else
        K (encB ((bs.drop k).take v)) (encB ((bs.drop k).drop v)) 0 := fun K => by
      rw [p95, neqF rfl, cond_false, p126, htk]
      simp only [tvK]
      rw [neqF rfl, cond_false, if_neg (show ¬ (0 : Int) > (most : Nat) by omega), encB_length]
      simp only [Nat.pow_zero, Nat.mul_one, Nat.zero_add, Nat.mul_zero]
      rw [subZ (by omega) (by omega), u64_id (show 0 ≤ ((bs.length : Nat) : Int) - ((k : Nat) : Int) ∧ ((bs.length : Nat) : Int) - ((k : Nat) : Int) ≤ 18446744073709551615 by omega), e1]
      by_cases h1 : most < v
      · rw [gtrT (by omega), cond_true, cond_true, fails0, gd_y (by omega), gd_y (by omega), gd_y (by omega)]
        simp
      · rw [gtrF (show ((v : Nat) : Int) ≤ ((most : Nat) : Int) by omega), cond_false, cond_false]
        by_cases h2 : bs.length - k < v
        · rw [gtrT (by omega), cond_true, cond_true, fails0, gd_y (by omega), gd_y (by omega), gd_y (by omega)]
          simp
        · rw [gtrF (show ((v : Nat) : Int) ≤ ((bs.length : Nat) : Int) - ((k : Nat) : Int) by omega), cond_false, cond_false, i64_id (show -9223372036854775808 ≤ ((v : Nat) : Int) ∧ ((v : Nat) : Int) ≤ 9223372036854775807 by omega), addZ (by omega) (by omega)]
          have hd : List.drop (((k : Nat) : Int)).toNat (List.take ((((k : Nat) : Int) + ((v : Nat) : Int))).toNat (encB bs)) = encB ((bs.drop k).take v) := by
            rw [encB_take, encB_drop, Int.toNat_natCast, show (((k : Nat) : Int) + ((v : Nat) : Int)).toNat = k + v by omega, List.drop_take]
            congr 2; omega
          rw [hd, gd_y (by omega), gd_y (by omega), gd_y (by omega), gd_y (by omega), gd_y (by simp), gd_y (by simp; omega), fails0, gd_y (by omega), gd_y (by rw [encB_length]; omega), gd_y (by omega)]
          rw [List.nil_append, show (((k : Nat) : Int) + ((v : Nat) : Int)).toNat = k + v by omega]
          congr 1
          simp [List.drop_drop]
    dsimp only
    by_cases h1 : most < v
    · rw [if_pos h1]
      refine ⟨by omega, encB bs, fun K => ?_⟩
      dsimp only
      rw [hstart, gtrT (by omega), cond_true]
    · rw [if_neg h1]
      by_cases h2 : (bs.drop k).length < v
      · rw [if_pos h2]
        rw [List.length_drop] at h2
        refine ⟨by omega, encB bs, fun K => ?_⟩
        dsimp only
        rw [hstart, gtrF (by omega), cond_false, gtrT (by omega), cond_true]
      · rw [if_neg h2]
        rw [List.length_drop] at h2
        intro K
        dsimp only
        rw [hstart, gtrF (by omega), cond_false, gtrF (by omega), cond_false]
theorem textE {ρ : Type} (fail : ρ) (fu : Nat) (K : EL → EL → Int → ρ) (B : EL) (e : Int) (h : e ≠ 0) (m : Int) : p95 fail fu K B e m = K nilE B e := by
  rw [p95, neqT h, cond_true]
/-- One part more. -/
theorem part_eq {ρ : Type} (fail : ρ) (fu : Nat) (K : EL → Int → Int → ρ) (B : EL) (p m d md : Nat) (h : p ≤ 1000000 ∧ m ≤ 1000000 ∧ d ≤ 1000000 ∧ md ≤ 1000000) :
    p137 fail fu K B 0 (p : Nat) (m : Nat) (d : Nat) (md : Nat) = K B (if m < p + 1 then 3 else if md < d then 6 else 0) ((p + 1 : Nat) : Int) := by
  rw [p137, addZ (by omega) (by omega), show ((p : Nat) : Int) + 1 = ((p + 1 : Nat) : Int) by omega]
  by_cases h1 : m < p + 1
  · rw [gtrT (by omega), cond_true, fails0, p137_1, if_pos h1]
  · rw [gtrF (by omega), cond_false, if_neg h1]
    by_cases h2 : md < d
    · rw [gtrT (by omega), cond_true, fails0, p137_2, p137_1, if_pos h2]
    · rw [gtrF (by omega), cond_false, p137_2, p137_1, if_neg h2]
end Go.Proofs.Ythncmjlcmlmnmaa
