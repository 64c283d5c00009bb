/- Functions without memory, and that the Go functions are followed by them. Printed by gen.py. Conditions: none. -/
import Derived.Test.YthncmjlcmlmnmaaCW9
import Derived.Test.YthncmjlcmlmnmaaCW14
import Derived.Test.YthncmjlcmlmnmaaCW12
import Derived.Test.YthncmjlcmlmnmaaCW10
import Derived.Test.YthncmjlcmlmnmaaCW11
import Derived.ProofKit
import Derived.WalkKit
import Derived.LoopTactic
import Derived.Lib.Hide
import Derived.KernelRfl
namespace Go.Proofs.Ythncmjlcmlmnmaa
open Go V
set_option maxRecDepth 100000
set_option maxHeartbeats 4000000
def p29_1 {ρ : Type} (fail : ρ) (fu : Nat) (s_p29 : (EL → ρ) → EL → Int → Int → ByteArray → EL → EL → ρ) (K0 : EL → ρ) (rec1 : EL → Int → ρ) (x5 : EL) (z3 : EL) (z4 : Int) : ρ :=
  bif (cmpStd .lss z4 ((x5.length : Nat) : Int)) then (gd ((0 : Int) ≤ z4) fail (gd ((z4 : Int) < (x5.length : Nat)) fail (rw_i64_i64_s_l3_l5 fail (List.getD x5 ((z4 : Int).toNat) []) (fun c5 c6 c7 c8 c9 => s_p29 (fun y10 => rec1 y10 (binStd .add .i64 z4 1)) z3 c5 c6 c7 c8 c9)))) else (K0 z3)
def p29_1L {ρ : Type} (fail : ρ) (fu : Nat) (s_p29 : (EL → ρ) → EL → Int → Int → ByteArray → EL → EL → ρ) (K0 : EL → ρ)  (x5 : EL) : Nat → EL → Int → ρ
  | 0, _, _ => fail
  | n + 1, z3, z4 => p29_1 fail fu s_p29 K0 (p29_1L fail fu s_p29 K0  x5 n) x5 z3 z4
def p29_2 {ρ : Type} (fail : ρ) (fu : Nat) (s_p29 : (EL → ρ) → EL → Int → Int → ByteArray → EL → EL → ρ) (K0 : EL → ρ)  (x5 : EL) (j2 : EL) : ρ :=
  p29_1L fail fu s_p29 K0 x5 fu j2 0
def p29_3 {ρ : Type} (fail : ρ) (fu : Nat) (s_p29 : (EL → ρ) → EL → Int → Int → ByteArray → EL → EL → ρ) (K0 : EL → ρ)  (x5 : EL) (j12 : EL) : ρ :=
  p29_2 fail fu s_p29 K0 x5 j12
def p29_4 {ρ : Type} (fail : ρ) (fu : Nat) (s_p29 : (EL → ρ) → EL → Int → Int → ByteArray → EL → EL → ρ) (K0 : EL → ρ)  (x5 : EL) (j17 : EL) : ρ :=
  p29_3 fail fu s_p29 K0 x5 j17
def p29_5 {ρ : Type} (fail : ρ) (fu : Nat) (s_p29 : (EL → ρ) → EL → Int → Int → ByteArray → EL → EL → ρ) (K0 : EL → ρ) (rec2 : EL → Int → ρ) (x4 : EL) (x5 : EL) (z20 : EL) (z21 : Int) : ρ :=
  bif (cmpStd .lss z21 ((x4.length : Nat) : Int)) then (gd ((0 : Int) ≤ z21) fail (gd ((z21 : Int) < (x4.length : Nat)) fail (rw_i64_i64_l3 fail (List.getD x4 ((z21 : Int).toNat) []) (fun c22 c23 c24 => p28 fail fu (fun y25 => rec2 y25 (binStd .add .i64 z21 1)) z20 c22 c23 c24)))) else (p29_4 fail fu s_p29 K0 x5 z20)
def p29_5L {ρ : Type} (fail : ρ) (fu : Nat) (s_p29 : (EL → ρ) → EL → Int → Int → ByteArray → EL → EL → ρ) (K0 : EL → ρ)  (x4 : EL) (x5 : EL) : Nat → EL → Int → ρ
  | 0, _, _ => fail
  | n + 1, z20, z21 => p29_5 fail fu s_p29 K0 (p29_5L fail fu s_p29 K0  x4 x5 n) x4 x5 z20 z21
/-- ref6.Term -/
def p29_b {ρ : Type} (fail : ρ) (fu : Nat) (s_p29 : (EL → ρ) → EL → Int → Int → ByteArray → EL → EL → ρ) (K0 : EL → ρ) (x0 : EL) (x1 : Int) (x2 : Int) (x3 : ByteArray) (x4 : EL) (x5 : EL) : ρ :=
  p72 fail fu (fun y1 => bif (cmpStd .eql x1 0) then (p72 fail fu (fun y11 => p29_2 fail fu s_p29 K0 x5 y11) y1 x2) else (bif (cmpStd .eql x1 1) then (gd ((0 : Int) ≤ 0) fail (gd ((0 : Int) < (x4.length : Nat)) fail (rw_i64_i64_l3 fail (List.getD x4 ((0 : Int).toNat) []) (fun c13 c14 c15 => p28 fail fu (fun y16 => p29_3 fail fu s_p29 K0 x5 y16) y1 c13 c14 c15)))) else (bif (cmpStd .eql x1 2) then (p73 fail fu (fun y18 => p72 fail fu (fun y19 => p29_5L fail fu s_p29 K0 x4 x5 fu y19 0) y18 ((x4.length : Nat) : Int)) y1 x3) else (p29_4 fail fu s_p29 K0 x5 y1)))) x0 x1
def p29 {ρ : Type} (fail : ρ) : Nat → (EL → ρ) → EL → Int → Int → ByteArray → EL → EL → ρ
  | 0, _, _, _, _, _, _, _ => fail
  | n + 1, K0, x0, x1, x2, x3, x4, x5 => p29_b fail n (p29 fail n) K0 x0 x1 x2 x3 x4 x5
def D_p29 (fu : Nat) : Prop := ∀ {K0 : EL → Prop} (L : EL → Nat) (_ : L = List.length) {x0 : EL} {x1 : Int} {x2 : Int} {x3 : ByteArray} {x4 : EL} {x5 : EL} (_ : p29 False fu K0 x0 x1 x2 x3 x4 x5), Den Try.prog G0 29 [.c (.sl 1 x0 none), .agg [.c (.v (.int .i64 x1)), .c (.v (.int .i64 x2)), .c (.v (.string x3)), .c (.sl 3 x4 none), .c (.sl 5 x5 none)]] (fun r bs => (∃ (y0 : EL) (o0 : OV) (o1 : OV), (r = .c (.sl 1 y0 none) ∧ bs = [o0, o1]) ∧ K0 y0))
theorem b_p29 (fu : Nat) (ih_p29 : D_p29 fu) {K0 : EL → Prop} (L : EL → Nat) (hN : L = List.length) {x0 : EL} {x1 : Int} {x2 : Int} {x3 : ByteArray} {x4 : EL} {x5 : EL} (h : p29_b False fu (p29 False fu) K0 x0 x1 x2 x3 x4 x5) : Den Try.prog G0 29 [.c (.sl 1 x0 none), .agg [.c (.v (.int .i64 x1)), .c (.v (.int .i64 x2)), .c (.v (.string x3)), .c (.sl 3 x4 none), .c (.sl 5 x5 none)]] (fun r bs => (∃ (y0 : EL) (o0 : OV) (o1 : OV), (r = .c (.sl 1 y0 none) ∧ bs = [o0, o1]) ∧ K0 y0)) := by
  obtain ⟨O, hO⟩ : ∃ O, O = std 0 T G0 (Den Try.prog G0) := ⟨_, rfl⟩
  have hLO : L = O.len := by rw [hN, hO]; rfl
  subst hLO
  refine den_h hO tiA mixed tabOk (fn := Try.f29) (sh := true) (by kernel_rfl) rfl rfl rfl rfl ?_
  intro Q hQ
  unfold p29_b at h
  conv => cbv
  refine call_h hO [.shut, .shut] (d_p72 fu O.len hN h) ?_
  intro os Q hos hQ
  conv => cbv
  refine ⟨(by (rw [hos]) <;> (subst hO; rfl)), ?_⟩
  intro r bs hq
  rw [hQ] at hq
  clear hos hQ h
  obtain ⟨y1, _, _, ⟨rfl, rfl⟩, h⟩ := hq
  conv => cbv
  refine br_join_h hO tiA h (by subst hO; rfl) [0, 3] [4000] [] (fun tm m => ∃ (j2 : EL), ((tm = frame 0 66 [(0, .c (.sl 1 j2 none)), (3, .p 4000 0 0)] ∧ m = ⟨[(4000, .blk 0 [.c (.v (.int .i64 x1)), .c (.v (.int .i64 x2)), .c (.v (.string x3)), .c (.sl 3 x4 none), .c (.sl 5 x5 none)])], 1⟩)) ∧ p29_2 False fu (p29 False fu) K0 x5 j2) (fun hc2 h L hL_2 => ?_) (fun hc2 h L hL_2 => ?_) ?_
  · conv => cbv
    refine call_h hO [.shut, .shut] (d_p72 fu O.len hN h) ?_
    intro os Q hos hQ
    conv => cbv
    refine ⟨(by (rw [hos]) <;> (subst hO; rfl)), ?_⟩
    intro r bs hq
    rw [hQ] at hq
    clear hos hQ h
    obtain ⟨y11, _, _, ⟨rfl, rfl⟩, h⟩ := hq
    conv => cbv
    exact hL_2 _ _ ⟨y11, ⟨(by (conv => lhs; cbv) <;> (subst hO; rfl)), (by (conv => lhs; cbv) <;> (subst hO; rfl))⟩, h⟩
  · conv => cbv
    refine br_join_h hO tiA h (by subst hO; rfl) [0, 3] [4000] [] (fun tm m => ∃ (j12 : EL), ((tm = frame 0 66 [(0, .c (.sl 1 j12 none)), (3, .p 4000 0 0)] ∧ m = ⟨[(4000, .blk 0 [.c (.v (.int .i64 x1)), .c (.v (.int .i64 x2)), .c (.v (.string x3)), .c (.sl 3 x4 none), .c (.sl 5 x5 none)])], 1⟩)) ∧ p29_3 False fu (p29 False fu) K0 x5 j12) (fun hc3 h L hL_3 => ?_) (fun hc3 h L hL_3 => ?_) ?_
    · conv => cbv
      refine and_h h (fun g => (by subst hO; exact g)) (fun h => ?_)
      refine and_h h (fun g => (by subst hO; exact g)) (fun h => ?_)
      obtain ⟨c13, c14, c15, hr, h⟩ := rw_i64_i64_l3_inv h
      refine elem_of hO _ (by subst hO; exact hr) ?_
      clear hr
      conv => cbv
      refine call_h hO [.shut, .shut] (d_p28 fu O.len hN h) ?_
      intro os Q hos hQ
      conv => cbv
      refine ⟨(by (rw [hos]) <;> (subst hO; rfl)), ?_⟩
      intro r bs hq
      rw [hQ] at hq
      clear hos hQ h
      obtain ⟨y16, _, _, ⟨rfl, rfl⟩, h⟩ := hq
      conv => cbv
      exact hL_3 _ _ ⟨y16, ⟨(by (conv => lhs; cbv) <;> (subst hO; rfl)), (by (conv => lhs; cbv) <;> (subst hO; rfl))⟩, h⟩
    · conv => cbv
      refine br_join_h hO tiA h (by subst hO; rfl) [0, 3] [4000] [] (fun tm m => ∃ (j17 : EL), ((tm = frame 0 66 [(0, .c (.sl 1 j17 none)), (3, .p 4000 0 0)] ∧ m = ⟨[(4000, .blk 0 [.c (.v (.int .i64 x1)), .c (.v (.int .i64 x2)), .c (.v (.string x3)), .c (.sl 3 x4 none), .c (.sl 5 x5 none)])], 1⟩)) ∧ p29_4 False fu (p29 False fu) K0 x5 j17) (fun hc4 h L hL_4 => ?_) (fun hc4 h L hL_4 => ?_) ?_
      · conv => cbv
        refine drawn_of hO tiA [[], [], []] [(0, true, false), (1, true, false), (2, true, false), (4, true, false), (5, true, false), (6, true, false), (3, false, false), (7, false, true), (8, true, true)] (by kernel_rfl) ?_
        conv => cbv
        refine call_h hO [.shut, .shut] (d_p73 fu O.len hN h) ?_
        intro os Q hos hQ
        conv => cbv
        refine ⟨(by (rw [hos]) <;> (subst hO; rfl)), ?_⟩
        intro r bs hq
        rw [hQ] at hq
        clear hos hQ h
        obtain ⟨y18, _, _, ⟨rfl, rfl⟩, h⟩ := hq
        conv => cbv
        refine ⟨agree_of hO (Nat.le_of_ble_eq_true rfl) rfl, ?_⟩
        refine call_h hO [.shut, .shut] (d_p72 fu O.len hN h) ?_
        intro os Q hos hQ
        conv => cbv
        refine ⟨(by (rw [hos]) <;> (subst hO; rfl)), ?_⟩
        intro r bs hq
        rw [hQ] at hq
        clear hos hQ h
        obtain ⟨y19, _, _, ⟨rfl, rfl⟩, h⟩ := hq
        conv => cbv
        refine join_all hO ?_
        conv => cbv
        refine loop_of hO tiA [0, 3, 5] [4000] [] (fun (n : Nat) tm m => ∃ (z20 : EL) (z21 : Int), ((tm = frame 0 66 [(0, .c (.sl 1 z20 none)), (3, .p 4000 0 0), (5, .c (.v (.int .i64 z21)))] ∧ m = ⟨[(4000, .blk 0 [.c (.v (.int .i64 x1)), .c (.v (.int .i64 x2)), .c (.v (.string x3)), .c (.sl 3 x4 none), .c (.sl 5 x5 none)])], 1⟩)) ∧ p29_5L False fu (p29 False fu) K0 x4 x5 n z20 z21) (fun n => n) fu ⟨y19, 0, ⟨(by (conv => lhs; cbv) <;> (subst hO; rfl)), (by (conv => lhs; cbv) <;> (subst hO; rfl))⟩, h⟩ ?_
        rintro n2 tm m L ⟨z20, z21, hs, h⟩ hLn2
        cases n2 with
        | zero => rw [p29_5L] at h; exact h.elim
        | succ n2 =>
          rw [p29_5L] at h
          unfold p29_5 at h
          obtain ⟨rfl, rfl⟩ := hs
          conv => cbv
          refine br_h hO h (by subst hO; rfl) (fun hc5 h => ?_) (fun hc5 h => ?_)
          · conv => cbv
            refine join_all hO ?_
            conv => cbv
            refine and_h h (fun g => (by subst hO; exact g)) (fun h => ?_)
            refine and_h h (fun g => (by subst hO; exact g)) (fun h => ?_)
            obtain ⟨c22, c23, c24, hr, h⟩ := rw_i64_i64_l3_inv h
            refine elem_of hO _ (by subst hO; exact hr) ?_
            clear hr
            conv => cbv
            refine call_h hO [.shut, .shut] (d_p28 fu O.len hN h) ?_
            intro os Q hos hQ
            conv => cbv
            refine ⟨(by (rw [hos]) <;> (subst hO; rfl)), ?_⟩
            intro r bs hq
            rw [hQ] at hq
            clear hos hQ h
            obtain ⟨y25, _, _, ⟨rfl, rfl⟩, h⟩ := hq
            conv => cbv
            exact hLn2 n2 _ _ (Nat.lt_succ_self n2) ⟨y25, binStd .add .i64 z21 1, ⟨(by (conv => lhs; cbv) <;> (subst hO; rfl)), (by (conv => lhs; cbv) <;> (subst hO; rfl))⟩, h⟩
          · conv => cbv
            exact hL_4 _ _ ⟨z20, ⟨(by (conv => lhs; cbv) <;> (subst hO; rfl)), (by (conv => lhs; cbv) <;> (subst hO; rfl))⟩, h⟩
      · conv => cbv
        exact hL_4 _ _ ⟨y1, ⟨(by (conv => lhs; cbv) <;> (subst hO; rfl)), (by (conv => lhs; cbv) <;> (subst hO; rfl))⟩, h⟩
      · rintro tm m ⟨j17, hs, h⟩
        unfold p29_4 at h
        obtain ⟨rfl, rfl⟩ := hs
        conv => cbv
        exact hL_3 _ _ ⟨j17, ⟨(by (conv => lhs; cbv) <;> (subst hO; rfl)), (by (conv => lhs; cbv) <;> (subst hO; rfl))⟩, h⟩
    · rintro tm m ⟨j12, hs, h⟩
      unfold p29_3 at h
      obtain ⟨rfl, rfl⟩ := hs
      conv => cbv
      exact hL_2 _ _ ⟨j12, ⟨(by (conv => lhs; cbv) <;> (subst hO; rfl)), (by (conv => lhs; cbv) <;> (subst hO; rfl))⟩, h⟩
  · rintro tm m ⟨j2, hs, h⟩
    unfold p29_2 at h
    obtain ⟨rfl, rfl⟩ := hs
    conv => cbv
    refine loop_of hO tiA [0, 3, 6] [4000] [] (fun (n : Nat) tm m => ∃ (z3 : EL) (z4 : Int), ((tm = frame 0 66 [(0, .c (.sl 1 z3 none)), (3, .p 4000 0 0), (6, .c (.v (.int .i64 z4)))] ∧ m = ⟨[(4000, .blk 0 [.c (.v (.int .i64 x1)), .c (.v (.int .i64 x2)), .c (.v (.string x3)), .c (.sl 3 x4 none), .c (.sl 5 x5 none)])], 1⟩)) ∧ p29_1L False fu (p29 False fu) K0 x5 n z3 z4) (fun n => n) fu ⟨j2, 0, ⟨(by (conv => lhs; cbv) <;> (subst hO; rfl)), (by (conv => lhs; cbv) <;> (subst hO; rfl))⟩, h⟩ ?_
    rintro n1 tm m L ⟨z3, z4, hs, h⟩ hLn1
    cases n1 with
    | zero => rw [p29_1L] at h; exact h.elim
    | succ n1 =>
      rw [p29_1L] at h
      unfold p29_1 at h
      obtain ⟨rfl, rfl⟩ := hs
      conv => cbv
      refine br_h hO h (by subst hO; rfl) (fun hc1 h => ?_) (fun hc1 h => ?_)
      · conv => cbv
        refine join_all hO ?_
        conv => cbv
        refine and_h h (fun g => (by subst hO; exact g)) (fun h => ?_)
        refine and_h h (fun g => (by subst hO; exact g)) (fun h => ?_)
        obtain ⟨c5, c6, c7, c8, c9, hr, h⟩ := rw_i64_i64_s_l3_l5_inv h
        refine elem_of hO _ (by subst hO; exact hr) ?_
        clear hr
        conv => cbv
        refine call_h hO [.shut, .shut] (ih_p29 O.len hN h) ?_
        intro os Q hos hQ
        conv => cbv
        refine ⟨(by (rw [hos]) <;> (subst hO; rfl)), ?_⟩
        intro r bs hq
        rw [hQ] at hq
        clear hos hQ h
        obtain ⟨y10, _, _, ⟨rfl, rfl⟩, h⟩ := hq
        conv => cbv
        exact hLn1 n1 _ _ (Nat.lt_succ_self n1) ⟨y10, binStd .add .i64 z4 1, ⟨(by (conv => lhs; cbv) <;> (subst hO; rfl)), (by (conv => lhs; cbv) <;> (subst hO; rfl))⟩, h⟩
      · conv => cbv
        rw [hQ]
        exact ⟨z3, _, _, ⟨(by subst hO; rfl), (by subst hO; rfl)⟩, h⟩
theorem dd_p29 (fu : Nat) : D_p29 fu := by
  induction fu with
  | zero => unfold D_p29; intros; rename_i h; rw [p29] at h; exact h.elim
  | succ n ih =>
    exact (by unfold D_p29; intro K0 L hN x0 x1 x2 x3 x4 x5 h; exact b_p29 n ih L hN (by rw [p29] at h; exact h))
theorem d_p29 (fu : Nat) {K0 : EL → Prop} (L : EL → Nat) (hL : L = List.length) {x0 : EL} {x1 : Int} {x2 : Int} {x3 : ByteArray} {x4 : EL} {x5 : EL} (h : p29 False fu K0 x0 x1 x2 x3 x4 x5) : Den Try.prog G0 29 [.c (.sl 1 x0 none), .agg [.c (.v (.int .i64 x1)), .c (.v (.int .i64 x2)), .c (.v (.string x3)), .c (.sl 3 x4 none), .c (.sl 5 x5 none)]] (fun r bs => (∃ (y0 : EL) (o0 : OV) (o1 : OV), (r = .c (.sl 1 y0 none) ∧ bs = [o0, o1]) ∧ K0 y0)) := dd_p29 fu L hL h
end Go.Proofs.Ythncmjlcmlmnmaa

namespace Go.Proofs.Ythncmjlcmlmnmaa
open Go V
set_option maxRecDepth 100000
set_option maxHeartbeats 2000000
theorem remU (v : Nat) (h : v < 2 ^ 64) : binStd .rem .u64 ((v : Nat) : Int) 128 = ((v % 128 : Nat) : Int) := by
  show ((v : Nat) : Int).tmod 128 = _
  rw [Int.tmod_eq_emod_of_nonneg (by omega)]; omega
theorem quoU (v : Nat) (h : v < 2 ^ 64) : binStd .quo .u64 ((v : Nat) : Int) 128 = ((v / 128 : Nat) : Int) := by
  show IntKind.u64.wrap (((v : Nat) : Int).tdiv 128) = _
  rw [Int.tdiv_eq_ediv_of_nonneg (by omega), show ((v : Nat) : Int) / 128 = ((v / 128 : Nat) : Int) by omega, u64_nat _ (by omega)]
theorem addU8 (n : Nat) (h : n < 128) : binStd .add .u8 (IntKind.u8.wrap ((n : Nat) : Int)) 128 = IntKind.u8.wrap ((n + 128 : Nat) : Int) := by
  show IntKind.u8.wrap (IntKind.u8.wrap ((n : Nat) : Int) + 128) = _
  have h1 : IntKind.u8.wrap ((n : Nat) : Int) = ((n : Nat) : Int) := u8_id (by omega)
  rw [h1, show ((n : Nat) : Int) + 128 = ((n + 128 : Nat) : Int) by omega]
theorem rvar_w {ρ : Type} (fail : ρ) (fu : Nat) (hf : 10 ≤ fu) (K : EL → ρ) (z : EL) (v : Nat) (hv : v < 2 ^ 64) (hz : z.length + 10 ≤ 35184372088832) : p113 fail fu K z (v : Nat) = K (z ++ encB (varB v)) := by
  have h9 : ∀ (j : Nat) (w : Nat) (y : EL), w < 2 ^ 64 → y.length + (varB w).length ≤ 35184372088832 → (varB w).length ≤ j → p113_1L fail fu K j (w : Nat) y = K (y ++ encB (varB w)) := by
    intro j
    induction j with
    | zero => intro w y _ _ h; have := varB_len w; omega
    | succ j ih =>
      intro w y hw hy hj
      rw [p113_1L, p113_1]
      by_cases h1 : w < 128
      · rw [varB_lt h1] at hy
        rw [geqF (by omega), cond_false, gd_y (by simp), gd_y (by simp at hy ⊢; omega), varB_lt h1, ← encB_u8]; rfl
      · rw [varB_ge (by omega), List.length_cons] at hy hj
        rw [geqT (by omega), cond_true, gd_y (by decide), gd_y (by simp), gd_y (by simp; omega), gd_y (by decide), remU w hw, addU8 _ (by omega), quoU w hw]
        have := ih (w / 128) (y ++ List.take 1 [[CV.v (.int .u8 (IntKind.u8.wrap ((w % 128 + 128 : Nat) : Int)))]]) (by omega) (by simp; omega) (by omega)
        rw [this, List.append_assoc]
        exact congrArg (fun q => K (y ++ q)) (varB_step (by omega))
  have h10 := varB_10 hv
  rw [p113, gd_y (by rfl), gd_y (by simp; omega), List.nil_append]
  exact h9 fu v z hv (by omega) (by omega)
theorem rnum_w {ρ : Type} (fail : ρ) (fu : Nat) (hf : 10 ≤ fu) (K : EL → ρ) (z : EL) (v : Int) (hz : z.length + 10 ≤ 35184372088832) : p72 fail fu K z v = K (z ++ encB (varB (uv v))) := by
  rw [p72, u64_uv, rvar_w fail fu hf _ z _ (uv_lt v) hz]
theorem rText_w {ρ : Type} (fail : ρ) (fu : Nat) (hf : 10 ≤ fu) (K : EL → ρ) (s : ByteArray) (z : EL) (hs : s.size < 1099511627776) (hz : z.length + 10 + s.size ≤ 35184372088832) : p90 fail fu K z (List.take s.size (encB s.data.toList)) = K (z ++ encB (txB s)) := by
  have ht : List.take s.size (encB s.data.toList) = encB s.data.toList := List.take_of_length_le (by rw [encB_length, sz_data]; exact Nat.le_refl _)
  have h10 := varB_10 (show s.size < 2 ^ 64 by omega)
  rw [ht, p90, encB_length, sz_data, u64_nat _ (by omega), rvar_w fail fu hf _ z _ (by omega) (by omega), gd_y (by rw [List.length_append, encB_length]; omega), List.append_assoc, ← encB_append]
  rfl
theorem rtext_w {ρ : Type} (fail : ρ) (fu : Nat) (hf : 10 ≤ fu) (K : EL → ρ) (s : ByteArray) (z : EL) (hs : s.size < 1099511627776) (hz : z.length + 10 + s.size ≤ 35184372088832) : p73 fail fu K z s = K (z ++ encB (txB s)) := by
  rw [p73, gsz, rText_w fail fu hf _ s z hs hz]
-- ---------------------------------------------------------------- eight bytes
theorem rlw_loop {ρ : Type} (fail : ρ) (fu : Nat) (K : EL → ρ) (s : (EL → ρ) → EL → Int → Int → EL → ρ) (l : List Lv) (B : Nat) (hs : ∀ a ∈ l, ∀ (K : EL → ρ) (z : EL), z.length + a.enc.length ≤ B → s K z a.k a.n (Lv.rows a.args) = K (z ++ encB a.enc)) :
    ∀ (r i n : Nat) (z : EL), l.length < 1099511627776 → i + r = l.length → r < n → z.length + (Lv.encs (l.drop i)).length ≤ B → p28_1L fail fu s K (Lv.rows l) n z ((i : Nat) : Int) = K (z ++ encB (Lv.encs (l.drop i))) := by
  intro r
  induction r with
  | zero =>
    intro i n z hl hi hn hz
    obtain ⟨n, rfl⟩ : ∃ m, n = m + 1 := ⟨n - 1, by omega⟩
    rw [p28_1L, p28_1, Lv.rows_len, lssF (by omega), cond_false, List.drop_eq_nil_of_le (by omega)]
    simp [Lv.encs]
  | succ r ih =>
    intro i n z hl hi hn hz
    obtain ⟨n, rfl⟩ : ∃ m, n = m + 1 := ⟨n - 1, by omega⟩
    have hlt : i < l.length := by omega
    have hd : l.drop i = l[i] :: l.drop (i + 1) := List.drop_eq_getElem_cons hlt
    rw [hd] at hz ⊢
    simp only [Lv.encs, List.length_append] at hz ⊢
    rw [p28_1L, p28_1, Lv.rows_len, lssT (by omega), cond_true, gd_y (by omega), gd_y (by omega), lv_row fail l i hlt, hs _ (List.getElem_mem hlt) _ z (by omega), addZ (by omega) (by omega), show ((i : Nat) : Int) + 1 = ((i + 1 : Nat) : Int) by omega]
    rw [ih (i + 1) n _ hl (by omega) (by omega) (by rw [List.length_append, encB_length]; omega), List.append_assoc, ← encB_append]
theorem rlevel_w {ρ : Type} (fail : ρ) : ∀ (N : Nat) (l : Lv), l.sz ≤ N → ∀ (fu : Nat) (K : EL → ρ) (z : EL), l.sz + 20 ≤ fu → l.sz < 1099511627776 → z.length + l.enc.length ≤ 35184372088000 → p28 fail fu K z l.k l.n (Lv.rows l.args) = K (z ++ encB l.enc) := by
  intro N
  induction N with
  | zero => intro l h; cases l; simp [Lv.sz] at h
  | succ N ih =>
    intro l hN fu K z hf hsz hz
    obtain ⟨k, n, l⟩ := l
    obtain ⟨m, rfl⟩ : ∃ m, fu = m + 1 := ⟨fu - 1, by omega⟩
    simp only [Lv.sz, Lv.enc, List.length_append] at hN hf hsz hz
    simp only [Lv.k, Lv.n, Lv.args, Lv.enc]
    have hl := Lv.szs_len l
    rw [p28, p28_b]
    generalize hs : p28 fail m = s
    have h10 := varB_10 (uv_lt k)
    have h11 := varB_10 (uv_lt n)
    have loop : ∀ y : EL, y.length + (Lv.encs l).length ≤ 35184372088000 → p28_2 fail m s K (Lv.rows l) y = K (y ++ encB (Lv.encs l)) := fun y hy => by
      rw [p28_2]
      have := rlw_loop fail m K s l 35184372088000 (fun a ha K z hz => by
        have h3 := Lv.szs_mem ha
        rw [← hs]; exact ih a (by omega) m K z (by omega) (by omega) hz) l.length 0 m y (by omega) (by omega) (by omega) (by simpa using hy)
      simpa using this
    rw [rnum_w fail m (by omega) _ z k (by omega)]
    by_cases h4 : k = 4
    · rw [if_pos h4] at hz ⊢
      rw [eqlT h4, cond_true, rnum_w fail m (by omega) _ _ n (by rw [List.length_append, encB_length]; omega), loop _ (by simp only [List.length_append, encB_length]; omega)]
      simp [List.append_assoc]
    · rw [if_neg h4] at hz ⊢
      rw [eqlF h4, cond_false, loop _ (by simp only [List.length_append, encB_length]; simp at hz; omega)]
      simp [List.append_assoc]
theorem rtw_loop {ρ : Type} (fail : ρ) (fu : Nat) (K : EL → ρ) (s : (EL → ρ) → EL → Int → Int → ByteArray → EL → EL → ρ) (l : List Tm) (B : Nat) (hs : ∀ a ∈ l, ∀ (K : EL → ρ) (z : EL), z.length + a.enc.length ≤ B → s K z a.k a.n a.nm (Lv.rows a.ls) (Tm.rows a.args) = K (z ++ encB a.enc)) :
    ∀ (r i n : Nat) (z : EL), l.length < 1099511627776 → i + r = l.length → r < n → z.length + (Tm.encs (l.drop i)).length ≤ B → p29_1L fail fu s K (Tm.rows l) n z ((i : Nat) : Int) = K (z ++ encB (Tm.encs (l.drop i))) := by
  intro r
  induction r with
  | zero =>
    intro i n z hl hi hn hz
    obtain ⟨n, rfl⟩ : ∃ m, n = m + 1 := ⟨n - 1, by omega⟩
    rw [p29_1L, p29_1, Tm.rows_len, lssF (by omega), cond_false, List.drop_eq_nil_of_le (by omega)]
    simp [Tm.encs]
  | succ r ih =>
    intro i n z hl hi hn hz
    obtain ⟨n, rfl⟩ : ∃ m, n = m + 1 := ⟨n - 1, by omega⟩
    have hlt : i < l.length := by omega
    have hd : l.drop i = l[i] :: l.drop (i + 1) := List.drop_eq_getElem_cons hlt
    rw [hd] at hz ⊢
    simp only [Tm.encs, List.length_append] at hz ⊢
    rw [p29_1L, p29_1, Tm.rows_len, lssT (by omega), cond_true, gd_y (by omega), gd_y (by omega), tm_row fail l i hlt, hs _ (List.getElem_mem hlt) _ z (by omega), addZ (by omega) (by omega), show ((i : Nat) : Int) + 1 = ((i + 1 : Nat) : Int) by omega]
    rw [ih (i + 1) n _ hl (by omega) (by omega) (by rw [List.length_append, encB_length]; omega), List.append_assoc, ← encB_append]
theorem rtw_levels {ρ : Type} (fail : ρ) (fu : Nat) (K : EL → ρ) (s : (EL → ρ) → EL → Int → Int → ByteArray → EL → EL → ρ) (l : List Lv) (A : EL) (hfu : Lv.szs l + 20 ≤ fu) (hsz : Lv.szs l < 1099511627776) :
    ∀ (r i n : Nat) (z : EL), i + r = l.length → r < n → z.length + (Lv.encs (l.drop i)).length ≤ 35184372088000 → p29_5L fail fu s K (Lv.rows l) A n z ((i : Nat) : Int) = p29_4 fail fu s K A (z ++ encB (Lv.encs (l.drop i))) := by
  have hl := Lv.szs_len l
  intro r
  induction r with
  | zero =>
    intro i n z hi hn hz
    obtain ⟨n, rfl⟩ : ∃ m, n = m + 1 := ⟨n - 1, by omega⟩
    rw [p29_5L, p29_5, Lv.rows_len, lssF (by omega), cond_false, List.drop_eq_nil_of_le (by omega)]
    simp [Lv.encs]
  | succ r ih =>
    intro i n z hi hn hz
    obtain ⟨n, rfl⟩ : ∃ m, n = m + 1 := ⟨n - 1, by omega⟩
    have hlt : i < l.length := by omega
    have hm := Lv.szs_mem (List.getElem_mem hlt)
    have hd : l.drop i = l[i] :: l.drop (i + 1) := List.drop_eq_getElem_cons hlt
    rw [hd] at hz ⊢
    simp only [Lv.encs, List.length_append] at hz ⊢
    rw [p29_5L, p29_5, Lv.rows_len, lssT (by omega), cond_true, gd_y (by omega), gd_y (by omega), lv_row fail l i hlt, rlevel_w fail _ l[i] (Nat.le_refl _) fu _ z (by omega) (by omega) (by omega), addZ (by omega) (by omega), show ((i : Nat) : Int) + 1 = ((i + 1 : Nat) : Int) by omega]
    rw [ih (i + 1) n _ (by omega) (by omega) (by rw [List.length_append, encB_length]; omega), List.append_assoc, ← encB_append]
theorem rterm_w {ρ : Type} (fail : ρ) : ∀ (N : Nat) (l : Tm), l.sz ≤ N → l.lvOk → ∀ (fu : Nat) (K : EL → ρ) (z : EL), l.sz + 30 ≤ fu → l.sz < 1099511627776 → z.length + l.enc.length ≤ 35184372087000 → p29 fail fu K z l.k l.n l.nm (Lv.rows l.ls) (Tm.rows l.args) = K (z ++ encB l.enc) := by
  intro N
  induction N with
  | zero => intro l h; cases l; simp [Tm.sz] at h
  | succ N ih =>
    intro t hN hok fu K z hf hsz hz
    obtain ⟨k, n, sn, l, a⟩ := t
    obtain ⟨m, rfl⟩ : ∃ m, fu = m + 1 := ⟨fu - 1, by omega⟩
    obtain ⟨ok1, ok2, ok3⟩ := hok
    simp only [Tm.sz, Tm.enc, List.length_append] at hN hf hsz hz
    simp only [Tm.k, Tm.n, Tm.nm, Tm.ls, Tm.args, Tm.enc]
    have hl := Lv.szs_len l
    have ha := Tm.szs_len a
    rw [p29, p29_b]
    generalize hs : p29 fail m = s
    have h10 := varB_10 (uv_lt k)
    have h11 := varB_10 (uv_lt n)
    have h12 := varB_10 (show l.length < 2 ^ 64 by omega)
    have loop : ∀ y : EL, y.length + (Tm.encs a).length ≤ 35184372087000 → p29_2 fail m s K (Tm.rows a) y = K (y ++ encB (Tm.encs a)) := fun y hy => by
      rw [p29_2]
      have := rtw_loop fail m K s a 35184372087000 (fun b hb K z hz => by
        have h3 := Tm.szs_mem hb
        rw [← hs]; exact ih b (by omega) (Tm.lvOks_mem ok3 hb) m K z (by omega) (by omega) hz) a.length 0 m y (by omega) (by omega) (by omega) (by simpa using hy)
      simpa using this
    rw [rnum_w fail m (by omega) _ z k (by omega)]
    by_cases h0 : k = 0
    · have hln := ok2 (by omega) (by omega)
      subst hln
      rw [if_pos h0] at hz ⊢
      rw [eqlT h0, cond_true, rnum_w fail m (by omega) _ _ n (by rw [List.length_append, encB_length]; omega), loop _ (by simp only [List.length_append, encB_length]; simp [Lv.encs] at hz; omega)]
      simp [List.append_assoc, Lv.encs]
    · rw [if_neg h0] at hz ⊢
      rw [eqlF h0, cond_false]
      by_cases h1 : k = 1
      · have hl1 := ok1 h1
        obtain ⟨b, rfl⟩ : ∃ b, l = [b] := by
          match l, hl1 with
          | [b], _ => exact ⟨b, rfl⟩
        rw [if_neg (by omega)] at hz ⊢
        simp only [Lv.encs, Lv.szs, List.length_append, List.length_nil] at hz hf hsz
        have hr : ∀ q : Int → Int → EL → ρ, rw_i64_i64_l3 fail (List.getD (Lv.rows [b]) ((0 : Int)).toNat []) q = q b.k b.n (Lv.rows b.args) := fun q => lv_row fail [b] 0 (by simp) q
        rw [eqlT h1, cond_true, gd_y (by decide), gd_y (by rw [Lv.rows_len]; simp), hr, rlevel_w fail _ b (Nat.le_refl _) m _ _ (by omega) (by omega) (by rw [List.length_append, encB_length]; omega), p29_3, loop _ (by simp only [List.length_append, encB_length]; omega)]
        simp [List.append_assoc, Lv.encs]
      · rw [eqlF h1, cond_false]
        by_cases h2 : k = 2
        · rw [if_pos h2] at hz ⊢
          simp only [txB, List.length_append, sz_data] at hz
          have hg : uv ((l.length : Nat) : Int) = l.length := uv_nat _ (by omega)
          have hlv := rtw_levels fail m K s l (Tm.rows a) (by omega) (by omega) l.length 0 m ((z ++ encB (varB (uv k))) ++ encB (txB sn) ++ encB (varB l.length)) (by omega) (by omega) (by simp only [txB, List.length_append, encB_length, sz_data, List.drop_zero]; omega)
          rw [show ((0 : Nat) : Int) = 0 from rfl] at hlv
          rw [eqlT h2, cond_true, rtext_w fail m (by omega) _ sn _ (by omega) (by rw [List.length_append, encB_length]; omega), Lv.rows_len, rnum_w fail m (by omega) _ _ _ (by simp only [txB, List.length_append, encB_length, sz_data]; omega), hg, hlv, List.drop_zero, p29_4, p29_3,
            loop _ (by simp only [txB, List.length_append, encB_length, sz_data]; omega)]
          simp [List.append_assoc]
        · have hln := ok2 h1 h2
          subst hln
          rw [if_neg h2] at hz ⊢
          rw [eqlF h2, cond_false, p29_4, p29_3, loop _ (by simp only [List.length_append, encB_length]; simp [Lv.encs] at hz; omega)]
          simp [List.append_assoc, Lv.encs]
end Go.Proofs.Ythncmjlcmlmnmaa

namespace Go.Proofs.Ythncmjlcmlmnmaa
open Go V
set_option maxRecDepth 100000
set_option maxHeartbeats 4000000
def p76_1 {ρ : Type} (fail : ρ) (fu : Nat)  (K0 : Int → Int → Int → ByteArray → ByteArray → Int → Int → ByteArray → EL → EL → Int → Int → ByteArray → EL → EL → EL → EL → Int → ρ) (rec1 : EL → Int → EL → Int → ρ) (z46 : EL) (z47 : Int) (s51 : ByteArray) (j52 : EL) (j53 : Int) (j54 : Int) (j55 : Int) (j56 : ByteArray) (j57 : EL) (j58 : EL) : ρ :=
  gd (1 ≤ [[(CV.v (.string s51)), (CV.v (.int .i64 j54)), (CV.v (.int .i64 j55)), (CV.v (.string j56)), (CV.sl 3 j57 none), (CV.sl 5 j58 none)]].length) fail (gd ((z46.length + (List.take 1 [[(CV.v (.string s51)), (CV.v (.int .i64 j54)), (CV.v (.int .i64 j55)), (CV.v (.string j56)), (CV.sl 3 j57 none), (CV.sl 5 j58 none)]]).length) * 96 ≤ 35184372088832) fail (rec1 j52 j53 (z46 ++ (List.take 1 [[(CV.v (.string s51)), (CV.v (.int .i64 j54)), (CV.v (.int .i64 j55)), (CV.v (.string j56)), (CV.sl 3 j57 none), (CV.sl 5 j58 none)]])) (binStd .add .i64 z47 1)))
def p76_2 {ρ : Type} (fail : ρ) (fu : Nat)  (K0 : Int → Int → Int → ByteArray → ByteArray → Int → Int → ByteArray → EL → EL → Int → Int → ByteArray → EL → EL → EL → EL → Int → ρ) (rec1 : EL → Int → EL → Int → ρ) (y1 : Int) (y4 : Int) (y7 : Int) (s13 : ByteArray) (s17 : ByteArray) (j20 : Int) (j21 : Int) (j22 : ByteArray) (j23 : EL) (j24 : EL) (j34 : Int) (j35 : Int) (j36 : ByteArray) (j37 : EL) (j38 : EL) (y39 : Int) (z44 : EL) (z45 : Int) (z46 : EL) (z47 : Int) : ρ :=
  bif (cmpStd .lss z47 y39) then (bif (cmpStd .neq z45 0) then (K0 y1 y4 y7 s13 s17 j20 j21 j22 j23 j24 j34 j35 j36 j37 j38 z46 z44 z45) else (p95 fail fu (fun y48 y49 y50 => tobP fail y48 (fun s51 => bif (cmpStd .eql y50 0) then (p65 fail fu (fun y59 y60 y61 y62 y63 y64 y65 => p76_1 fail fu  K0 rec1 z46 z47 s51 y64 y65 y59 y60 y61 y62 y63) y49 y50) else (p76_1 fail fu  K0 rec1 z46 z47 s51 y49 y50 0 0 ⟨#[]⟩ nilE nilE))) z44 z45 24)) else (K0 y1 y4 y7 s13 s17 j20 j21 j22 j23 j24 j34 j35 j36 j37 j38 z46 z44 z45)
def p76_2L {ρ : Type} (fail : ρ) (fu : Nat)  (K0 : Int → Int → Int → ByteArray → ByteArray → Int → Int → ByteArray → EL → EL → Int → Int → ByteArray → EL → EL → EL → EL → Int → ρ)  (y1 : Int) (y4 : Int) (y7 : Int) (s13 : ByteArray) (s17 : ByteArray) (j20 : Int) (j21 : Int) (j22 : ByteArray) (j23 : EL) (j24 : EL) (j34 : Int) (j35 : Int) (j36 : ByteArray) (j37 : EL) (j38 : EL) (y39 : Int) : Nat → EL → Int → EL → Int → ρ
  | 0, _, _, _, _ => fail
  | n + 1, z44, z45, z46, z47 => p76_2 fail fu  K0 (p76_2L fail fu  K0  y1 y4 y7 s13 s17 j20 j21 j22 j23 j24 j34 j35 j36 j37 j38 y39 n) y1 y4 y7 s13 s17 j20 j21 j22 j23 j24 j34 j35 j36 j37 j38 y39 z44 z45 z46 z47
def p76_3 {ρ : Type} (fail : ρ) (fu : Nat)  (K0 : Int → Int → Int → ByteArray → ByteArray → Int → Int → ByteArray → EL → EL → Int → Int → ByteArray → EL → EL → EL → EL → Int → ρ)  (y1 : Int) (y4 : Int) (y7 : Int) (s13 : ByteArray) (s17 : ByteArray) (j20 : Int) (j21 : Int) (j22 : ByteArray) (j23 : EL) (j24 : EL) (j34 : Int) (j35 : Int) (j36 : ByteArray) (j37 : EL) (j38 : EL) (y39 : Int) (j42 : EL) (j43 : Int) : ρ :=
  p76_2L fail fu  K0 y1 y4 y7 s13 s17 j20 j21 j22 j23 j24 j34 j35 j36 j37 j38 y39 fu j42 j43 nilE 0
def p76_4 {ρ : Type} (fail : ρ) (fu : Nat)  (K0 : Int → Int → Int → ByteArray → ByteArray → Int → Int → ByteArray → EL → EL → Int → Int → ByteArray → EL → EL → EL → EL → Int → ρ)  (y1 : Int) (y4 : Int) (y7 : Int) (s13 : ByteArray) (s17 : ByteArray) (j20 : Int) (j21 : Int) (j22 : ByteArray) (j23 : EL) (j24 : EL) (j32 : EL) (j33 : Int) (j34 : Int) (j35 : Int) (j36 : ByteArray) (j37 : EL) (j38 : EL) : ρ :=
  p91 fail fu (fun y39 y40 y41 => bif (cmpStd .gtr y39 5) then (p94 fail fu (fun y66 y67 => p76_3 fail fu  K0 y1 y4 y7 s13 s17 j20 j21 j22 j23 j24 j34 j35 j36 j37 j38 y39 y66 y67) y40 y41 3) else (p76_3 fail fu  K0 y1 y4 y7 s13 s17 j20 j21 j22 j23 j24 j34 j35 j36 j37 j38 y39 y40 y41)) j32 j33
def p76_5 {ρ : Type} (fail : ρ) (fu : Nat)  (K0 : Int → Int → Int → ByteArray → ByteArray → Int → Int → ByteArray → EL → EL → Int → Int → ByteArray → EL → EL → EL → EL → Int → ρ)  (y1 : Int) (y4 : Int) (y7 : Int) (s13 : ByteArray) (s17 : ByteArray) (j20 : Int) (j21 : Int) (j22 : ByteArray) (j23 : EL) (j24 : EL) (j29 : EL) (j30 : Int) (j31 : Bool) : ρ :=
  bif j31 then (p65 fail fu (fun y68 y69 y70 y71 y72 y73 y74 => p76_4 fail fu  K0 y1 y4 y7 s13 s17 j20 j21 j22 j23 j24 y73 y74 y68 y69 y70 y71 y72) j29 j30) else (p76_4 fail fu  K0 y1 y4 y7 s13 s17 j20 j21 j22 j23 j24 j29 j30 0 0 ⟨#[]⟩ nilE nilE)
def p76_6 {ρ : Type} (fail : ρ) (fu : Nat)  (K0 : Int → Int → Int → ByteArray → ByteArray → Int → Int → ByteArray → EL → EL → Int → Int → ByteArray → EL → EL → EL → EL → Int → ρ)  (y1 : Int) (y4 : Int) (y7 : Int) (s13 : ByteArray) (s17 : ByteArray) (j20 : Int) (j21 : Int) (j22 : ByteArray) (j23 : EL) (j24 : EL) (y25 : Int) (j29 : EL) (j30 : Int) : ρ :=
  bif (cmpStd .eql j30 0) then (p76_5 fail fu  K0 y1 y4 y7 s13 s17 j20 j21 j22 j23 j24 j29 j30 (cmpStd .eql y25 1)) else (p76_5 fail fu  K0 y1 y4 y7 s13 s17 j20 j21 j22 j23 j24 j29 j30 false)
def p76_7 {ρ : Type} (fail : ρ) (fu : Nat)  (K0 : Int → Int → Int → ByteArray → ByteArray → Int → Int → ByteArray → EL → EL → Int → Int → ByteArray → EL → EL → EL → EL → Int → ρ)  (y1 : Int) (y4 : Int) (y7 : Int) (s13 : ByteArray) (s17 : ByteArray) (j20 : Int) (j21 : Int) (j22 : ByteArray) (j23 : EL) (j24 : EL) (y25 : Int) (y26 : EL) (y27 : Int) (j28 : Bool) : ρ :=
  bif j28 then (p94 fail fu (fun y75 y76 => p76_6 fail fu  K0 y1 y4 y7 s13 s17 j20 j21 j22 j23 j24 y25 y75 y76) y26 y27 5) else (p76_6 fail fu  K0 y1 y4 y7 s13 s17 j20 j21 j22 j23 j24 y25 y26 y27)
def p76_8 {ρ : Type} (fail : ρ) (fu : Nat)  (K0 : Int → Int → Int → ByteArray → ByteArray → Int → Int → ByteArray → EL → EL → Int → Int → ByteArray → EL → EL → EL → EL → Int → ρ)  (y1 : Int) (y4 : Int) (y7 : Int) (s13 : ByteArray) (s17 : ByteArray) (j18 : EL) (j19 : Int) (j20 : Int) (j21 : Int) (j22 : ByteArray) (j23 : EL) (j24 : EL) : ρ :=
  p116 fail fu (fun y25 y26 y27 => bif (cmpStd .gtr y25 1) then (p76_7 fail fu  K0 y1 y4 y7 s13 s17 j20 j21 j22 j23 j24 y25 y26 y27 true) else (p76_7 fail fu  K0 y1 y4 y7 s13 s17 j20 j21 j22 j23 j24 y25 y26 y27 (!((cmpStd .eql y25 1) == (cmpStd .eql y1 2))))) j18 j19
end Go.Proofs.Ythncmjlcmlmnmaa

namespace Go.Proofs.Ythncmjlcmlmnmaa
open Go V
set_option maxRecDepth 100000
set_option maxHeartbeats 4000000
def p71_1 {ρ : Type} (fail : ρ) (fu : Nat)  (K0 : EL → ρ) (rec1 : EL → Int → Int → ρ) (x16 : EL) (z7 : EL) (z8 : Int) (z9 : Int) : ρ :=
  bif (cmpStd .lss z9 z8) then (gd ((0 : Int) ≤ z9) fail (gd ((z9 : Int) < (x16.length : Nat)) fail (rw_s_i64_i64_s_l3_l5 fail (List.getD x16 ((z9 : Int).toNat) []) (fun c10 c11 c12 c13 c14 c15 => gd (c10.size ≤ (encB c10.data.toList).length) fail (p87 fail fu (fun y16 => p64 fail fu (fun y17 => rec1 y17 z8 (binStd .add .i64 z9 1)) y16 c11 c12 c13 c14 c15) z7 (List.take c10.size (encB c10.data.toList))))))) else (K0 z7)
def p71_1L {ρ : Type} (fail : ρ) (fu : Nat)  (K0 : EL → ρ)  (x16 : EL) : Nat → EL → Int → Int → ρ
  | 0, _, _, _ => fail
  | n + 1, z7, z8, z9 => p71_1 fail fu  K0 (p71_1L fail fu  K0  x16 n) x16 z7 z8 z9
def p71_2 {ρ : Type} (fail : ρ) (fu : Nat)  (K0 : EL → ρ)  (x16 : EL) (j5 : EL) : ρ :=
  gd (1 ≤ [[(CV.v (.int .i64 ((x16.length : Nat) : Int)))]].length) fail (p83 fail fu (fun y6 => p71_1L fail fu  K0 x16 fu y6 ((x16.length : Nat) : Int) 0) j5 (List.take 1 [[(CV.v (.int .i64 ((x16.length : Nat) : Int)))]]))
/-- (*codec.Writer).Decl -/
def p71 {ρ : Type} (fail : ρ) (fu : Nat)  (K0 : EL → ρ) (x0 : EL) (x1 : Int) (x2 : Int) (x3 : Int) (x4 : ByteArray) (x5 : ByteArray) (x6 : Int) (x7 : Int) (x8 : ByteArray) (x9 : EL) (x10 : EL) (x11 : Int) (x12 : Int) (x13 : ByteArray) (x14 : EL) (x15 : EL) (x16 : EL) : ρ :=
  gd (3 ≤ [[(CV.v (.int .i64 x1))], [(CV.v (.int .i64 x2))], [(CV.v (.int .i64 x3))]].length) fail (p83 fail fu (fun y1 => gd (x4.size ≤ (encB x4.data.toList).length) fail (p87 fail fu (fun y2 => gd (x5.size ≤ (encB x5.data.toList).length) fail (p87 fail fu (fun y3 => p64 fail fu (fun y4 => bif (cmpStd .eql x1 2) then (gd (1 ≤ [[(CV.v (.int .i64 1))]].length) fail (p83 fail fu (fun y18 => p64 fail fu (fun y19 => p71_2 fail fu  K0 x16 y19) y18 x11 x12 x13 x14 x15) y4 (List.take 1 [[(CV.v (.int .i64 1))]]))) else (gd (1 ≤ [[(CV.v (.int .i64 0))]].length) fail (p83 fail fu (fun y20 => p71_2 fail fu  K0 x16 y20) y4 (List.take 1 [[(CV.v (.int .i64 0))]])))) y3 x6 x7 x8 x9 x10) y2 (List.take x5.size (encB x5.data.toList)))) y1 (List.take x4.size (encB x4.data.toList)))) x0 (List.take 3 [[(CV.v (.int .i64 x1))], [(CV.v (.int .i64 x2))], [(CV.v (.int .i64 x3))]]))
theorem d_p71 (fu : Nat)  {K0 : EL → Prop} (L : EL → Nat) (hN : L = List.length) {x0 : EL} {x1 : Int} {x2 : Int} {x3 : Int} {x4 : ByteArray} {x5 : ByteArray} {x6 : Int} {x7 : Int} {x8 : ByteArray} {x9 : EL} {x10 : EL} {x11 : Int} {x12 : Int} {x13 : ByteArray} {x14 : EL} {x15 : EL} {x16 : EL} (h : p71 False fu K0 x0 x1 x2 x3 x4 x5 x6 x7 x8 x9 x10 x11 x12 x13 x14 x15 x16) : Den Try.prog G0 71 [.ptr [.arr 1 x0 none false (L x0)], .agg [.c (.v (.int .i64 x1)), .c (.v (.int .i64 x2)), .c (.v (.int .i64 x3)), .c (.v (.string x4)), .c (.v (.string x5)), .c (.v (.int .i64 x6)), .c (.v (.int .i64 x7)), .c (.v (.string x8)), .c (.sl 3 x9 none), .c (.sl 5 x10 none), .c (.v (.int .i64 x11)), .c (.v (.int .i64 x12)), .c (.v (.string x13)), .c (.sl 3 x14 none), .c (.sl 5 x15 none), .c (.sl 6 x16 none)]] (fun r bs => (∃ (y0 : EL) (o1 : OV), (r = .tup [] ∧ bs = [.ptr [.arr 1 y0 none false (L y0)], o1]) ∧ K0 y0)) := by
  obtain ⟨O, hO⟩ : ∃ O, O = std 2 T G0 (Den Try.prog G0) := ⟨_, rfl⟩
  have hLO : L = O.len := by rw [hN, hO]; rfl
  subst hLO
  refine den_h hO tiA mixed tabOk (fn := Try.f71) (sh := true) (by kernel_rfl) rfl rfl rfl rfl ?_
  intro Q hQ
  unfold p71 at h
  conv => cbv
  obtain ⟨hc9, h⟩ := gd_inv h
  refine call_h hO [.ref 1, .shut] (d_p83 fu O.len hN h) ?_
  intro os Q hos hQ
  conv => cbv
  refine ⟨(by subst hO; exact Nat.le_refl _), ?_⟩
  refine view_of hO (by subst hO; exact hc9) ?_
  conv => cbv
  refine ⟨(by (rw [hos]) <;> (subst hO; rfl)), ?_⟩
  intro r bs hq
  rw [hQ] at hq
  clear hos hQ h
  obtain ⟨y1, _, ⟨rfl, rfl⟩, h⟩ := hq
  conv => cbv
  obtain ⟨hc8, h⟩ := gd_inv h
  refine call_h hO [.ref 1, .shut] (d_p87 fu O.len hN h) ?_
  intro os Q hos hQ
  conv => cbv
  refine ⟨(by subst hO; exact Nat.le_refl _), ?_⟩
  refine view_of hO (by subst hO; exact hc8) ?_
  conv => cbv
  refine ⟨(by (rw [hos]) <;> (subst hO; rfl)), ?_⟩
  intro r bs hq
  rw [hQ] at hq
  clear hos hQ h
  obtain ⟨y2, _, ⟨rfl, rfl⟩, h⟩ := hq
  conv => cbv
  obtain ⟨hc7, h⟩ := gd_inv h
  refine call_h hO [.ref 1, .shut] (d_p87 fu O.len hN h) ?_
  intro os Q hos hQ
  conv => cbv
  refine ⟨(by subst hO; exact Nat.le_refl _), ?_⟩
  refine view_of hO (by subst hO; exact hc7) ?_
  conv => cbv
  refine ⟨(by (rw [hos]) <;> (subst hO; rfl)), ?_⟩
  intro r bs hq
  rw [hQ] at hq
  clear hos hQ h
  obtain ⟨y3, _, ⟨rfl, rfl⟩, h⟩ := hq
  conv => cbv
  refine call_h hO [.ref 1, .shut] (d_p64 fu O.len hN h) ?_
  intro os Q hos hQ
  conv => cbv
  refine ⟨(by subst hO; exact Nat.le_refl _), ?_⟩
  refine ⟨(by (rw [hos]) <;> (subst hO; rfl)), ?_⟩
  intro r bs hq
  rw [hQ] at hq
  clear hos hQ h
  obtain ⟨y4, _, ⟨rfl, rfl⟩, h⟩ := hq
  conv => cbv
  refine br_join_h hO tiA h (by subst hO; rfl) [0, 3] [0, 4000, 1000000] [] (fun tm m => ∃ (j5 : EL), ((tm = frame 0 65 [(0, .p 0 1 0), (3, .p 4000 2 0)] ∧ m = ⟨[(0, .blk 1 [.t 1000000 2 (O.len j5)]), (4000, .blk 2 [.c (.v (.int .i64 x1)), .c (.v (.int .i64 x2)), .c (.v (.int .i64 x3)), .c (.v (.string x4)), .c (.v (.string x5)), .c (.v (.int .i64 x6)), .c (.v (.int .i64 x7)), .c (.v (.string x8)), .c (.sl 3 x9 none), .c (.sl 5 x10 none), .c (.v (.int .i64 x11)), .c (.v (.int .i64 x12)), .c (.v (.string x13)), .c (.sl 3 x14 none), .c (.sl 5 x15 none), .c (.sl 6 x16 none)]), (1000000, .arr 2 1 j5 none false)], 3⟩)) ∧ p71_2 False fu  K0 x16 j5) (fun hc4 h L hL_2 => ?_) (fun hc4 h L hL_2 => ?_) ?_
  · conv => cbv
    obtain ⟨hc5, h⟩ := gd_inv h
    refine call_h hO [.ref 1, .shut] (d_p83 fu O.len hN h) ?_
    intro os Q hos hQ
    conv => cbv
    refine ⟨(by subst hO; exact Nat.le_refl _), ?_⟩
    refine view_of hO (by subst hO; exact hc5) ?_
    conv => cbv
    refine ⟨(by (rw [hos]) <;> (subst hO; rfl)), ?_⟩
    intro r bs hq
    rw [hQ] at hq
    clear hos hQ h
    obtain ⟨y18, _, ⟨rfl, rfl⟩, h⟩ := hq
    conv => cbv
    refine call_h hO [.ref 1, .shut] (d_p64 fu O.len hN h) ?_
    intro os Q hos hQ
    conv => cbv
    refine ⟨(by subst hO; exact Nat.le_refl _), ?_⟩
    refine ⟨(by (rw [hos]) <;> (subst hO; rfl)), ?_⟩
    intro r bs hq
    rw [hQ] at hq
    clear hos hQ h
    obtain ⟨y19, _, ⟨rfl, rfl⟩, h⟩ := hq
    conv => cbv
    exact hL_2 _ _ ⟨y19, ⟨(by (conv => lhs; cbv) <;> (subst hO; rfl)), (by (conv => lhs; cbv) <;> (subst hO; rfl))⟩, h⟩
  · conv => cbv
    obtain ⟨hc6, h⟩ := gd_inv h
    refine call_h hO [.ref 1, .shut] (d_p83 fu O.len hN h) ?_
    intro os Q hos hQ
    conv => cbv
    refine ⟨(by subst hO; exact Nat.le_refl _), ?_⟩
    refine view_of hO (by subst hO; exact hc6) ?_
    conv => cbv
    refine ⟨(by (rw [hos]) <;> (subst hO; rfl)), ?_⟩
    intro r bs hq
    rw [hQ] at hq
    clear hos hQ h
    obtain ⟨y20, _, ⟨rfl, rfl⟩, h⟩ := hq
    conv => cbv
    exact hL_2 _ _ ⟨y20, ⟨(by (conv => lhs; cbv) <;> (subst hO; rfl)), (by (conv => lhs; cbv) <;> (subst hO; rfl))⟩, h⟩
  · rintro tm m ⟨j5, hs, h⟩
    unfold p71_2 at h
    obtain ⟨rfl, rfl⟩ := hs
    conv => cbv
    obtain ⟨hc3, h⟩ := gd_inv h
    refine call_h hO [.ref 1, .shut] (d_p83 fu O.len hN h) ?_
    intro os Q hos hQ
    conv => cbv
    refine ⟨(by subst hO; exact Nat.le_refl _), ?_⟩
    refine view_of hO (by subst hO; exact hc3) ?_
    conv => cbv
    refine ⟨(by (rw [hos]) <;> (subst hO; rfl)), ?_⟩
    intro r bs hq
    rw [hQ] at hq
    clear hos hQ h
    obtain ⟨y6, _, ⟨rfl, rfl⟩, h⟩ := hq
    conv => cbv
    refine loop_of hO tiA [0, 49, 50, 51] [0, 1000000] [] (fun (n : Nat) tm m => ∃ (z7 : EL) (z8 : Int) (z9 : Int), ((tm = frame 0 65 [(0, .p 0 1 0), (49, .c (.sl 6 x16 none)), (50, .c (.v (.int .i64 z8))), (51, .c (.v (.int .i64 z9)))] ∧ m = ⟨[(0, .blk 1 [.t 1000000 2 (O.len z7)]), (1000000, .arr 2 1 z7 none false)], 3⟩)) ∧ p71_1L False fu  K0 x16 n z7 z8 z9) (fun n => n) fu ⟨y6, ((x16.length : Nat) : Int), 0, ⟨(by (conv => lhs; cbv) <;> (subst hO; rfl)), (by (conv => lhs; cbv) <;> (subst hO; rfl))⟩, h⟩ ?_
    rintro n1 tm m L ⟨z7, z8, z9, hs, h⟩ hLn1
    cases n1 with
    | zero => rw [p71_1L] at h; exact h.elim
    | succ n1 =>
      rw [p71_1L] at h
      unfold p71_1 at h
      obtain ⟨rfl, rfl⟩ := hs
      conv => cbv
      refine br_h hO h (by subst hO; rfl) (fun hc1 h => ?_) (fun hc1 h => ?_)
      · conv => cbv
        refine join_all hO ?_
        conv => cbv
        refine and_h h (fun g => (by subst hO; exact g)) (fun h => ?_)
        refine and_h h (fun g => (by subst hO; exact g)) (fun h => ?_)
        obtain ⟨c10, c11, c12, c13, c14, c15, hr, h⟩ := rw_s_i64_i64_s_l3_l5_inv h
        refine elem_of hO _ (by subst hO; exact hr) ?_
        clear hr
        conv => cbv
        obtain ⟨hc2, h⟩ := gd_inv h
        refine call_h hO [.ref 1, .shut] (d_p87 fu O.len hN h) ?_
        intro os Q hos hQ
        conv => cbv
        refine ⟨(by subst hO; exact Nat.le_refl _), ?_⟩
        refine view_of hO (by subst hO; exact hc2) ?_
        conv => cbv
        refine ⟨(by (rw [hos]) <;> (subst hO; rfl)), ?_⟩
        intro r bs hq
        rw [hQ] at hq
        clear hos hQ h
        obtain ⟨y16, _, ⟨rfl, rfl⟩, h⟩ := hq
        conv => cbv
        refine call_h hO [.ref 1, .shut] (d_p64 fu O.len hN h) ?_
        intro os Q hos hQ
        conv => cbv
        refine ⟨(by subst hO; exact Nat.le_refl _), ?_⟩
        refine ⟨(by (rw [hos]) <;> (subst hO; rfl)), ?_⟩
        intro r bs hq
        rw [hQ] at hq
        clear hos hQ h
        obtain ⟨y17, _, ⟨rfl, rfl⟩, h⟩ := hq
        conv => cbv
        exact hLn1 n1 _ _ (Nat.lt_succ_self n1) ⟨y17, z8, binStd .add .i64 z9 1, ⟨(by (conv => lhs; cbv) <;> (subst hO; rfl)), (by (conv => lhs; cbv) <;> (subst hO; rfl))⟩, h⟩
      · conv => cbv
        refine ⟨(by subst hO; exact Nat.le_refl _), ?_⟩
        rw [hQ]
        exact ⟨z7, _, ⟨(by subst hO; rfl), (by subst hO; rfl)⟩, h⟩
end Go.Proofs.Ythncmjlcmlmnmaa

namespace Go.Proofs.Ythncmjlcmlmnmaa
open Go V
set_option maxRecDepth 100000
set_option maxHeartbeats 4000000
/-- codec.Decl -/
def p27 {ρ : Type} (fail : ρ) (fu : Nat)  (K0 : EL → ρ) (x0 : EL) (x1 : Int) (x2 : Int) (x3 : Int) (x4 : ByteArray) (x5 : ByteArray) (x6 : Int) (x7 : Int) (x8 : ByteArray) (x9 : EL) (x10 : EL) (x11 : Int) (x12 : Int) (x13 : ByteArray) (x14 : EL) (x15 : EL) (x16 : EL) : ρ :=
  p63 fail fu (fun y1 => p71 fail fu (fun y2 => K0 y2) y1 x1 x2 x3 x4 x5 x6 x7 x8 x9 x10 x11 x12 x13 x14 x15 x16) x0
theorem d_p27 (fu : Nat)  {K0 : EL → Prop} (L : EL → Nat) (hN : L = List.length) {x0 : EL} {x1 : Int} {x2 : Int} {x3 : Int} {x4 : ByteArray} {x5 : ByteArray} {x6 : Int} {x7 : Int} {x8 : ByteArray} {x9 : EL} {x10 : EL} {x11 : Int} {x12 : Int} {x13 : ByteArray} {x14 : EL} {x15 : EL} {x16 : EL} (h : p27 False fu K0 x0 x1 x2 x3 x4 x5 x6 x7 x8 x9 x10 x11 x12 x13 x14 x15 x16) : Den Try.prog G0 27 [.c (.sl 1 x0 none), .agg [.c (.v (.int .i64 x1)), .c (.v (.int .i64 x2)), .c (.v (.int .i64 x3)), .c (.v (.string x4)), .c (.v (.string x5)), .c (.v (.int .i64 x6)), .c (.v (.int .i64 x7)), .c (.v (.string x8)), .c (.sl 3 x9 none), .c (.sl 5 x10 none), .c (.v (.int .i64 x11)), .c (.v (.int .i64 x12)), .c (.v (.string x13)), .c (.sl 3 x14 none), .c (.sl 5 x15 none), .c (.sl 6 x16 none)]] (fun r bs => (∃ (y0 : EL) (o0 : OV) (o1 : OV), (r = .arr 1 y0 none false (L y0) ∧ bs = [o0, o1]) ∧ K0 y0)) := by
  obtain ⟨O, hO⟩ : ∃ O, O = std 0 T G0 (Den Try.prog G0) := ⟨_, rfl⟩
  have hLO : L = O.len := by rw [hN, hO]; rfl
  subst hLO
  refine den_h hO tiA mixed tabOk (fn := Try.f27) (sh := false) (by kernel_rfl) rfl rfl rfl rfl ?_
  intro Q hQ
  unfold p27 at h
  conv => cbv
  refine call_h hO [.shut] (d_p63 fu O.len hN h) ?_
  intro os Q hos hQ
  conv => cbv
  refine ⟨(by (rw [hos]) <;> (subst hO; rfl)), ?_⟩
  intro r bs hq
  rw [hQ] at hq
  clear hos hQ h
  obtain ⟨y1, _, ⟨rfl, rfl⟩, h⟩ := hq
  conv => cbv
  refine call_h hO [.ref 1, .shut] (d_p71 fu O.len hN h) ?_
  intro os Q hos hQ
  conv => cbv
  refine ⟨(by subst hO; exact Nat.le_refl _), ?_⟩
  refine ⟨(by (rw [hos]) <;> (subst hO; rfl)), ?_⟩
  intro r bs hq
  rw [hQ] at hq
  clear hos hQ h
  obtain ⟨y2, _, ⟨rfl, rfl⟩, h⟩ := hq
  conv => cbv
  refine ⟨(by subst hO; exact Nat.le_refl _), ?_⟩
  rw [hQ]
  exact ⟨y2, _, _, ⟨(by subst hO; rfl), (by subst hO; rfl)⟩, h⟩
end Go.Proofs.Ythncmjlcmlmnmaa

namespace Go.Proofs.Ythncmjlcmlmnmaa
open Go V
set_option maxRecDepth 100000
set_option maxHeartbeats 2000000
/-- A constructor's row. -/
def ctRow (c : ByteArray × Tm) : List CV := [.v (.string c.1), .v (.int .i64 c.2.k), .v (.int .i64 c.2.n), .v (.string c.2.nm), .sl 3 (Lv.rows c.2.ls) none, .sl 5 (Tm.rows c.2.args) none]
structure Dc where
  k : Int
  pa : Int
  ct : Int
  nm : ByteArray
  fam : ByteArray
  ty : Tm
  val : Tm
  cs : List (ByteArray × Tm)
abbrev DK (ρ : Type) := Int → Int → Int → ByteArray → ByteArray → Int → Int → ByteArray → EL → EL → Int → Int → ByteArray → EL → EL → EL → EL → Int → ρ
def DErr {ρ : Type} (p : DK ρ → ρ) (e : Int) : Prop := e ≠ 0 ∧ ∃ a b c d f g h i j k l m n o q r s, ∀ K : DK ρ, p K = K a b c d f g h i j k l m n o q r s e
theorem DErr.of {ρ : Type} {p : DK ρ → ρ} {e : Int} (he : e ≠ 0) {a b c : Int} {d f : ByteArray} {g h : Int} {i : ByteArray} {j k : EL} {l m : Int} {n : ByteArray} {o q r s : EL} (hp : ∀ K : DK ρ, p K = K a b c d f g h i j k l m n o q r s e) : DErr p e := ⟨he, a, b, c, d, f, g, h, i, j, k, l, m, n, o, q, r, s, hp⟩
theorem DErr.eq {ρ : Type} {p p' : DK ρ → ρ} {e : Int} (h : DErr p' e) (hp : ∀ K, p K = p' K) : DErr p e := by
  obtain ⟨he, a, b, c, d, f, g, h, i, j, k, l, m, n, o, q, r, s, h1⟩ := h
  exact DErr.of he fun K => (hp K).trans (h1 K)
section
variable {ρ : Type} (fail : ρ) (fu : Nat) (hfu : 200 ≤ fu)
section
variable (y1 y4 y7 : Int) (s13 s17 : ByteArray) (j20 j21 : Int) (j22 : ByteArray) (j23 j24 : EL)
section
variable (j34 j35 : Int) (j36 : ByteArray) (j37 j38 : EL)
include hfu
end
include hfu
end
end
end Go.Proofs.Ythncmjlcmlmnmaa

namespace Go.Proofs.Ythncmjlcmlmnmaa
open Go V
set_option maxRecDepth 100000
set_option maxHeartbeats 2000000
section
variable {ρ : Type} (fail : ρ) (fu : Nat)
def q6 (K0 : DK ρ) (y1 y4 y7 : Int) (s13 s17 : ByteArray) (B : EL) (e : Int) : ρ := bif (cmpStd .eql e 0) then (p65 fail fu (fun y77 y78 y79 y80 y81 y82 y83 => p76_8 fail fu K0 y1 y4 y7 s13 s17 y82 y83 y77 y78 y79 y80 y81) B e) else (p76_8 fail fu K0 y1 y4 y7 s13 s17 B e 0 0 ⟨#[]⟩ nilE nilE)
def q5 (K0 : DK ρ) (y1 y4 y7 : Int) (s13 : ByteArray) (B : EL) (e : Int) : ρ := p95 fail fu (fun y14 y15 y16 => tobP fail y14 (fun s17 => q6 fail fu K0 y1 y4 y7 s13 s17 y15 y16)) B e 24
def q4 (K0 : DK ρ) (y1 y4 y7 : Int) (B : EL) (e : Int) : ρ := p95 fail fu (fun y10 y11 y12 => tobP fail y10 (fun s13 => q5 fail fu K0 y1 y4 y7 s13 y11 y12)) B e 24
def q3 (K0 : DK ρ) (y1 y4 : Int) (B : EL) (e : Int) : ρ := p91 fail fu (fun y7 y8 y9 => q4 fail fu K0 y1 y4 y7 y8 y9) B e
def q2 (K0 : DK ρ) (y1 : Int) (B : EL) (e : Int) : ρ := p91 fail fu (fun y4 y5 y6 => q3 fail fu K0 y1 y4 y5 y6) B e
variable (hfu : 200 ≤ fu)
include hfu
section
variable (K : DK ρ) (B : EL) (e : Int) (he : e ≠ 0)
include he
end
variable (k : Nat) (hk : k ≤ 5) (bs : List UInt8) (hb : bs.length ≤ 1099511627776)
include hk hb
end
end Go.Proofs.Ythncmjlcmlmnmaa

namespace Go.Proofs.Ythncmjlcmlmnmaa
open Go V
set_option maxRecDepth 100000
set_option maxHeartbeats 2000000
def ctsB : List (ByteArray × Tm) → List UInt8
  | [] => []
  | c :: l => (txB c.1 ++ c.2.enc) ++ ctsB l
def ctsSz : List (ByteArray × Tm) → Nat
  | [] => 0
  | c :: l => 1 + (c.1.size + c.2.sz) + ctsSz l
def Dc.enc (d : Dc) : List UInt8 := numsB [d.k, d.pa, d.ct] ++ (txB d.nm ++ (txB d.fam ++ (d.ty.enc ++ ((if d.k = 2 then varB 1 ++ d.val.enc else varB 0) ++ (varB d.cs.length ++ ctsB d.cs)))))
def Dc.sz (d : Dc) : Nat := d.nm.size + d.fam.size + d.ty.sz + d.val.sz + ctsSz d.cs
theorem ct_row {ρ : Type} (fail : ρ) (l : List (ByteArray × Tm)) (i : Nat) (h : i < l.length) (k : ByteArray → Int → Int → ByteArray → EL → EL → ρ) : rw_s_i64_i64_s_l3_l5 fail (List.getD (l.map ctRow) (((i : Nat) : Int)).toNat []) k = k l[i].1 l[i].2.k l[i].2.n l[i].2.nm (Lv.rows l[i].2.ls) (Tm.rows l[i].2.args) := by
  rw [Int.toNat_natCast, List.getD, List.getElem?_map, List.getElem?_eq_getElem h]; rfl
theorem ctsSz_mem : ∀ {l : List (ByteArray × Tm)} {a : ByteArray × Tm}, a ∈ l → 1 + (a.1.size + a.2.sz) ≤ ctsSz l
  | b :: l, a, h => by
    simp only [ctsSz]
    rcases List.mem_cons.1 h with rfl | h
    · omega
    · have := ctsSz_mem h; omega
theorem ctsSz_len : ∀ l : List (ByteArray × Tm), l.length ≤ ctsSz l
  | [] => Nat.zero_le _
  | a :: l => by have := ctsSz_len l; simp only [ctsSz, List.length_cons]; omega
theorem cts_w {ρ : Type} (fail : ρ) (fu : Nat) (K : EL → ρ) (l : List (ByteArray × Tm)) (hfu : ctsSz l + 40 ≤ fu) (hsz : ctsSz l < 1099511627776) :
    ∀ (r i n : Nat) (z : EL), i + r = l.length → r < n → z.length + (ctsB (l.drop i)).length ≤ 35184372087000 → p71_1L fail fu K (l.map ctRow) n z ((l.length : Nat) : Int) ((i : Nat) : Int) = K (z ++ encB (ctsB (l.drop i))) := by
  have hl := ctsSz_len l
  intro r
  induction r with
  | zero =>
    intro i n z hi hn hz
    obtain ⟨n, rfl⟩ : ∃ m, n = m + 1 := ⟨n - 1, by omega⟩
    rw [p71_1L, p71_1, lssF (by omega), cond_false, List.drop_eq_nil_of_le (by omega)]
    simp [ctsB]
  | succ r ih =>
    intro i n z hi hn hz
    obtain ⟨n, rfl⟩ : ∃ m, n = m + 1 := ⟨n - 1, by omega⟩
    have hlt : i < l.length := by omega
    have hm := ctsSz_mem (List.getElem_mem hlt)
    have hd : l.drop i = l[i] :: l.drop (i + 1) := List.drop_eq_getElem_cons hlt
    rw [hd] at hz ⊢
    simp only [ctsB, List.length_append] at hz ⊢
    have htx : (txB l[i].1).length = (varB l[i].1.size).length + l[i].1.size := by simp [txB, sz_data]
    have h10 := varB_10 (show l[i].1.size < 2 ^ 64 by omega)
    rw [p71_1L, p71_1, lssT (by omega), cond_true, gd_y (by omega), gd_y (by rw [List.length_map]; omega), ct_row fail l i hlt, gsz, text_w fail fu (by omega) _ _ z (by omega) (by omega),
      term_w fail _ l[i].2 (Nat.le_refl _) fu _ _ (by omega) (by omega) (by rw [List.length_append, encB_length]; omega), addZ (by omega) (by omega), show ((i : Nat) : Int) + 1 = ((i + 1 : Nat) : Int) by omega]
    rw [ih (i + 1) n _ (by omega) (by omega) (by simp only [List.length_append, encB_length]; omega)]
    simp [List.append_assoc]
theorem decl_w {ρ : Type} (fail : ρ) (fu : Nat) (K : EL → ρ) (d : Dc) (hf : d.sz + 60 ≤ fu) (hsz : d.sz < 1099511627776) (z : EL) (hz : z.length + d.enc.length ≤ 35184372086000) :
    p71 fail fu K z d.k d.pa d.ct d.nm d.fam d.ty.k d.ty.n d.ty.nm (Lv.rows d.ty.ls) (Tm.rows d.ty.args) d.val.k d.val.n d.val.nm (Lv.rows d.val.ls) (Tm.rows d.val.args) (d.cs.map ctRow) = K (z ++ encB d.enc) := by
  simp only [Dc.sz] at hf hsz
  have hcl := ctsSz_len d.cs
  have hn3 : ((numsB [d.k, d.pa, d.ct]).length) ≤ 30 := numsB_len [d.k, d.pa, d.ct]
  have htx1 : (txB d.nm).length = (varB d.nm.size).length + d.nm.size := by simp [txB, sz_data]
  have htx2 : (txB d.fam).length = (varB d.fam.size).length + d.fam.size := by simp [txB, sz_data]
  have h101 := varB_10 (show d.nm.size < 2 ^ 64 by omega)
  have h102 := varB_10 (show d.fam.size < 2 ^ 64 by omega)
  have h103 := varB_10 (show d.cs.length < 2 ^ 64 by omega)
  have hv1 : (varB 1).length = 1 := by rw [varB_lt (by omega)]; rfl
  have hv0 : (varB 0).length = 1 := by rw [varB_lt (by omega)]; rfl
  simp only [Dc.enc, List.length_append] at hz
  have hcts : ∀ y : EL, y.length + (varB d.cs.length).length + (ctsB d.cs).length ≤ 35184372086900 → p71_2 fail fu K (d.cs.map ctRow) y = K (y ++ encB (varB d.cs.length ++ ctsB d.cs)) := fun y hy => by
    have hg : uv ((d.cs.length : Nat) : Int) = d.cs.length := uv_nat _ (by omega)
    have := cts_w fail fu K d.cs (by omega) (by omega) d.cs.length 0 fu (y ++ encB (varB d.cs.length)) (by omega) (by omega) (by simp only [List.length_append, encB_length, List.drop_zero]; omega)
    rw [p71_2, gd_y (by simp), List.length_map, num_w1 fail fu (by omega) _ _ _ (by omega), hg]
    rw [List.drop_zero] at this
    rw [encB_append, ← List.append_assoc]
    exact this
  have h3 : List.take 3 [[CV.v (.int .i64 d.k)], [CV.v (.int .i64 d.pa)], [CV.v (.int .i64 d.ct)]] = encI [d.k, d.pa, d.ct] := rfl
  rw [p71, gd_y (by simp), h3, num_w fail fu _ _ (by simp only [List.length_cons, List.length_nil]; omega) z (by simp only [List.length_cons, List.length_nil]; omega), gsz,
    text_w fail fu (by omega) _ _ _ (by omega) (by simp only [List.length_append, encB_length]; omega), gsz, text_w fail fu (by omega) _ _ _ (by omega) (by simp only [List.length_append, encB_length]; omega),
    term_w fail _ d.ty (Nat.le_refl _) fu _ _ (by omega) (by omega) (by simp only [List.length_append, encB_length]; omega)]
  by_cases h2 : d.k = 2
  · rw [if_pos h2] at hz
    simp only [List.length_append] at hz
    rw [eqlT h2, cond_true, gd_y (by simp), num_w1 fail fu (by omega) _ _ _ (by simp only [List.length_append, encB_length]; omega), show uv 1 = 1 from rfl,
      term_w fail _ d.val (Nat.le_refl _) fu _ _ (by omega) (by omega) (by simp only [List.length_append, encB_length]; omega), hcts _ (by simp only [List.length_append, encB_length]; omega)]
    simp only [Dc.enc, if_pos h2, encB_append, List.append_assoc]
  · rw [if_neg h2] at hz
    rw [eqlF h2, cond_false, gd_y (by simp), num_w1 fail fu (by omega) _ _ _ (by simp only [List.length_append, encB_length]; omega), show uv 0 = 0 from rfl, hcts _ (by simp only [List.length_append, encB_length]; omega)]
    simp only [Dc.enc, if_neg h2, encB_append, List.append_assoc]
end Go.Proofs.Ythncmjlcmlmnmaa

namespace Go.Proofs.Ythncmjlcmlmnmaa
open Go V
set_option maxRecDepth 100000
set_option maxHeartbeats 2000000
section
variable {ρ : Type} (fail : ρ) (fu : Nat) (hfu : 200 ≤ fu) (bs : List UInt8) (hb : bs.length ≤ 1099511627776)
include hfu hb
end
section
variable {ρ : Type} (fail : ρ) (fu : Nat) (K : EL → ρ) (b : List UInt8)
theorem after_eq (hb : b.length ≤ 35184372088832) : p63 fail fu K (encB b) = K (encB b) := by
  rw [p63, gd_y (by rfl), gd_y (by rw [encB_length]; simp; omega)]; rfl
theorem codecLevel_eq (l : Lv) (hf : l.sz + 20 ≤ fu) (hs : l.sz < 1099511627776) (hb : b.length + l.enc.length ≤ 35184372086000) : p26 fail fu K (encB b) l.k l.n (Lv.rows l.args) = K (encB (b ++ l.enc)) := by
  rw [p26, after_eq _ _ _ _ (by omega), level_w fail _ l (Nat.le_refl _) fu _ _ hf hs (by rw [encB_length]; omega), encB_append]
theorem codecTerm_eq (l : Tm) (hf : l.sz + 30 ≤ fu) (hs : l.sz < 1099511627776) (hb : b.length + l.enc.length ≤ 35184372086000) : p17 fail fu K (encB b) l.k l.n l.nm (Lv.rows l.ls) (Tm.rows l.args) = K (encB (b ++ l.enc)) := by
  rw [p17, after_eq _ _ _ _ (by omega), term_w fail _ l (Nat.le_refl _) fu _ _ hf hs (by rw [encB_length]; omega), encB_append]
theorem codecDecl_eq (d : Dc) (hf : d.sz + 60 ≤ fu) (hs : d.sz < 1099511627776) (hb : b.length + d.enc.length ≤ 35184372086000) : p27 fail fu K (encB b) d.k d.pa d.ct d.nm d.fam d.ty.k d.ty.n d.ty.nm (Lv.rows d.ty.ls) (Tm.rows d.ty.args) d.val.k d.val.n d.val.nm (Lv.rows d.val.ls) (Tm.rows d.val.args) (d.cs.map ctRow) = K (encB (b ++ d.enc)) := by
  rw [p27, after_eq _ _ _ _ (by omega), decl_w fail fu _ d hf hs _ (by rw [encB_length]; omega), encB_append]
end
theorem scmp_refl (s : ByteArray) : scmpStd .eql s s = true := by simp [scmpStd]
end Go.Proofs.Ythncmjlcmlmnmaa

namespace Go.Proofs.Ythncmjlcmlmnmaa
open Go V
open Go.RowKit
set_option maxRecDepth 100000
def Spt (b capn : Nat) (w wr : World) : Prop := Ext (fun b' _ => b' = b) w wr ∧ (∀ k, k < capn → ∃ v, wr.cell? ⟨b, k, none⟩ = some v) ∧ (∀ k, k < capn → wr.frozen? ⟨b, k, none⟩ = false)
theorem spt_step {b capn i : Nat} {w wr : World} (hx : Ext (fun b' _ => b' = b) w wr) (hcell : ∀ k, k < capn → ∃ v, wr.cell? ⟨b, k, none⟩ = some v) (hfr : ∀ k, k < capn → wr.frozen? ⟨b, k, none⟩ = false) (hi : i < capn) :
    Spt b capn w (wr.setCell ⟨b, i, none⟩ (.int .u8 90)) := by
  have h1 : Ext (fun b' _ => b' = b) wr (wr.setCell ⟨b, i, none⟩ (.int .u8 90)) := (Ext.setCells wr b i [.int .u8 90]).mono fun x o h => h.1
  refine ⟨hx.trans h1 fun x o h => .inl h, fun k hk => ?_, fun k hk => ?_⟩
  · by_cases e : k = i
    · subst e
      obtain ⟨v, hv⟩ := hcell k hk
      exact ⟨_, World.cell?_setCell_same wr _ _ hv⟩
    · obtain ⟨v, hv⟩ := hcell k hk
      exact ⟨v, (cellAt_setCells_out b i [.int .u8 90] wr b k (fun _ => by simp; omega)).trans hv⟩
  · rw [World.frozen?_setCell]; exact hfr k hk
theorem spoil_any (b n capn : Nat) (w : World) (hn : n ≤ capn) (hc : capn ≤ 9223372036854775807) (hw : Spt b capn w w) :
    Calls Try.prog 32 #[.slice (some ⟨b, 0, none⟩) n capn] w fun e w' => e = .returned (.tuple #[]) ∧ Spt b capn w w' := by
  go_enter Try.func32, Try.ntmps32
  go_wp2
  go_loopw [3] (fun si wr => ∃ (i : Nat), i ≤ capn ∧ si = .int .i64 i ∧ Spt b capn w wr)
    (fun si _ => capn - (intOf si).toNat)
  case atStart => exact ⟨0, Nat.zero_le _, rfl, hw⟩
  case round =>
    obtain ⟨i, hil, rfl, hx, hcell, hfr⟩ := hrel
    by_cases hlt : i < capn
    · obtain ⟨v, hv⟩ := hcell i hlt
      have hf := hfr i hlt
      have hcell' := Lib.hid hcell
      have hfr' := Lib.hid hfr
      clear hcell hfr
      go_wp2
      refine ⟨⟨i + 1, hlt, by push_cast; rfl, spt_step hx hcell'.out hfr'.out hlt⟩, ?_⟩
      simp [intOf]; omega
    · have hcell' := Lib.hid hcell
      have hfr' := Lib.hid hfr
      clear hcell hfr
      go_wp2
      refine ⟨rfl, .tuple #[], ?_, rfl, hx, hcell'.out, hfr'.out⟩
      unfold results; rw [Try.results32]; simp [go_sem]
/-- Whatever it is handed, it writes it over. -/
theorem spoil_den (es : EL) (cap : Option Nat) (n : Nat) : Den Try.prog G0 32 [.arr 1 es cap false n] (fun r bs => ∃ o0 : OV, r = .tup [] ∧ bs = [o0]) := by
  refine ⟨⟨_, Try.func32, by kernel_rfl, by kernel_rfl⟩, fun S F w us hS hF hG ho => ?_⟩
  cases ho with | cons _ u _ us F1 F2 h1 h2 hd =>
  cases h2
  cases h1 with | arr _ _ _ _ _ b capn h =>
  obtain ⟨_, ⟨ht, hb⟩, ⟨e, h3⟩, h4, _, _, _, h8⟩ := h
  have hbig := hb rfl _ _ h3
  have hcell : ∀ k, k < capn → ∃ v, w.cell? ⟨b, k, none⟩ = some v := fun k hk => by
    unfold World.shape? at h3
    unfold World.cell?
    cases hh : w.heap[b]? with
    | none => rw [hh] at h3; simp at h3
    | some ob =>
      rw [hh] at h3
      cases ob with
      | cells cc e' fr =>
        simp only [Option.some.injEq, Prod.mk.injEq] at h3
        have : k < cc.size := by rw [h3.2]; omega
        exact ⟨cc[k], by simp [Array.getElem?_eq_getElem this]⟩
      | _ => simp at h3
  have hfr : ∀ k, k < capn → w.frozen? ⟨b, k, none⟩ = false := fun k hk => by
    cases hz : w.frozen? ⟨b, k, none⟩ with
    | false => rfl
    | true => have := ht _ hz _ _ h3; omega
  refine (spoil_any b n capn w (by omega) (by omega) ⟨Ext.refl _ _, hcell, hfr⟩).mono ?_
  rintro e w' ⟨rfl, hx, _, _⟩
  refine ⟨_, .tup [], [.tup []], S, _, _, rfl, ⟨_, rfl, rfl⟩, .tup [] [] _ .nil, .skip _ _ _ _ _ _ _ (by simp) .nil, ⟨hx.mono fun x o q => .inl ⟨q, by simp⟩, fun _ _ q => q, fun x o q => ⟨Nat.lt_of_lt_of_le (hS x o q) hx.size, .inl q⟩, fun _ _ q => q.elim, fun _ _ q => (q.elim id id).elim⟩⟩
end Go.Proofs.Ythncmjlcmlmnmaa

namespace Go.Proofs.Ythncmjlcmlmnmaa
open Go V
set_option maxRecDepth 100000
set_option maxHeartbeats 4000000
/-- ref4.Zero -/
def p50 {ρ : Type} (fail : ρ) (fu : Nat)  (K0 : Int → Int → EL → ρ)  : ρ :=
  K0 0 0 nilE
theorem d_p50 (fu : Nat)  {K0 : Int → Int → EL → Prop} (L : EL → Nat) (hN : L = List.length)  (h : p50 False fu K0 ) : Den Try.prog G0 50 [] (fun r bs => (∃ (y0 : Int) (y1 : Int) (y2 : EL), (r = .agg [.c (.v (.int .i64 y0)), .c (.v (.int .i64 y1)), .c (.sl 3 y2 none)] ∧ bs = []) ∧ K0 y0 y1 y2)) := by
  obtain ⟨O, hO⟩ : ∃ O, O = std 0 T G0 (Den Try.prog G0) := ⟨_, rfl⟩
  have hLO : L = O.len := by rw [hN, hO]; rfl
  subst hLO
  refine den_h hO tiA mixed tabOk (fn := Try.f50) (sh := true) (by kernel_rfl) rfl rfl rfl rfl ?_
  intro Q hQ
  unfold p50 at h
  conv => cbv
  rw [hQ]
  exact ⟨0, 0, nilE, ⟨(by subst hO; rfl), (by subst hO; rfl)⟩, h⟩
end Go.Proofs.Ythncmjlcmlmnmaa

