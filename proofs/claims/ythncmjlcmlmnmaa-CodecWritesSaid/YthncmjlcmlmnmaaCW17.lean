/- Functions without memory, and that the Go functions are followed by them. Printed by gen.py. Conditions: none. -/
import Derived.Test.YthncmjlcmlmnmaaCW9
import Derived.Test.YthncmjlcmlmnmaaCW15
import Derived.Test.YthncmjlcmlmnmaaCW16
import Derived.Test.YthncmjlcmlmnmaaCW11
import Derived.Test.YthncmjlcmlmnmaaCW12
import Derived.Test.YthncmjlcmlmnmaaCW13
import Derived.Test.YthncmjlcmlmnmaaCW14
namespace Go.Proofs.Ythncmjlcmlmnmaa
open Go V
set_option maxRecDepth 100000
set_option maxHeartbeats 4000000
def p13_1 {ρ : Type} (fail : ρ) (fu : Nat)  (K0 : Bool → ρ)   (j27 : Bool) : ρ :=
  K0 j27
/-- law6.begun -/
def p13 {ρ : Type} (fail : ρ) (fu : Nat)  (K0 : Bool → ρ)  : ρ :=
  p50 fail fu (fun y1 y2 y3 => p49 fail fu (fun y4 y5 y6 y7 y8 => p51 fail fu (fun y9 y10 y11 y12 y13 => p48 fail fu (fun y14 y15 y16 y17 y18 => p17 fail fu (fun y19 => gd (1 ≤ [[(CV.v (.int .u8 9))]].length) fail (gd ((y19.length + (List.take 1 [[(CV.v (.int .u8 9))]]).length) * 1 ≤ 35184372088832) fail (p18 fail fu (fun y20 y21 y22 y23 y24 y25 y26 => tobP fail y19 (fun s28 => bif (scmpStd .eql s28 ⟨#[5, 1, 0, 0, 0]⟩) then (bif (cmpStd .eql y26 0) then (bif (cmpStd .eql y25 5) then (p19 fail fu (fun y29 => bif y29 then (p26 fail fu (fun y30 => p13_1 fail fu  K0  (cmpStd .eql ((y30.length : Nat) : Int) 1)) nilE 0 0 nilE) else (p13_1 fail fu  K0  false)) y14 y15 y16 y17 y18 y20 y21 y22 y23 y24) else (p13_1 fail fu  K0  false)) else (p13_1 fail fu  K0  false)) else (p13_1 fail fu  K0  false))) (y19 ++ (List.take 1 [[(CV.v (.int .u8 9))]]))))) nilE y14 y15 y16 y17 y18) y4 y5 y6 y7 y8 y9 y10 y11 y12 y13) 0) y1 y2 y3) 
theorem d_p13 (fu : Nat)  {K0 : Bool → Prop} (L : EL → Nat) (hN : L = List.length)  (h : p13 False fu K0 ) : Den Try.prog G0 13 [] (fun r bs => (∃ (y0 : Bool), (r = .c (.v (.bool y0)) ∧ bs = []) ∧ K0 y0)) := by
  obtain ⟨O, hO⟩ : ∃ O, O = std 0 T G0 (Den Try.prog G0) := ⟨_, rfl⟩
  have hLO : L = O.len := by rw [hN, hO]; rfl
  subst hLO
  refine den_h hO tiA mixed tabOk (fn := Try.f13) (sh := true) (by kernel_rfl) rfl rfl rfl rfl ?_
  intro Q hQ
  unfold p13 at h
  conv => cbv
  refine call_h hO [] (d_p50 fu O.len hN h) ?_
  intro os Q hos hQ
  conv => cbv
  refine ⟨(by (rw [hos]) <;> (subst hO; rfl)), ?_⟩
  intro r bs hq
  rw [hQ] at hq
  clear hos hQ h
  obtain ⟨y1, y2, y3, ⟨rfl, rfl⟩, h⟩ := hq
  conv => cbv
  refine call_h hO [.shut] (d_p49 fu O.len hN h) ?_
  intro os Q hos hQ
  conv => cbv
  refine ⟨(by (rw [hos]) <;> (subst hO; rfl)), ?_⟩
  intro r bs hq
  rw [hQ] at hq
  clear hos hQ h
  obtain ⟨y4, y5, y6, y7, y8, _, ⟨rfl, rfl⟩, h⟩ := hq
  conv => cbv
  refine call_h hO [.shut] (d_p51 fu O.len hN h) ?_
  intro os Q hos hQ
  conv => cbv
  refine ⟨(by (rw [hos]) <;> (subst hO; rfl)), ?_⟩
  intro r bs hq
  rw [hQ] at hq
  clear hos hQ h
  obtain ⟨y9, y10, y11, y12, y13, _, ⟨rfl, rfl⟩, h⟩ := hq
  conv => cbv
  refine call_h hO [.shut, .shut] (d_p48 fu O.len hN h) ?_
  intro os Q hos hQ
  conv => cbv
  refine ⟨(by (rw [hos]) <;> (subst hO; rfl)), ?_⟩
  intro r bs hq
  rw [hQ] at hq
  clear hos hQ h
  obtain ⟨y14, y15, y16, y17, y18, _, _, ⟨rfl, rfl⟩, h⟩ := hq
  conv => cbv
  refine call_h hO [.shut, .shut] (d_p17 fu O.len hN h) ?_
  intro os Q hos hQ
  conv => cbv
  refine ⟨(by (rw [hos]) <;> (subst hO; rfl)), ?_⟩
  intro r bs hq
  rw [hQ] at hq
  clear hos hQ h
  obtain ⟨y19, _, _, ⟨rfl, rfl⟩, h⟩ := hq
  conv => cbv
  refine alt_r hO ?_
  conv => cbv
  refine view_full hO ?_
  conv => cbv
  refine view_h hO h (fun g => (by subst hO; exact g)) (fun h => ?_)
  conv => cbv
  refine ⟨(by subst hO; rfl), ?_⟩
  refine and_h h (fun g => (by subst hO; exact g)) (fun h => ?_)
  refine call_h hO [.shut] (d_p18 fu O.len hN h) ?_
  intro os Q hos hQ
  conv => cbv
  refine view_full hO ?_
  conv => cbv
  refine ⟨(by (rw [hos]) <;> (subst hO; rfl)), ?_⟩
  intro r bs hq
  rw [hQ] at hq
  clear hos hQ h
  obtain ⟨y20, y21, y22, y23, y24, y25, y26, _, ⟨rfl, rfl⟩, h⟩ := hq
  conv => cbv
  refine reg_join hO tiA [0] [] [] (fun tm m => ∃ (j27 : Bool), ((tm = frame 0 42 [(0, .c (.v (.bool j27)))] ∧ m = ⟨[], 1⟩)) ∧ p13_1 False fu  K0  j27) (fun L hL_1 => ?_) ?_
  · conv => cbv
    refine tob_h hO h (by subst hO; rfl) (fun s28 h => ?_)
    conv => cbv
    refine br_h hO h (by subst hO; rfl) (fun hc1 h => ?_) (fun hc1 h => ?_)
    · conv => cbv
      refine br_t hO hc1 ?_
      conv => cbv
      refine br_t hO hc1 ?_
      conv => cbv
      refine br_h hO h (by subst hO; rfl) (fun hc2 h => ?_) (fun hc2 h => ?_)
      · conv => cbv
        refine br_t hO hc2 ?_
        conv => cbv
        refine br_t hO hc2 ?_
        conv => cbv
        refine br_h hO h (by subst hO; rfl) (fun hc3 h => ?_) (fun hc3 h => ?_)
        · conv => cbv
          refine br_t hO hc3 ?_
          conv => cbv
          refine br_t hO hc3 ?_
          conv => cbv
          refine call_h hO [.shut, .shut] (d_p19 fu O.len hN h) ?_
          intro os Q hos hQ
          conv => cbv
          refine ⟨(by (rw [hos]) <;> (subst hO; rfl)), ?_⟩
          intro r bs hq
          rw [hQ] at hq
          clear hos hQ h
          obtain ⟨y29, _, _, ⟨rfl, rfl⟩, h⟩ := hq
          conv => cbv
          refine br_t hO hc3 ?_
          conv => cbv
          refine br_h hO h (by subst hO; rfl) (fun hc4 h => ?_) (fun hc4 h => ?_)
          · conv => cbv
            refine br_t hO hc4 ?_
            conv => cbv
            refine call_h hO [.shut, .shut] (d_p26 fu O.len hN h) ?_
            intro os Q hos hQ
            conv => cbv
            refine ⟨(by (rw [hos]) <;> (subst hO; rfl)), ?_⟩
            intro r bs hq
            rw [hQ] at hq
            clear hos hQ h
            obtain ⟨y30, _, _, ⟨rfl, rfl⟩, h⟩ := hq
            conv => cbv
            refine br_t hO hc4 ?_
            conv => cbv
            refine br_t hO hc4 ?_
            conv => cbv
            refine br_t hO hc4 ?_
            conv => cbv
            exact hL_1 _ _ ⟨(cmpStd .eql ((y30.length : Nat) : Int) 1), ⟨(by (conv => lhs; cbv) <;> (subst hO; rfl)), (by (conv => lhs; cbv) <;> (subst hO; rfl))⟩, h⟩
          · conv => cbv
            refine br_f hO hc4 ?_
            conv => cbv
            refine br_f hO hc4 ?_
            conv => cbv
            refine br_f hO hc4 ?_
            conv => cbv
            refine br_f hO hc4 ?_
            conv => cbv
            exact hL_1 _ _ ⟨false, ⟨(by (conv => lhs; cbv) <;> (subst hO; rfl)), (by (conv => lhs; cbv) <;> (subst hO; rfl))⟩, h⟩
        · conv => cbv
          refine br_f hO hc3 ?_
          conv => cbv
          refine br_f hO hc3 ?_
          conv => cbv
          refine br_f hO hc3 ?_
          conv => cbv
          refine br_f hO rfl ?_
          conv => cbv
          refine br_f hO rfl ?_
          conv => cbv
          refine br_f hO rfl ?_
          conv => cbv
          refine br_f hO rfl ?_
          conv => cbv
          refine br_f hO rfl ?_
          conv => cbv
          exact hL_1 _ _ ⟨false, ⟨(by (conv => lhs; cbv) <;> (subst hO; rfl)), (by (conv => lhs; cbv) <;> (subst hO; rfl))⟩, h⟩
      · conv => cbv
        refine br_f hO hc2 ?_
        conv => cbv
        refine br_f hO hc2 ?_
        conv => cbv
        refine br_f hO rfl ?_
        conv => cbv
        refine br_f hO rfl ?_
        conv => cbv
        refine br_f hO rfl ?_
        conv => cbv
        refine br_f hO rfl ?_
        conv => cbv
        refine br_f hO rfl ?_
        conv => cbv
        refine br_f hO rfl ?_
        conv => cbv
        refine br_f hO rfl ?_
        conv => cbv
        refine br_f hO rfl ?_
        conv => cbv
        refine br_f hO rfl ?_
        conv => cbv
        exact hL_1 _ _ ⟨false, ⟨(by (conv => lhs; cbv) <;> (subst hO; rfl)), (by (conv => lhs; cbv) <;> (subst hO; rfl))⟩, h⟩
    · conv => cbv
      refine br_f hO hc1 ?_
      conv => cbv
      refine br_f hO hc1 ?_
      conv => cbv
      refine br_f hO rfl ?_
      conv => cbv
      refine br_f hO rfl ?_
      conv => cbv
      refine br_f hO rfl ?_
      conv => cbv
      refine br_f hO rfl ?_
      conv => cbv
      refine br_f hO rfl ?_
      conv => cbv
      refine br_f hO rfl ?_
      conv => cbv
      refine br_f hO rfl ?_
      conv => cbv
      refine br_f hO rfl ?_
      conv => cbv
      refine br_f hO rfl ?_
      conv => cbv
      refine br_f hO rfl ?_
      conv => cbv
      refine br_f hO rfl ?_
      conv => cbv
      refine br_f hO rfl ?_
      conv => cbv
      exact hL_1 _ _ ⟨false, ⟨(by (conv => lhs; cbv) <;> (subst hO; rfl)), (by (conv => lhs; cbv) <;> (subst hO; rfl))⟩, h⟩
  · rintro tm m ⟨j27, hs, h⟩
    unfold p13_1 at h
    obtain ⟨rfl, rfl⟩ := hs
    conv => cbv
    rw [hQ]
    exact ⟨j27, ⟨(by subst hO; rfl), (by subst hO; rfl)⟩, h⟩
end Go.Proofs.Ythncmjlcmlmnmaa

namespace Go.Proofs.Ythncmjlcmlmnmaa
open Go V
set_option maxRecDepth 100000
set_option maxHeartbeats 4000000
def p23_1 {ρ : Type} (fail : ρ) (fu : Nat)  (K0 : Bool → ρ) (rec1 : Int → ρ) (x0 : EL) (z1 : Int) : ρ :=
  bif (cmpStd .lss z1 ((x0.length : Nat) : Int)) then (gd ((0 : Int) ≤ z1) fail (gd ((z1 : Int) < (x0.length : Nat)) fail (rw_i64_i64_l3 fail (List.getD x0 ((z1 : Int).toNat) []) (fun c2 c3 c4 => p69 fail fu (fun y5 => bif (!y5) then (K0 false) else (rec1 (binStd .add .i64 z1 1))) c2 c3 c4 4)))) else (K0 true)
def p23_1L {ρ : Type} (fail : ρ) (fu : Nat)  (K0 : Bool → ρ)  (x0 : EL) : Nat → Int → ρ
  | 0, _ => fail
  | n + 1, z1 => p23_1 fail fu  K0 (p23_1L fail fu  K0  x0 n) x0 z1
/-- law4.Light -/
def p23 {ρ : Type} (fail : ρ) (fu : Nat)  (K0 : Bool → ρ) (x0 : EL) : ρ :=
  p23_1L fail fu  K0 x0 fu 0
theorem d_p23 (fu : Nat)  {K0 : Bool → Prop} (L : EL → Nat) (hN : L = List.length) {x0 : EL} (h : p23 False fu K0 x0) : Den Try.prog G0 23 [.c (.sl 3 x0 none)] (fun r bs => (∃ (y0 : Bool) (o0 : OV), (r = .c (.v (.bool y0)) ∧ bs = [o0]) ∧ K0 y0)) := by
  obtain ⟨O, hO⟩ : ∃ O, O = std 0 T G0 (Den Try.prog G0) := ⟨_, rfl⟩
  have hLO : L = O.len := by rw [hN, hO]; rfl
  subst hLO
  refine den_h hO tiA mixed tabOk (fn := Try.f23) (sh := true) (by kernel_rfl) rfl rfl rfl rfl ?_
  intro Q hQ
  unfold p23 at h
  conv => cbv
  refine loop_of hO tiA [0, 3] [] [] (fun (n : Nat) tm m => ∃ (z1 : Int), ((tm = frame 0 16 [(0, .c (.sl 3 x0 none)), (3, .c (.v (.int .i64 z1)))] ∧ m = ⟨[], 1⟩)) ∧ p23_1L False fu  K0 x0 n z1) (fun n => n) fu ⟨0, ⟨(by (conv => lhs; cbv) <;> (subst hO; rfl)), (by (conv => lhs; cbv) <;> (subst hO; rfl))⟩, h⟩ ?_
  rintro n1 tm m L ⟨z1, hs, h⟩ hLn1
  cases n1 with
  | zero => rw [p23_1L] at h; exact h.elim
  | succ n1 =>
    rw [p23_1L] at h
    unfold p23_1 at h
    obtain ⟨rfl, rfl⟩ := hs
    conv => cbv
    refine br_h hO h (by subst hO; rfl) (fun hc1 h => ?_) (fun hc1 h => ?_)
    · conv => cbv
      refine join_all hO ?_
      conv => cbv
      refine and_h h (fun g => (by subst hO; exact g)) (fun h => ?_)
      refine and_h h (fun g => (by subst hO; exact g)) (fun h => ?_)
      obtain ⟨c2, c3, c4, hr, h⟩ := rw_i64_i64_l3_inv h
      refine elem_of hO _ (by subst hO; exact hr) ?_
      clear hr
      conv => cbv
      refine call_h hO [.shut, .shut] (d_p69 fu O.len hN h) ?_
      intro os Q hos hQ
      conv => cbv
      refine ⟨(by (rw [hos]) <;> (subst hO; rfl)), ?_⟩
      intro r bs hq
      rw [hQ] at hq
      clear hos hQ h
      obtain ⟨y5, _, _, ⟨rfl, rfl⟩, h⟩ := hq
      conv => cbv
      refine br_h hO h (by subst hO; rfl) (fun hc2 h => ?_) (fun hc2 h => ?_)
      · conv => cbv
        rw [hQ]
        exact ⟨false, _, ⟨(by subst hO; rfl), (by subst hO; rfl)⟩, h⟩
      · conv => cbv
        refine join_all hO ?_
        conv => cbv
        exact hLn1 n1 _ _ (Nat.lt_succ_self n1) ⟨binStd .add .i64 z1 1, ⟨(by (conv => lhs; cbv) <;> (subst hO; rfl)), (by (conv => lhs; cbv) <;> (subst hO; rfl))⟩, h⟩
    · conv => cbv
      rw [hQ]
      exact ⟨true, _, ⟨(by subst hO; rfl), (by subst hO; rfl)⟩, h⟩
end Go.Proofs.Ythncmjlcmlmnmaa

namespace Go.Proofs.Ythncmjlcmlmnmaa
open Go V
set_option maxRecDepth 100000
set_option maxHeartbeats 4000000
def p24_1 {ρ : Type} (fail : ρ) (fu : Nat)  (K0 : Bool → ρ) (rec1 : Int → ρ) (z3 : Int) (j4 : Bool) : ρ :=
  bif j4 then (K0 false) else (rec1 (binStd .add .i64 z3 1))
def p24_2 {ρ : Type} (fail : ρ) (fu : Nat)  (K0 : Bool → ρ) (rec1 : Int → ρ) (x15 : EL) (z3 : Int) : ρ :=
  bif (cmpStd .lss z3 ((x15.length : Nat) : Int)) then (gd ((0 : Int) ≤ z3) fail (gd ((z3 : Int) < (x15.length : Nat)) fail (rw_s_i64_i64_s_l3_l5 fail (List.getD x15 ((z3 : Int).toNat) []) (fun c5 c6 c7 c8 c9 c10 => bif (cmpStd .gtr ((c5.size : Nat) : Int) 24) then (p24_1 fail fu  K0 rec1 z3 true) else (gd ((0 : Int) ≤ z3) fail (gd ((z3 : Int) < (x15.length : Nat)) fail (rw_s_i64_i64_s_l3_l5 fail (List.getD x15 ((z3 : Int).toNat) []) (fun c11 c12 c13 c14 c15 c16 => p16 fail fu (fun y17 => p24_1 fail fu  K0 rec1 z3 (!y17)) c12 c13 c14 c15 c16)))))))) else (K0 true)
def p24_2L {ρ : Type} (fail : ρ) (fu : Nat)  (K0 : Bool → ρ)  (x15 : EL) : Nat → Int → ρ
  | 0, _ => fail
  | n + 1, z3 => p24_2 fail fu  K0 (p24_2L fail fu  K0  x15 n) x15 z3
def p24_3 {ρ : Type} (fail : ρ) (fu : Nat)  (K0 : Bool → ρ)  (x15 : EL) (j2 : Bool) : ρ :=
  bif j2 then (K0 false) else (p24_2L fail fu  K0 x15 fu 0)
def p24_4 {ρ : Type} (fail : ρ) (fu : Nat)  (K0 : Bool → ρ)  (x0 : Int) (x10 : Int) (x11 : Int) (x12 : ByteArray) (x13 : EL) (x14 : EL) (x15 : EL) (j1 : Bool) : ρ :=
  bif j1 then (K0 false) else (bif (cmpStd .eql x0 2) then (p16 fail fu (fun y18 => bif (!y18) then (p24_3 fail fu  K0 x15 true) else (p24_3 fail fu  K0 x15 false)) x10 x11 x12 x13 x14) else (p19 fail fu (fun y19 => p24_3 fail fu  K0 x15 (!y19)) x10 x11 x12 x13 x14 0 0 ⟨#[]⟩ nilE nilE))
/-- ref6.MayDecl -/
def p24 {ρ : Type} (fail : ρ) (fu : Nat)  (K0 : Bool → ρ) (x0 : Int) (x1 : Int) (x2 : Int) (x3 : ByteArray) (x4 : ByteArray) (x5 : Int) (x6 : Int) (x7 : ByteArray) (x8 : EL) (x9 : EL) (x10 : Int) (x11 : Int) (x12 : ByteArray) (x13 : EL) (x14 : EL) (x15 : EL) : ρ :=
  bif (cmpStd .lss x0 1) then (p24_4 fail fu  K0 x0 x10 x11 x12 x13 x14 x15 true) else (bif (cmpStd .gtr x0 5) then (p24_4 fail fu  K0 x0 x10 x11 x12 x13 x14 x15 true) else (bif (cmpStd .lss x1 0) then (p24_4 fail fu  K0 x0 x10 x11 x12 x13 x14 x15 true) else (bif (cmpStd .gtr x1 1073741824) then (p24_4 fail fu  K0 x0 x10 x11 x12 x13 x14 x15 true) else (bif (cmpStd .lss x2 0) then (p24_4 fail fu  K0 x0 x10 x11 x12 x13 x14 x15 true) else (bif (cmpStd .gtr x2 1073741824) then (p24_4 fail fu  K0 x0 x10 x11 x12 x13 x14 x15 true) else (bif (cmpStd .gtr ((x3.size : Nat) : Int) 24) then (p24_4 fail fu  K0 x0 x10 x11 x12 x13 x14 x15 true) else (bif (cmpStd .gtr ((x4.size : Nat) : Int) 24) then (p24_4 fail fu  K0 x0 x10 x11 x12 x13 x14 x15 true) else (p16 fail fu (fun y20 => bif (!y20) then (p24_4 fail fu  K0 x0 x10 x11 x12 x13 x14 x15 true) else (p24_4 fail fu  K0 x0 x10 x11 x12 x13 x14 x15 (cmpStd .gtr ((x15.length : Nat) : Int) 5))) x5 x6 x7 x8 x9))))))))
theorem d_p24 (fu : Nat)  {K0 : Bool → Prop} (L : EL → Nat) (hN : L = List.length) {x0 : Int} {x1 : Int} {x2 : Int} {x3 : ByteArray} {x4 : ByteArray} {x5 : Int} {x6 : Int} {x7 : ByteArray} {x8 : EL} {x9 : EL} {x10 : Int} {x11 : Int} {x12 : ByteArray} {x13 : EL} {x14 : EL} {x15 : EL} (h : p24 False fu K0 x0 x1 x2 x3 x4 x5 x6 x7 x8 x9 x10 x11 x12 x13 x14 x15) : Den Try.prog G0 24 [.agg [.c (.v (.int .i64 x0)), .c (.v (.int .i64 x1)), .c (.v (.int .i64 x2)), .c (.v (.string x3)), .c (.v (.string x4)), .c (.v (.int .i64 x5)), .c (.v (.int .i64 x6)), .c (.v (.string x7)), .c (.sl 3 x8 none), .c (.sl 5 x9 none), .c (.v (.int .i64 x10)), .c (.v (.int .i64 x11)), .c (.v (.string x12)), .c (.sl 3 x13 none), .c (.sl 5 x14 none), .c (.sl 6 x15 none)]] (fun r bs => (∃ (y0 : Bool) (o0 : OV), (r = .c (.v (.bool y0)) ∧ bs = [o0]) ∧ K0 y0)) := by
  obtain ⟨O, hO⟩ : ∃ O, O = std 0 T G0 (Den Try.prog G0) := ⟨_, rfl⟩
  have hLO : L = O.len := by rw [hN, hO]; rfl
  subst hLO
  refine den_h hO tiA mixed tabOk (fn := Try.f24) (sh := true) (by kernel_rfl) rfl rfl rfl rfl ?_
  intro Q hQ
  unfold p24 at h
  conv => cbv
  refine reg_join hO tiA [1, 55] [2000] [] (fun tm m => ∃ (j1 : Bool), ((tm = frame 0 102 [(1, .p 2000 0 0), (55, .c (.v (.bool j1)))] ∧ m = ⟨[(2000, .blk 0 [.c (.v (.int .i64 x0)), .c (.v (.int .i64 x1)), .c (.v (.int .i64 x2)), .c (.v (.string x3)), .c (.v (.string x4)), .c (.v (.int .i64 x5)), .c (.v (.int .i64 x6)), .c (.v (.string x7)), .c (.sl 3 x8 none), .c (.sl 5 x9 none), .c (.v (.int .i64 x10)), .c (.v (.int .i64 x11)), .c (.v (.string x12)), .c (.sl 3 x13 none), .c (.sl 5 x14 none), .c (.sl 6 x15 none)])], 1⟩)) ∧ p24_4 False fu  K0 x0 x10 x11 x12 x13 x14 x15 j1) (fun L hL_4 => ?_) ?_
  · conv => cbv
    refine br_h hO h (by subst hO; rfl) (fun hc8 h => ?_) (fun hc8 h => ?_)
    · conv => cbv
      refine br_t hO hc8 ?_
      conv => cbv
      refine br_t hO hc8 ?_
      conv => cbv
      refine br_t hO hc8 ?_
      conv => cbv
      refine br_t hO rfl ?_
      conv => cbv
      refine br_t hO rfl ?_
      conv => cbv
      refine br_t hO rfl ?_
      conv => cbv
      refine br_t hO rfl ?_
      conv => cbv
      refine br_t hO rfl ?_
      conv => cbv
      refine br_t hO rfl ?_
      conv => cbv
      refine br_t hO rfl ?_
      conv => cbv
      refine br_t hO rfl ?_
      conv => cbv
      refine br_t hO rfl ?_
      conv => cbv
      refine br_t hO rfl ?_
      conv => cbv
      refine br_t hO rfl ?_
      conv => cbv
      refine br_t hO rfl ?_
      conv => cbv
      refine br_t hO rfl ?_
      conv => cbv
      refine br_t hO rfl ?_
      conv => cbv
      refine br_t hO rfl ?_
      conv => cbv
      refine br_t hO rfl ?_
      conv => cbv
      refine br_t hO rfl ?_
      conv => cbv
      refine br_t hO rfl ?_
      conv => cbv
      refine br_t hO rfl ?_
      conv => cbv
      refine br_t hO rfl ?_
      conv => cbv
      refine br_t hO rfl ?_
      conv => cbv
      refine br_t hO rfl ?_
      conv => cbv
      refine br_t hO rfl ?_
      conv => cbv
      refine br_t hO rfl ?_
      conv => cbv
      refine br_t hO rfl ?_
      conv => cbv
      refine br_t hO rfl ?_
      conv => cbv
      refine br_t hO rfl ?_
      conv => cbv
      refine br_t hO rfl ?_
      conv => cbv
      refine br_t hO rfl ?_
      conv => cbv
      refine br_t hO rfl ?_
      conv => cbv
      refine br_t hO rfl ?_
      conv => cbv
      refine br_t hO rfl ?_
      conv => cbv
      refine br_t hO rfl ?_
      conv => cbv
      refine br_t hO rfl ?_
      conv => cbv
      refine br_t hO rfl ?_
      conv => cbv
      refine br_t hO rfl ?_
      conv => cbv
      exact hL_4 _ _ ⟨true, ⟨(by (conv => lhs; cbv) <;> (subst hO; rfl)), (by (conv => lhs; cbv) <;> (subst hO; rfl))⟩, h⟩
    · conv => cbv
      refine br_f hO hc8 ?_
      conv => cbv
      refine br_f hO hc8 ?_
      conv => cbv
      refine br_f hO hc8 ?_
      conv => cbv
      refine br_h hO h (by subst hO; rfl) (fun hc9 h => ?_) (fun hc9 h => ?_)
      · conv => cbv
        refine br_t hO hc9 ?_
        conv => cbv
        refine br_t hO hc9 ?_
        conv => cbv
        refine br_t hO hc9 ?_
        conv => cbv
        refine br_t hO rfl ?_
        conv => cbv
        refine br_t hO rfl ?_
        conv => cbv
        refine br_t hO rfl ?_
        conv => cbv
        refine br_t hO rfl ?_
        conv => cbv
        refine br_t hO rfl ?_
        conv => cbv
        refine br_t hO rfl ?_
        conv => cbv
        refine br_t hO rfl ?_
        conv => cbv
        refine br_t hO rfl ?_
        conv => cbv
        refine br_t hO rfl ?_
        conv => cbv
        refine br_t hO rfl ?_
        conv => cbv
        refine br_t hO rfl ?_
        conv => cbv
        refine br_t hO rfl ?_
        conv => cbv
        refine br_t hO rfl ?_
        conv => cbv
        refine br_t hO rfl ?_
        conv => cbv
        refine br_t hO rfl ?_
        conv => cbv
        refine br_t hO rfl ?_
        conv => cbv
        refine br_t hO rfl ?_
        conv => cbv
        refine br_t hO rfl ?_
        conv => cbv
        refine br_t hO rfl ?_
        conv => cbv
        refine br_t hO rfl ?_
        conv => cbv
        refine br_t hO rfl ?_
        conv => cbv
        refine br_t hO rfl ?_
        conv => cbv
        refine br_t hO rfl ?_
        conv => cbv
        refine br_t hO rfl ?_
        conv => cbv
        refine br_t hO rfl ?_
        conv => cbv
        refine br_t hO rfl ?_
        conv => cbv
        refine br_t hO rfl ?_
        conv => cbv
        refine br_t hO rfl ?_
        conv => cbv
        refine br_t hO rfl ?_
        conv => cbv
        refine br_t hO rfl ?_
        conv => cbv
        refine br_t hO rfl ?_
        conv => cbv
        refine br_t hO rfl ?_
        conv => cbv
        exact hL_4 _ _ ⟨true, ⟨(by (conv => lhs; cbv) <;> (subst hO; rfl)), (by (conv => lhs; cbv) <;> (subst hO; rfl))⟩, h⟩
      · conv => cbv
        refine br_f hO hc9 ?_
        conv => cbv
        refine br_f hO hc9 ?_
        conv => cbv
        refine br_f hO hc9 ?_
        conv => cbv
        refine br_h hO h (by subst hO; rfl) (fun hc10 h => ?_) (fun hc10 h => ?_)
        · conv => cbv
          refine br_t hO hc10 ?_
          conv => cbv
          refine br_t hO hc10 ?_
          conv => cbv
          refine br_t hO hc10 ?_
          conv => cbv
          refine br_t hO rfl ?_
          conv => cbv
          refine br_t hO rfl ?_
          conv => cbv
          refine br_t hO rfl ?_
          conv => cbv
          refine br_t hO rfl ?_
          conv => cbv
          refine br_t hO rfl ?_
          conv => cbv
          refine br_t hO rfl ?_
          conv => cbv
          refine br_t hO rfl ?_
          conv => cbv
          refine br_t hO rfl ?_
          conv => cbv
          refine br_t hO rfl ?_
          conv => cbv
          refine br_t hO rfl ?_
          conv => cbv
          refine br_t hO rfl ?_
          conv => cbv
          refine br_t hO rfl ?_
          conv => cbv
          refine br_t hO rfl ?_
          conv => cbv
          refine br_t hO rfl ?_
          conv => cbv
          refine br_t hO rfl ?_
          conv => cbv
          refine br_t hO rfl ?_
          conv => cbv
          refine br_t hO rfl ?_
          conv => cbv
          refine br_t hO rfl ?_
          conv => cbv
          refine br_t hO rfl ?_
          conv => cbv
          refine br_t hO rfl ?_
          conv => cbv
          refine br_t hO rfl ?_
          conv => cbv
          refine br_t hO rfl ?_
          conv => cbv
          refine br_t hO rfl ?_
          conv => cbv
          refine br_t hO rfl ?_
          conv => cbv
          refine br_t hO rfl ?_
          conv => cbv
          refine br_t hO rfl ?_
          conv => cbv
          refine br_t hO rfl ?_
          conv => cbv
          refine br_t hO rfl ?_
          conv => cbv
          exact hL_4 _ _ ⟨true, ⟨(by (conv => lhs; cbv) <;> (subst hO; rfl)), (by (conv => lhs; cbv) <;> (subst hO; rfl))⟩, h⟩
        · conv => cbv
          refine br_f hO hc10 ?_
          conv => cbv
          refine br_f hO hc10 ?_
          conv => cbv
          refine br_f hO hc10 ?_
          conv => cbv
          refine br_h hO h (by subst hO; rfl) (fun hc11 h => ?_) (fun hc11 h => ?_)
          · conv => cbv
            refine br_t hO hc11 ?_
            conv => cbv
            refine br_t hO hc11 ?_
            conv => cbv
            refine br_t hO hc11 ?_
            conv => cbv
            refine br_t hO rfl ?_
            conv => cbv
            refine br_t hO rfl ?_
            conv => cbv
            refine br_t hO rfl ?_
            conv => cbv
            refine br_t hO rfl ?_
            conv => cbv
            refine br_t hO rfl ?_
            conv => cbv
            refine br_t hO rfl ?_
            conv => cbv
            refine br_t hO rfl ?_
            conv => cbv
            refine br_t hO rfl ?_
            conv => cbv
            refine br_t hO rfl ?_
            conv => cbv
            refine br_t hO rfl ?_
            conv => cbv
            refine br_t hO rfl ?_
            conv => cbv
            refine br_t hO rfl ?_
            conv => cbv
            refine br_t hO rfl ?_
            conv => cbv
            refine br_t hO rfl ?_
            conv => cbv
            refine br_t hO rfl ?_
            conv => cbv
            refine br_t hO rfl ?_
            conv => cbv
            refine br_t hO rfl ?_
            conv => cbv
            refine br_t hO rfl ?_
            conv => cbv
            refine br_t hO rfl ?_
            conv => cbv
            refine br_t hO rfl ?_
            conv => cbv
            refine br_t hO rfl ?_
            conv => cbv
            refine br_t hO rfl ?_
            conv => cbv
            refine br_t hO rfl ?_
            conv => cbv
            refine br_t hO rfl ?_
            conv => cbv
            exact hL_4 _ _ ⟨true, ⟨(by (conv => lhs; cbv) <;> (subst hO; rfl)), (by (conv => lhs; cbv) <;> (subst hO; rfl))⟩, h⟩
          · conv => cbv
            refine br_f hO hc11 ?_
            conv => cbv
            refine br_f hO hc11 ?_
            conv => cbv
            refine br_f hO hc11 ?_
            conv => cbv
            refine br_h hO h (by subst hO; rfl) (fun hc12 h => ?_) (fun hc12 h => ?_)
            · conv => cbv
              refine br_t hO hc12 ?_
              conv => cbv
              refine br_t hO hc12 ?_
              conv => cbv
              refine br_t hO hc12 ?_
              conv => cbv
              refine br_t hO rfl ?_
              conv => cbv
              refine br_t hO rfl ?_
              conv => cbv
              refine br_t hO rfl ?_
              conv => cbv
              refine br_t hO rfl ?_
              conv => cbv
              refine br_t hO rfl ?_
              conv => cbv
              refine br_t hO rfl ?_
              conv => cbv
              refine br_t hO rfl ?_
              conv => cbv
              refine br_t hO rfl ?_
              conv => cbv
              refine br_t hO rfl ?_
              conv => cbv
              refine br_t hO rfl ?_
              conv => cbv
              refine br_t hO rfl ?_
              conv => cbv
              refine br_t hO rfl ?_
              conv => cbv
              refine br_t hO rfl ?_
              conv => cbv
              refine br_t hO rfl ?_
              conv => cbv
              refine br_t hO rfl ?_
              conv => cbv
              refine br_t hO rfl ?_
              conv => cbv
              refine br_t hO rfl ?_
              conv => cbv
              refine br_t hO rfl ?_
              conv => cbv
              refine br_t hO rfl ?_
              conv => cbv
              refine br_t hO rfl ?_
              conv => cbv
              exact hL_4 _ _ ⟨true, ⟨(by (conv => lhs; cbv) <;> (subst hO; rfl)), (by (conv => lhs; cbv) <;> (subst hO; rfl))⟩, h⟩
            · conv => cbv
              refine br_f hO hc12 ?_
              conv => cbv
              refine br_f hO hc12 ?_
              conv => cbv
              refine br_f hO hc12 ?_
              conv => cbv
              refine br_h hO h (by subst hO; rfl) (fun hc13 h => ?_) (fun hc13 h => ?_)
              · conv => cbv
                refine br_t hO hc13 ?_
                conv => cbv
                refine br_t hO hc13 ?_
                conv => cbv
                refine br_t hO hc13 ?_
                conv => cbv
                refine br_t hO hc13 ?_
                conv => cbv
                refine br_t hO rfl ?_
                conv => cbv
                refine br_t hO rfl ?_
                conv => cbv
                refine br_t hO rfl ?_
                conv => cbv
                refine br_t hO rfl ?_
                conv => cbv
                refine br_t hO rfl ?_
                conv => cbv
                refine br_t hO rfl ?_
                conv => cbv
                refine br_t hO rfl ?_
                conv => cbv
                refine br_t hO rfl ?_
                conv => cbv
                refine br_t hO rfl ?_
                conv => cbv
                refine br_t hO rfl ?_
                conv => cbv
                refine br_t hO rfl ?_
                conv => cbv
                refine br_t hO rfl ?_
                conv => cbv
                refine br_t hO rfl ?_
                conv => cbv
                refine br_t hO rfl ?_
                conv => cbv
                refine br_t hO rfl ?_
                conv => cbv
                exact hL_4 _ _ ⟨true, ⟨(by (conv => lhs; cbv) <;> (subst hO; rfl)), (by (conv => lhs; cbv) <;> (subst hO; rfl))⟩, h⟩
              · conv => cbv
                refine br_f hO hc13 ?_
                conv => cbv
                refine br_f hO hc13 ?_
                conv => cbv
                refine br_f hO hc13 ?_
                conv => cbv
                refine br_f hO hc13 ?_
                conv => cbv
                refine br_h hO h (by subst hO; rfl) (fun hc14 h => ?_) (fun hc14 h => ?_)
                · conv => cbv
                  refine br_t hO hc14 ?_
                  conv => cbv
                  refine br_t hO hc14 ?_
                  conv => cbv
                  refine br_t hO hc14 ?_
                  conv => cbv
                  refine br_t hO hc14 ?_
                  conv => cbv
                  refine br_t hO rfl ?_
                  conv => cbv
                  refine br_t hO rfl ?_
                  conv => cbv
                  refine br_t hO rfl ?_
                  conv => cbv
                  refine br_t hO rfl ?_
                  conv => cbv
                  refine br_t hO rfl ?_
                  conv => cbv
                  refine br_t hO rfl ?_
                  conv => cbv
                  refine br_t hO rfl ?_
                  conv => cbv
                  refine br_t hO rfl ?_
                  conv => cbv
                  refine br_t hO rfl ?_
                  conv => cbv
                  refine br_t hO rfl ?_
                  conv => cbv
                  exact hL_4 _ _ ⟨true, ⟨(by (conv => lhs; cbv) <;> (subst hO; rfl)), (by (conv => lhs; cbv) <;> (subst hO; rfl))⟩, h⟩
                · conv => cbv
                  refine br_f hO hc14 ?_
                  conv => cbv
                  refine br_f hO hc14 ?_
                  conv => cbv
                  refine br_f hO hc14 ?_
                  conv => cbv
                  refine br_f hO hc14 ?_
                  conv => cbv
                  refine br_h hO h (by subst hO; rfl) (fun hc15 h => ?_) (fun hc15 h => ?_)
                  · conv => cbv
                    refine br_t hO hc15 ?_
                    conv => cbv
                    refine br_t hO hc15 ?_
                    conv => cbv
                    refine br_t hO hc15 ?_
                    conv => cbv
                    refine br_t hO hc15 ?_
                    conv => cbv
                    refine br_t hO rfl ?_
                    conv => cbv
                    refine br_t hO rfl ?_
                    conv => cbv
                    refine br_t hO rfl ?_
                    conv => cbv
                    refine br_t hO rfl ?_
                    conv => cbv
                    refine br_t hO rfl ?_
                    conv => cbv
                    exact hL_4 _ _ ⟨true, ⟨(by (conv => lhs; cbv) <;> (subst hO; rfl)), (by (conv => lhs; cbv) <;> (subst hO; rfl))⟩, h⟩
                  · conv => cbv
                    refine br_f hO hc15 ?_
                    conv => cbv
                    refine br_f hO hc15 ?_
                    conv => cbv
                    refine call_h hO [.shut] (d_p16 fu O.len hN h) ?_
                    intro os Q hos hQ
                    conv => cbv
                    refine ⟨(by (rw [hos]) <;> (subst hO; rfl)), ?_⟩
                    intro r bs hq
                    rw [hQ] at hq
                    clear hos hQ h
                    obtain ⟨y20, _, ⟨rfl, rfl⟩, h⟩ := hq
                    conv => cbv
                    refine br_f hO hc15 ?_
                    conv => cbv
                    refine br_f hO hc15 ?_
                    conv => cbv
                    refine br_h hO h (by subst hO; rfl) (fun hc16 h => ?_) (fun hc16 h => ?_)
                    · conv => cbv
                      refine br_t hO hc16 ?_
                      conv => cbv
                      refine br_t hO hc16 ?_
                      conv => cbv
                      refine br_t hO hc16 ?_
                      conv => cbv
                      refine br_t hO hc16 ?_
                      conv => cbv
                      exact hL_4 _ _ ⟨true, ⟨(by (conv => lhs; cbv) <;> (subst hO; rfl)), (by (conv => lhs; cbv) <;> (subst hO; rfl))⟩, h⟩
                    · conv => cbv
                      refine br_f hO hc16 ?_
                      conv => cbv
                      refine br_f hO hc16 ?_
                      conv => cbv
                      refine br_f hO hc16 ?_
                      conv => cbv
                      refine br_f hO hc16 ?_
                      conv => cbv
                      exact hL_4 _ _ ⟨(cmpStd .gtr ((x15.length : Nat) : Int) 5), ⟨(by (conv => lhs; cbv) <;> (subst hO; rfl)), (by (conv => lhs; cbv) <;> (subst hO; rfl))⟩, h⟩
  · rintro tm m ⟨j1, hs, h⟩
    unfold p24_4 at h
    obtain ⟨rfl, rfl⟩ := hs
    conv => cbv
    refine br_h hO h (by subst hO; rfl) (fun hc1 h => ?_) (fun hc1 h => ?_)
    · conv => cbv
      rw [hQ]
      exact ⟨false, _, ⟨(by subst hO; rfl), (by subst hO; rfl)⟩, h⟩
    · conv => cbv
      refine join_all hO ?_
      conv => cbv
      refine reg_join hO tiA [1, 76] [2000] [] (fun tm m => ∃ (j2 : Bool), ((tm = frame 0 102 [(1, .p 2000 0 0), (76, .c (.v (.bool j2)))] ∧ m = ⟨[(2000, .blk 0 [.c (.v (.int .i64 x0)), .c (.v (.int .i64 x1)), .c (.v (.int .i64 x2)), .c (.v (.string x3)), .c (.v (.string x4)), .c (.v (.int .i64 x5)), .c (.v (.int .i64 x6)), .c (.v (.string x7)), .c (.sl 3 x8 none), .c (.sl 5 x9 none), .c (.v (.int .i64 x10)), .c (.v (.int .i64 x11)), .c (.v (.string x12)), .c (.sl 3 x13 none), .c (.sl 5 x14 none), .c (.sl 6 x15 none)])], 1⟩)) ∧ p24_3 False fu  K0 x15 j2) (fun L hL_3 => ?_) ?_
      · conv => cbv
        refine br_h hO h (by subst hO; rfl) (fun hc6 h => ?_) (fun hc6 h => ?_)
        · conv => cbv
          refine br_t hO hc6 ?_
          conv => cbv
          refine br_t hO hc6 ?_
          conv => cbv
          refine call_h hO [.shut] (d_p16 fu O.len hN h) ?_
          intro os Q hos hQ
          conv => cbv
          refine ⟨(by (rw [hos]) <;> (subst hO; rfl)), ?_⟩
          intro r bs hq
          rw [hQ] at hq
          clear hos hQ h
          obtain ⟨y18, _, ⟨rfl, rfl⟩, h⟩ := hq
          conv => cbv
          refine br_t hO hc6 ?_
          conv => cbv
          refine br_t hO hc6 ?_
          conv => cbv
          refine br_h hO h (by subst hO; rfl) (fun hc7 h => ?_) (fun hc7 h => ?_)
          · conv => cbv
            refine br_t hO hc7 ?_
            conv => cbv
            refine br_t hO hc7 ?_
            conv => cbv
            refine br_t hO hc7 ?_
            conv => cbv
            refine br_t hO hc7 ?_
            conv => cbv
            refine br_t hO hc7 ?_
            conv => cbv
            exact hL_3 _ _ ⟨true, ⟨(by (conv => lhs; cbv) <;> (subst hO; rfl)), (by (conv => lhs; cbv) <;> (subst hO; rfl))⟩, h⟩
          · conv => cbv
            refine br_f hO hc7 ?_
            conv => cbv
            refine br_f hO hc7 ?_
            conv => cbv
            refine br_f hO hc7 ?_
            conv => cbv
            refine br_f hO (opp_of hO .eql .neq rfl rfl rfl hc6) ?_
            conv => cbv
            refine br_f hO (opp_of hO .eql .neq rfl rfl rfl hc6) ?_
            conv => cbv
            refine br_f hO (opp_of hO .eql .neq rfl rfl rfl hc6) ?_
            conv => cbv
            refine br_f hO (opp_of hO .eql .neq rfl rfl rfl hc6) ?_
            conv => cbv
            refine br_f hO (opp_of hO .eql .neq rfl rfl rfl hc6) ?_
            conv => cbv
            refine br_f hO hc7 ?_
            conv => cbv
            refine br_f hO (opp_of hO .eql .neq rfl rfl rfl hc6) ?_
            conv => cbv
            refine br_f hO hc7 ?_
            conv => cbv
            exact hL_3 _ _ ⟨false, ⟨(by (conv => lhs; cbv) <;> (subst hO; rfl)), (by (conv => lhs; cbv) <;> (subst hO; rfl))⟩, h⟩
        · conv => cbv
          refine br_f hO hc6 ?_
          conv => cbv
          refine br_f hO hc6 ?_
          conv => cbv
          refine br_f hO hc6 ?_
          conv => cbv
          refine br_f hO hc6 ?_
          conv => cbv
          refine br_f hO rfl ?_
          conv => cbv
          refine br_f hO rfl ?_
          conv => cbv
          refine br_f hO rfl ?_
          conv => cbv
          refine br_f hO rfl ?_
          conv => cbv
          refine br_t hO (opp_of hO .eql .neq rfl rfl rfl hc6) ?_
          conv => cbv
          refine br_t hO (opp_of hO .eql .neq rfl rfl rfl hc6) ?_
          conv => cbv
          refine br_t hO (opp_of hO .eql .neq rfl rfl rfl hc6) ?_
          conv => cbv
          refine br_t hO (opp_of hO .eql .neq rfl rfl rfl hc6) ?_
          conv => cbv
          refine call_h hO [.shut, .shut] (d_p19 fu O.len hN h) ?_
          intro os Q hos hQ
          conv => cbv
          refine ⟨(by (rw [hos]) <;> (subst hO; rfl)), ?_⟩
          intro r bs hq
          rw [hQ] at hq
          clear hos hQ h
          obtain ⟨y19, _, _, ⟨rfl, rfl⟩, h⟩ := hq
          conv => cbv
          refine br_t hO (opp_of hO .eql .neq rfl rfl rfl hc6) ?_
          conv => cbv
          refine br_f hO rfl ?_
          conv => cbv
          refine br_t hO (opp_of hO .eql .neq rfl rfl rfl hc6) ?_
          conv => cbv
          refine br_f hO rfl ?_
          conv => cbv
          exact hL_3 _ _ ⟨(!y19), ⟨(by (conv => lhs; cbv) <;> (subst hO; rfl)), (by (conv => lhs; cbv) <;> (subst hO; rfl))⟩, h⟩
      · rintro tm m ⟨j2, hs, h⟩
        unfold p24_3 at h
        obtain ⟨rfl, rfl⟩ := hs
        conv => cbv
        refine br_h hO h (by subst hO; rfl) (fun hc2 h => ?_) (fun hc2 h => ?_)
        · conv => cbv
          rw [hQ]
          exact ⟨false, _, ⟨(by subst hO; rfl), (by subst hO; rfl)⟩, h⟩
        · conv => cbv
          refine join_all hO ?_
          conv => cbv
          refine loop_of hO tiA [1, 3] [2000] [] (fun (n : Nat) tm m => ∃ (z3 : Int), ((tm = frame 0 102 [(1, .p 2000 0 0), (3, .c (.v (.int .i64 z3)))] ∧ m = ⟨[(2000, .blk 0 [.c (.v (.int .i64 x0)), .c (.v (.int .i64 x1)), .c (.v (.int .i64 x2)), .c (.v (.string x3)), .c (.v (.string x4)), .c (.v (.int .i64 x5)), .c (.v (.int .i64 x6)), .c (.v (.string x7)), .c (.sl 3 x8 none), .c (.sl 5 x9 none), .c (.v (.int .i64 x10)), .c (.v (.int .i64 x11)), .c (.v (.string x12)), .c (.sl 3 x13 none), .c (.sl 5 x14 none), .c (.sl 6 x15 none)])], 1⟩)) ∧ p24_2L False fu  K0 x15 n z3) (fun n => n) fu ⟨0, ⟨(by (conv => lhs; cbv) <;> (subst hO; rfl)), (by (conv => lhs; cbv) <;> (subst hO; rfl))⟩, h⟩ ?_
          rintro n1 tm m L ⟨z3, hs, h⟩ hLn1
          cases n1 with
          | zero => rw [p24_2L] at h; exact h.elim
          | succ n1 =>
            rw [p24_2L] at h
            unfold p24_2 at h
            obtain ⟨rfl, rfl⟩ := hs
            conv => cbv
            refine br_h hO h (by subst hO; rfl) (fun hc3 h => ?_) (fun hc3 h => ?_)
            · conv => cbv
              refine join_all hO ?_
              conv => cbv
              refine reg_join hO tiA [1, 3, 101] [2000] [] (fun tm m => ∃ (j4 : Bool), ((tm = frame 0 102 [(1, .p 2000 0 0), (3, .c (.v (.int .i64 z3))), (101, .c (.v (.bool j4)))] ∧ m = ⟨[(2000, .blk 0 [.c (.v (.int .i64 x0)), .c (.v (.int .i64 x1)), .c (.v (.int .i64 x2)), .c (.v (.string x3)), .c (.v (.string x4)), .c (.v (.int .i64 x5)), .c (.v (.int .i64 x6)), .c (.v (.string x7)), .c (.sl 3 x8 none), .c (.sl 5 x9 none), .c (.v (.int .i64 x10)), .c (.v (.int .i64 x11)), .c (.v (.string x12)), .c (.sl 3 x13 none), .c (.sl 5 x14 none), .c (.sl 6 x15 none)])], 1⟩)) ∧ p24_1 False fu  K0 (p24_2L False fu  K0  x15 n1) z3 j4) (fun L hL_1 => ?_) ?_
              · conv => cbv
                refine and_h h (fun g => (by subst hO; exact g)) (fun h => ?_)
                refine and_h h (fun g => (by subst hO; exact g)) (fun h => ?_)
                obtain ⟨c5, c6, c7, c8, c9, c10, hr, h⟩ := rw_s_i64_i64_s_l3_l5_inv h
                refine elem_of hO _ (by subst hO; exact hr) ?_
                clear hr
                conv => cbv
                refine br_h hO h (by subst hO; rfl) (fun hc5 h => ?_) (fun hc5 h => ?_)
                · conv => cbv
                  refine br_t hO hc5 ?_
                  conv => cbv
                  refine br_t hO hc5 ?_
                  conv => cbv
                  refine br_t hO hc5 ?_
                  conv => cbv
                  refine br_t hO hc5 ?_
                  conv => cbv
                  refine br_t hO hc5 ?_
                  conv => cbv
                  refine br_t hO hc5 ?_
                  conv => cbv
                  refine br_t hO hc5 ?_
                  conv => cbv
                  refine br_t hO hc5 ?_
                  conv => cbv
                  exact hL_1 _ _ ⟨true, ⟨(by (conv => lhs; cbv) <;> (subst hO; rfl)), (by (conv => lhs; cbv) <;> (subst hO; rfl))⟩, h⟩
                · conv => cbv
                  refine br_f hO hc5 ?_
                  conv => cbv
                  refine br_f hO hc5 ?_
                  conv => cbv
                  refine br_f hO hc5 ?_
                  conv => cbv
                  refine and_h h (fun g => (by subst hO; exact g)) (fun h => ?_)
                  refine and_h h (fun g => (by subst hO; exact g)) (fun h => ?_)
                  obtain ⟨c11, c12, c13, c14, c15, c16, hr, h⟩ := rw_s_i64_i64_s_l3_l5_inv h
                  refine elem_of hO _ (by subst hO; exact hr) ?_
                  clear hr
                  conv => cbv
                  refine br_f hO hc5 ?_
                  conv => cbv
                  refine br_f hO hc5 ?_
                  conv => cbv
                  refine br_f hO hc5 ?_
                  conv => cbv
                  refine call_h hO [.shut] (d_p16 fu O.len hN h) ?_
                  intro os Q hos hQ
                  conv => cbv
                  refine ⟨(by (rw [hos]) <;> (subst hO; rfl)), ?_⟩
                  intro r bs hq
                  rw [hQ] at hq
                  clear hos hQ h
                  obtain ⟨y17, _, ⟨rfl, rfl⟩, h⟩ := hq
                  conv => cbv
                  refine br_f hO hc5 ?_
                  conv => cbv
                  refine br_f hO hc5 ?_
                  conv => cbv
                  exact hL_1 _ _ ⟨(!y17), ⟨(by (conv => lhs; cbv) <;> (subst hO; rfl)), (by (conv => lhs; cbv) <;> (subst hO; rfl))⟩, h⟩
              · rintro tm m ⟨j4, hs, h⟩
                unfold p24_1 at h
                obtain ⟨rfl, rfl⟩ := hs
                conv => cbv
                refine br_h hO h (by subst hO; rfl) (fun hc4 h => ?_) (fun hc4 h => ?_)
                · conv => cbv
                  rw [hQ]
                  exact ⟨false, _, ⟨(by subst hO; rfl), (by subst hO; rfl)⟩, h⟩
                · conv => cbv
                  refine join_all hO ?_
                  conv => cbv
                  exact hLn1 n1 _ _ (Nat.lt_succ_self n1) ⟨binStd .add .i64 z3 1, ⟨(by (conv => lhs; cbv) <;> (subst hO; rfl)), (by (conv => lhs; cbv) <;> (subst hO; rfl))⟩, h⟩
            · conv => cbv
              rw [hQ]
              exact ⟨true, _, ⟨(by subst hO; rfl), (by subst hO; rfl)⟩, h⟩
end Go.Proofs.Ythncmjlcmlmnmaa

namespace Go.Proofs.Ythncmjlcmlmnmaa
open Go V
set_option maxRecDepth 100000
set_option maxHeartbeats 4000000
def p30_1 {ρ : Type} (fail : ρ) (fu : Nat)  (K0 : EL → ρ) (rec1 : EL → Int → ρ) (x16 : EL) (z9 : EL) (z10 : Int) : ρ :=
  bif (cmpStd .lss z10 ((x16.length : Nat) : Int)) then (gd ((0 : Int) ≤ z10) fail (gd ((z10 : Int) < (x16.length : Nat)) fail (rw_s_i64_i64_s_l3_l5 fail (List.getD x16 ((z10 : Int).toNat) []) (fun c11 c12 c13 c14 c15 c16 => gd ((0 : Int) ≤ z10) fail (gd ((z10 : Int) < (x16.length : Nat)) fail (rw_s_i64_i64_s_l3_l5 fail (List.getD x16 ((z10 : Int).toNat) []) (fun c17 c18 c19 c20 c21 c22 => p73 fail fu (fun y23 => p29 fail fu (fun y24 => rec1 y24 (binStd .add .i64 z10 1)) y23 c18 c19 c20 c21 c22) z9 c11))))))) else (K0 z9)
def p30_1L {ρ : Type} (fail : ρ) (fu : Nat)  (K0 : EL → ρ)  (x16 : EL) : Nat → EL → Int → ρ
  | 0, _, _ => fail
  | n + 1, z9, z10 => p30_1 fail fu  K0 (p30_1L fail fu  K0  x16 n) x16 z9 z10
def p30_2 {ρ : Type} (fail : ρ) (fu : Nat)  (K0 : EL → ρ)  (x16 : EL) (j7 : EL) : ρ :=
  p72 fail fu (fun y8 => p30_1L fail fu  K0 x16 fu y8 0) j7 ((x16.length : Nat) : Int)
/-- ref6.Decl -/
def p30 {ρ : Type} (fail : ρ) (fu : Nat)  (K0 : EL → ρ) (x0 : EL) (x1 : Int) (x2 : Int) (x3 : Int) (x4 : ByteArray) (x5 : ByteArray) (x6 : Int) (x7 : Int) (x8 : ByteArray) (x9 : EL) (x10 : EL) (x11 : Int) (x12 : Int) (x13 : ByteArray) (x14 : EL) (x15 : EL) (x16 : EL) : ρ :=
  p72 fail fu (fun y1 => p72 fail fu (fun y2 => p72 fail fu (fun y3 => p73 fail fu (fun y4 => p73 fail fu (fun y5 => p29 fail fu (fun y6 => bif (cmpStd .eql x1 2) then (p72 fail fu (fun y25 => p29 fail fu (fun y26 => p30_2 fail fu  K0 x16 y26) y25 x11 x12 x13 x14 x15) y6 1) else (p72 fail fu (fun y27 => p30_2 fail fu  K0 x16 y27) y6 0)) y5 x6 x7 x8 x9 x10) y4 x5) y3 x4) y2 x3) y1 x2) x0 x1
theorem d_p30 (fu : Nat)  {K0 : EL → Prop} (L : EL → Nat) (hN : L = List.length) {x0 : EL} {x1 : Int} {x2 : Int} {x3 : Int} {x4 : ByteArray} {x5 : ByteArray} {x6 : Int} {x7 : Int} {x8 : ByteArray} {x9 : EL} {x10 : EL} {x11 : Int} {x12 : Int} {x13 : ByteArray} {x14 : EL} {x15 : EL} {x16 : EL} (h : p30 False fu K0 x0 x1 x2 x3 x4 x5 x6 x7 x8 x9 x10 x11 x12 x13 x14 x15 x16) : Den Try.prog G0 30 [.c (.sl 1 x0 none), .agg [.c (.v (.int .i64 x1)), .c (.v (.int .i64 x2)), .c (.v (.int .i64 x3)), .c (.v (.string x4)), .c (.v (.string x5)), .c (.v (.int .i64 x6)), .c (.v (.int .i64 x7)), .c (.v (.string x8)), .c (.sl 3 x9 none), .c (.sl 5 x10 none), .c (.v (.int .i64 x11)), .c (.v (.int .i64 x12)), .c (.v (.string x13)), .c (.sl 3 x14 none), .c (.sl 5 x15 none), .c (.sl 6 x16 none)]] (fun r bs => (∃ (y0 : EL) (o0 : OV) (o1 : OV), (r = .c (.sl 1 y0 none) ∧ bs = [o0, o1]) ∧ K0 y0)) := by
  obtain ⟨O, hO⟩ : ∃ O, O = std 0 T G0 (Den Try.prog G0) := ⟨_, rfl⟩
  have hLO : L = O.len := by rw [hN, hO]; rfl
  subst hLO
  refine den_h hO tiA mixed tabOk (fn := Try.f30) (sh := true) (by kernel_rfl) rfl rfl rfl rfl ?_
  intro Q hQ
  unfold p30 at h
  conv => cbv
  refine drawn_of hO tiA [[], [], [], [], [], [], []] [(0, true, false), (1, true, false), (2, true, false), (4, true, false), (5, true, false), (7, true, false), (8, true, false), (10, true, false), (11, true, false), (13, true, false), (14, true, false), (16, true, false), (17, true, false), (3, false, false), (6, false, false), (9, false, false), (12, false, false), (15, false, false), (18, false, false), (19, true, true)] (by kernel_rfl) ?_
  conv => cbv
  refine call_h hO [.shut, .shut] (d_p72 fu O.len hN h) ?_
  intro os Q hos hQ
  conv => cbv
  refine ⟨(by (rw [hos]) <;> (subst hO; rfl)), ?_⟩
  intro r bs hq
  rw [hQ] at hq
  clear hos hQ h
  obtain ⟨y1, _, _, ⟨rfl, rfl⟩, h⟩ := hq
  conv => cbv
  refine ⟨agree_of hO (Nat.le_of_ble_eq_true rfl) rfl, ?_⟩
  refine call_h hO [.shut, .shut] (d_p72 fu O.len hN h) ?_
  intro os Q hos hQ
  conv => cbv
  refine ⟨(by (rw [hos]) <;> (subst hO; rfl)), ?_⟩
  intro r bs hq
  rw [hQ] at hq
  clear hos hQ h
  obtain ⟨y2, _, _, ⟨rfl, rfl⟩, h⟩ := hq
  conv => cbv
  refine ⟨agree_of hO (Nat.le_of_ble_eq_true rfl) rfl, ?_⟩
  refine call_h hO [.shut, .shut] (d_p72 fu O.len hN h) ?_
  intro os Q hos hQ
  conv => cbv
  refine ⟨(by (rw [hos]) <;> (subst hO; rfl)), ?_⟩
  intro r bs hq
  rw [hQ] at hq
  clear hos hQ h
  obtain ⟨y3, _, _, ⟨rfl, rfl⟩, h⟩ := hq
  conv => cbv
  refine ⟨agree_of hO (Nat.le_of_ble_eq_true rfl) rfl, ?_⟩
  refine call_h hO [.shut, .shut] (d_p73 fu O.len hN h) ?_
  intro os Q hos hQ
  conv => cbv
  refine ⟨(by (rw [hos]) <;> (subst hO; rfl)), ?_⟩
  intro r bs hq
  rw [hQ] at hq
  clear hos hQ h
  obtain ⟨y4, _, _, ⟨rfl, rfl⟩, h⟩ := hq
  conv => cbv
  refine ⟨agree_of hO (Nat.le_of_ble_eq_true rfl) rfl, ?_⟩
  refine call_h hO [.shut, .shut] (d_p73 fu O.len hN h) ?_
  intro os Q hos hQ
  conv => cbv
  refine ⟨(by (rw [hos]) <;> (subst hO; rfl)), ?_⟩
  intro r bs hq
  rw [hQ] at hq
  clear hos hQ h
  obtain ⟨y5, _, _, ⟨rfl, rfl⟩, h⟩ := hq
  conv => cbv
  refine ⟨agree_of hO (Nat.le_of_ble_eq_true rfl) rfl, ?_⟩
  refine call_h hO [.shut, .shut] (d_p29 fu O.len hN h) ?_
  intro os Q hos hQ
  conv => cbv
  refine ⟨(by (rw [hos]) <;> (subst hO; rfl)), ?_⟩
  intro r bs hq
  rw [hQ] at hq
  clear hos hQ h
  obtain ⟨y6, _, _, ⟨rfl, rfl⟩, h⟩ := hq
  conv => cbv
  refine ⟨agree_of hO (Nat.le_of_ble_eq_true rfl) rfl, ?_⟩
  refine join_all hO ?_
  conv => cbv
  refine br_join_h hO tiA h (by subst hO; rfl) [0, 3] [4000] [] (fun tm m => ∃ (j7 : EL), ((tm = frame 0 63 [(0, .c (.sl 1 j7 none)), (3, .p 4000 0 0)] ∧ m = ⟨[(4000, .blk 0 [.c (.v (.int .i64 x1)), .c (.v (.int .i64 x2)), .c (.v (.int .i64 x3)), .c (.v (.string x4)), .c (.v (.string x5)), .c (.v (.int .i64 x6)), .c (.v (.int .i64 x7)), .c (.v (.string x8)), .c (.sl 3 x9 none), .c (.sl 5 x10 none), .c (.v (.int .i64 x11)), .c (.v (.int .i64 x12)), .c (.v (.string x13)), .c (.sl 3 x14 none), .c (.sl 5 x15 none), .c (.sl 6 x16 none)])], 1⟩)) ∧ p30_2 False fu  K0 x16 j7) (fun hc2 h L hL_2 => ?_) (fun hc2 h L hL_2 => ?_) ?_
  · conv => cbv
    refine drawn_of hO tiA [[], [], []] [(0, true, false), (2, true, false), (3, true, false), (1, false, false), (4, false, true), (5, true, true)] (by kernel_rfl) ?_
    conv => cbv
    refine call_h hO [.shut, .shut] (d_p72 fu O.len hN h) ?_
    intro os Q hos hQ
    conv => cbv
    refine ⟨(by (rw [hos]) <;> (subst hO; rfl)), ?_⟩
    intro r bs hq
    rw [hQ] at hq
    clear hos hQ h
    obtain ⟨y25, _, _, ⟨rfl, rfl⟩, h⟩ := hq
    conv => cbv
    refine ⟨agree_of hO (Nat.le_of_ble_eq_true rfl) rfl, ?_⟩
    refine call_h hO [.shut, .shut] (d_p29 fu O.len hN h) ?_
    intro os Q hos hQ
    conv => cbv
    refine ⟨(by (rw [hos]) <;> (subst hO; rfl)), ?_⟩
    intro r bs hq
    rw [hQ] at hq
    clear hos hQ h
    obtain ⟨y26, _, _, ⟨rfl, rfl⟩, h⟩ := hq
    conv => cbv
    refine join_all hO ?_
    conv => cbv
    exact hL_2 _ _ ⟨y26, ⟨(by (conv => lhs; cbv) <;> (subst hO; rfl)), (by (conv => lhs; cbv) <;> (subst hO; rfl))⟩, h⟩
  · conv => cbv
    refine call_h hO [.shut, .shut] (d_p72 fu O.len hN h) ?_
    intro os Q hos hQ
    conv => cbv
    refine ⟨(by (rw [hos]) <;> (subst hO; rfl)), ?_⟩
    intro r bs hq
    rw [hQ] at hq
    clear hos hQ h
    obtain ⟨y27, _, _, ⟨rfl, rfl⟩, h⟩ := hq
    conv => cbv
    exact hL_2 _ _ ⟨y27, ⟨(by (conv => lhs; cbv) <;> (subst hO; rfl)), (by (conv => lhs; cbv) <;> (subst hO; rfl))⟩, h⟩
  · rintro tm m ⟨j7, hs, h⟩
    unfold p30_2 at h
    obtain ⟨rfl, rfl⟩ := hs
    conv => cbv
    refine call_h hO [.shut, .shut] (d_p72 fu O.len hN h) ?_
    intro os Q hos hQ
    conv => cbv
    refine ⟨(by (rw [hos]) <;> (subst hO; rfl)), ?_⟩
    intro r bs hq
    rw [hQ] at hq
    clear hos hQ h
    obtain ⟨y8, _, _, ⟨rfl, rfl⟩, h⟩ := hq
    conv => cbv
    refine loop_of hO tiA [0, 3, 5] [4000] [] (fun (n : Nat) tm m => ∃ (z9 : EL) (z10 : Int), ((tm = frame 0 63 [(0, .c (.sl 1 z9 none)), (3, .p 4000 0 0), (5, .c (.v (.int .i64 z10)))] ∧ m = ⟨[(4000, .blk 0 [.c (.v (.int .i64 x1)), .c (.v (.int .i64 x2)), .c (.v (.int .i64 x3)), .c (.v (.string x4)), .c (.v (.string x5)), .c (.v (.int .i64 x6)), .c (.v (.int .i64 x7)), .c (.v (.string x8)), .c (.sl 3 x9 none), .c (.sl 5 x10 none), .c (.v (.int .i64 x11)), .c (.v (.int .i64 x12)), .c (.v (.string x13)), .c (.sl 3 x14 none), .c (.sl 5 x15 none), .c (.sl 6 x16 none)])], 1⟩)) ∧ p30_1L False fu  K0 x16 n z9 z10) (fun n => n) fu ⟨y8, 0, ⟨(by (conv => lhs; cbv) <;> (subst hO; rfl)), (by (conv => lhs; cbv) <;> (subst hO; rfl))⟩, h⟩ ?_
    rintro n1 tm m L ⟨z9, z10, hs, h⟩ hLn1
    cases n1 with
    | zero => rw [p30_1L] at h; exact h.elim
    | succ n1 =>
      rw [p30_1L] at h
      unfold p30_1 at h
      obtain ⟨rfl, rfl⟩ := hs
      conv => cbv
      refine br_h hO h (by subst hO; rfl) (fun hc1 h => ?_) (fun hc1 h => ?_)
      · conv => cbv
        refine join_all hO ?_
        conv => cbv
        refine drawn_of hO tiA [[], [], []] [(0, true, false), (1, true, false), (2, true, false), (3, true, false), (4, true, false), (5, true, false), (6, true, false), (8, true, false), (9, true, false), (10, true, false), (11, true, false), (12, true, false), (13, true, false), (7, false, false), (14, false, false), (15, true, true)] (by kernel_rfl) ?_
        conv => cbv
        refine and_h h (fun g => (by subst hO; exact g)) (fun h => ?_)
        refine and_h h (fun g => (by subst hO; exact g)) (fun h => ?_)
        obtain ⟨c11, c12, c13, c14, c15, c16, hr, h⟩ := rw_s_i64_i64_s_l3_l5_inv h
        refine elem_of hO _ (by subst hO; exact hr) ?_
        clear hr
        conv => cbv
        refine and_h h (fun g => (by subst hO; exact g)) (fun h => ?_)
        refine and_h h (fun g => (by subst hO; exact g)) (fun h => ?_)
        obtain ⟨c17, c18, c19, c20, c21, c22, hr, h⟩ := rw_s_i64_i64_s_l3_l5_inv h
        refine elem_of hO _ (by subst hO; exact hr) ?_
        clear hr
        conv => cbv
        refine call_h hO [.shut, .shut] (d_p73 fu O.len hN h) ?_
        intro os Q hos hQ
        conv => cbv
        refine ⟨(by (rw [hos]) <;> (subst hO; rfl)), ?_⟩
        intro r bs hq
        rw [hQ] at hq
        clear hos hQ h
        obtain ⟨y23, _, _, ⟨rfl, rfl⟩, h⟩ := hq
        conv => cbv
        refine ⟨agree_of hO (Nat.le_of_ble_eq_true rfl) rfl, ?_⟩
        refine call_h hO [.shut, .shut] (d_p29 fu O.len hN h) ?_
        intro os Q hos hQ
        conv => cbv
        refine ⟨(by (rw [hos]) <;> (subst hO; rfl)), ?_⟩
        intro r bs hq
        rw [hQ] at hq
        clear hos hQ h
        obtain ⟨y24, _, _, ⟨rfl, rfl⟩, h⟩ := hq
        conv => cbv
        refine ⟨agree_of hO (Nat.le_of_ble_eq_true rfl) rfl, ?_⟩
        refine join_all hO ?_
        conv => cbv
        exact hLn1 n1 _ _ (Nat.lt_succ_self n1) ⟨y24, binStd .add .i64 z10 1, ⟨(by (conv => lhs; cbv) <;> (subst hO; rfl)), (by (conv => lhs; cbv) <;> (subst hO; rfl))⟩, h⟩
      · conv => cbv
        rw [hQ]
        exact ⟨z9, _, _, ⟨(by subst hO; rfl), (by subst hO; rfl)⟩, h⟩
end Go.Proofs.Ythncmjlcmlmnmaa

