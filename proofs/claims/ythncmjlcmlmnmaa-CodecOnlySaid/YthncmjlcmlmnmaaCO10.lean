/- Functions without memory, and that the Go functions are followed by them. Printed by gen.py. Conditions: none. -/
import Derived.Test.YthncmjlcmlmnmaaG
import Derived.Test.YthncmjlcmlmnmaaPR
import Derived.Test.YthncmjlcmlmnmaaCO8
import Derived.Test.YthncmjlcmlmnmaaCO9
import Derived.Test.YthncmjlcmlmnmaaCO4
import Derived.Test.YthncmjlcmlmnmaaCO3
import Derived.Test.YthncmjlcmlmnmaaCO5
import Derived.Test.YthncmjlcmlmnmaaCO7
import Derived.KernelRfl
import Derived.Test.YthncmjlcmlmnmaaVB
import Derived.Test.YthncmjlcmlmnmaaProg
import Derived.ProofKit
namespace Go.Proofs.Ythncmjlcmlmnmaa
open Go V
set_option maxRecDepth 100000
set_option maxHeartbeats 4000000
def p13_1 {ρ : Type} (fail : ρ) (fu : Nat)  (K0 : Bool → ρ)   (j27 : Bool) : ρ :=
  K0 j27
/-- law6.begun -/
def p13 {ρ : Type} (fail : ρ) (fu : Nat)  (K0 : Bool → ρ)  : ρ :=
  p50 fail fu (fun y1 y2 y3 => p49 fail fu (fun y4 y5 y6 y7 y8 => p51 fail fu (fun y9 y10 y11 y12 y13 => p48 fail fu (fun y14 y15 y16 y17 y18 => p17 fail fu (fun y19 => gd (1 ≤ [[(CV.v (.int .u8 9))]].length) fail (gd ((y19.length + (List.take 1 [[(CV.v (.int .u8 9))]]).length) * 1 ≤ 35184372088832) fail (p18 fail fu (fun y20 y21 y22 y23 y24 y25 y26 => tobP fail y19 (fun s28 => bif (scmpStd .eql s28 ⟨#[5, 1, 0, 0, 0]⟩) then (bif (cmpStd .eql y26 0) then (bif (cmpStd .eql y25 5) then (p19 fail fu (fun y29 => bif y29 then (p26 fail fu (fun y30 => p13_1 fail fu  K0  (cmpStd .eql ((y30.length : Nat) : Int) 1)) nilE 0 0 nilE) else (p13_1 fail fu  K0  false)) y14 y15 y16 y17 y18 y20 y21 y22 y23 y24) else (p13_1 fail fu  K0  false)) else (p13_1 fail fu  K0  false)) else (p13_1 fail fu  K0  false))) (y19 ++ (List.take 1 [[(CV.v (.int .u8 9))]]))))) nilE y14 y15 y16 y17 y18) y4 y5 y6 y7 y8 y9 y10 y11 y12 y13) 0) y1 y2 y3) 
theorem d_p13 (fu : Nat)  {K0 : Bool → Prop} (L : EL → Nat) (hN : L = List.length)  (h : p13 False fu K0 ) : Den Try.prog G0 13 [] (fun r bs => (∃ (y0 : Bool), (r = .c (.v (.bool y0)) ∧ bs = []) ∧ K0 y0)) := by
  obtain ⟨O, hO⟩ : ∃ O, O = std 0 T G0 (Den Try.prog G0) := ⟨_, rfl⟩
  have hLO : L = O.len := by rw [hN, hO]; rfl
  subst hLO
  refine den_h hO tiA mixed tabOk (fn := Try.f13) (sh := true) (by kernel_rfl) rfl rfl rfl rfl ?_
  intro Q hQ
  unfold p13 at h
  conv => cbv
  refine call_h hO [] (d_p50 fu O.len hN h) ?_
  intro os Q hos hQ
  conv => cbv
  refine ⟨(by (rw [hos]) <;> (subst hO; rfl)), ?_⟩
  intro r bs hq
  rw [hQ] at hq
  clear hos hQ h
  obtain ⟨y1, y2, y3, ⟨rfl, rfl⟩, h⟩ := hq
  conv => cbv
  refine call_h hO [.shut] (d_p49 fu O.len hN h) ?_
  intro os Q hos hQ
  conv => cbv
  refine ⟨(by (rw [hos]) <;> (subst hO; rfl)), ?_⟩
  intro r bs hq
  rw [hQ] at hq
  clear hos hQ h
  obtain ⟨y4, y5, y6, y7, y8, _, ⟨rfl, rfl⟩, h⟩ := hq
  conv => cbv
  refine call_h hO [.shut] (d_p51 fu O.len hN h) ?_
  intro os Q hos hQ
  conv => cbv
  refine ⟨(by (rw [hos]) <;> (subst hO; rfl)), ?_⟩
  intro r bs hq
  rw [hQ] at hq
  clear hos hQ h
  obtain ⟨y9, y10, y11, y12, y13, _, ⟨rfl, rfl⟩, h⟩ := hq
  conv => cbv
  refine call_h hO [.shut, .shut] (d_p48 fu O.len hN h) ?_
  intro os Q hos hQ
  conv => cbv
  refine ⟨(by (rw [hos]) <;> (subst hO; rfl)), ?_⟩
  intro r bs hq
  rw [hQ] at hq
  clear hos hQ h
  obtain ⟨y14, y15, y16, y17, y18, _, _, ⟨rfl, rfl⟩, h⟩ := hq
  conv => cbv
  refine call_h hO [.shut, .shut] (d_p17 fu O.len hN h) ?_
  intro os Q hos hQ
  conv => cbv
  refine ⟨(by (rw [hos]) <;> (subst hO; rfl)), ?_⟩
  intro r bs hq
  rw [hQ] at hq
  clear hos hQ h
  obtain ⟨y19, _, _, ⟨rfl, rfl⟩, h⟩ := hq
  conv => cbv
  refine alt_r hO ?_
  conv => cbv
  refine view_full hO ?_
  conv => cbv
  refine view_h hO h (fun g => (by subst hO; exact g)) (fun h => ?_)
  conv => cbv
  refine ⟨(by subst hO; rfl), ?_⟩
  refine and_h h (fun g => (by subst hO; exact g)) (fun h => ?_)
  refine call_h hO [.shut] (d_p18 fu O.len hN h) ?_
  intro os Q hos hQ
  conv => cbv
  refine view_full hO ?_
  conv => cbv
  refine ⟨(by (rw [hos]) <;> (subst hO; rfl)), ?_⟩
  intro r bs hq
  rw [hQ] at hq
  clear hos hQ h
  obtain ⟨y20, y21, y22, y23, y24, y25, y26, _, ⟨rfl, rfl⟩, h⟩ := hq
  conv => cbv
  refine reg_join hO tiA [0] [] [] (fun tm m => ∃ (j27 : Bool), ((tm = frame 0 42 [(0, .c (.v (.bool j27)))] ∧ m = ⟨[], 1⟩)) ∧ p13_1 False fu  K0  j27) (fun L hL_1 => ?_) ?_
  · conv => cbv
    refine tob_h hO h (by subst hO; rfl) (fun s28 h => ?_)
    conv => cbv
    refine br_h hO h (by subst hO; rfl) (fun hc1 h => ?_) (fun hc1 h => ?_)
    · conv => cbv
      refine br_t hO hc1 ?_
      conv => cbv
      refine br_t hO hc1 ?_
      conv => cbv
      refine br_h hO h (by subst hO; rfl) (fun hc2 h => ?_) (fun hc2 h => ?_)
      · conv => cbv
        refine br_t hO hc2 ?_
        conv => cbv
        refine br_t hO hc2 ?_
        conv => cbv
        refine br_h hO h (by subst hO; rfl) (fun hc3 h => ?_) (fun hc3 h => ?_)
        · conv => cbv
          refine br_t hO hc3 ?_
          conv => cbv
          refine br_t hO hc3 ?_
          conv => cbv
          refine call_h hO [.shut, .shut] (d_p19 fu O.len hN h) ?_
          intro os Q hos hQ
          conv => cbv
          refine ⟨(by (rw [hos]) <;> (subst hO; rfl)), ?_⟩
          intro r bs hq
          rw [hQ] at hq
          clear hos hQ h
          obtain ⟨y29, _, _, ⟨rfl, rfl⟩, h⟩ := hq
          conv => cbv
          refine br_t hO hc3 ?_
          conv => cbv
          refine br_h hO h (by subst hO; rfl) (fun hc4 h => ?_) (fun hc4 h => ?_)
          · conv => cbv
            refine br_t hO hc4 ?_
            conv => cbv
            refine call_h hO [.shut, .shut] (d_p26 fu O.len hN h) ?_
            intro os Q hos hQ
            conv => cbv
            refine ⟨(by (rw [hos]) <;> (subst hO; rfl)), ?_⟩
            intro r bs hq
            rw [hQ] at hq
            clear hos hQ h
            obtain ⟨y30, _, _, ⟨rfl, rfl⟩, h⟩ := hq
            conv => cbv
            refine br_t hO hc4 ?_
            conv => cbv
            refine br_t hO hc4 ?_
            conv => cbv
            refine br_t hO hc4 ?_
            conv => cbv
            exact hL_1 _ _ ⟨(cmpStd .eql ((y30.length : Nat) : Int) 1), ⟨(by (conv => lhs; cbv) <;> (subst hO; rfl)), (by (conv => lhs; cbv) <;> (subst hO; rfl))⟩, h⟩
          · conv => cbv
            refine br_f hO hc4 ?_
            conv => cbv
            refine br_f hO hc4 ?_
            conv => cbv
            refine br_f hO hc4 ?_
            conv => cbv
            refine br_f hO hc4 ?_
            conv => cbv
            exact hL_1 _ _ ⟨false, ⟨(by (conv => lhs; cbv) <;> (subst hO; rfl)), (by (conv => lhs; cbv) <;> (subst hO; rfl))⟩, h⟩
        · conv => cbv
          refine br_f hO hc3 ?_
          conv => cbv
          refine br_f hO hc3 ?_
          conv => cbv
          refine br_f hO hc3 ?_
          conv => cbv
          refine br_f hO rfl ?_
          conv => cbv
          refine br_f hO rfl ?_
          conv => cbv
          refine br_f hO rfl ?_
          conv => cbv
          refine br_f hO rfl ?_
          conv => cbv
          refine br_f hO rfl ?_
          conv => cbv
          exact hL_1 _ _ ⟨false, ⟨(by (conv => lhs; cbv) <;> (subst hO; rfl)), (by (conv => lhs; cbv) <;> (subst hO; rfl))⟩, h⟩
      · conv => cbv
        refine br_f hO hc2 ?_
        conv => cbv
        refine br_f hO hc2 ?_
        conv => cbv
        refine br_f hO rfl ?_
        conv => cbv
        refine br_f hO rfl ?_
        conv => cbv
        refine br_f hO rfl ?_
        conv => cbv
        refine br_f hO rfl ?_
        conv => cbv
        refine br_f hO rfl ?_
        conv => cbv
        refine br_f hO rfl ?_
        conv => cbv
        refine br_f hO rfl ?_
        conv => cbv
        refine br_f hO rfl ?_
        conv => cbv
        refine br_f hO rfl ?_
        conv => cbv
        exact hL_1 _ _ ⟨false, ⟨(by (conv => lhs; cbv) <;> (subst hO; rfl)), (by (conv => lhs; cbv) <;> (subst hO; rfl))⟩, h⟩
    · conv => cbv
      refine br_f hO hc1 ?_
      conv => cbv
      refine br_f hO hc1 ?_
      conv => cbv
      refine br_f hO rfl ?_
      conv => cbv
      refine br_f hO rfl ?_
      conv => cbv
      refine br_f hO rfl ?_
      conv => cbv
      refine br_f hO rfl ?_
      conv => cbv
      refine br_f hO rfl ?_
      conv => cbv
      refine br_f hO rfl ?_
      conv => cbv
      refine br_f hO rfl ?_
      conv => cbv
      refine br_f hO rfl ?_
      conv => cbv
      refine br_f hO rfl ?_
      conv => cbv
      refine br_f hO rfl ?_
      conv => cbv
      refine br_f hO rfl ?_
      conv => cbv
      refine br_f hO rfl ?_
      conv => cbv
      exact hL_1 _ _ ⟨false, ⟨(by (conv => lhs; cbv) <;> (subst hO; rfl)), (by (conv => lhs; cbv) <;> (subst hO; rfl))⟩, h⟩
  · rintro tm m ⟨j27, hs, h⟩
    unfold p13_1 at h
    obtain ⟨rfl, rfl⟩ := hs
    conv => cbv
    rw [hQ]
    exact ⟨j27, ⟨(by subst hO; rfl), (by subst hO; rfl)⟩, h⟩
end Go.Proofs.Ythncmjlcmlmnmaa

namespace Go.Proofs.Ythncmjlcmlmnmaa
open Go V
set_option maxRecDepth 100000
set_option maxHeartbeats 4000000
def p8_1 {ρ : Type} (fail : ρ) (fu : Nat)  (K0 : Bool → ρ)   (j32 : Bool) : ρ :=
  K0 j32
/-- law6.CodecOnly -/
def p8 {ρ : Type} (fail : ρ) (fu : Nat)  (K0 : Bool → ρ) (x0 : EL) : ρ :=
  p13 fail fu (fun y1 => bif (!y1) then (K0 false) else (bif (cmpStd .gtr ((x0.length : Nat) : Int) 4000) then (K0 true) else (p20 fail fu (fun y2 y3 y4 y5 y6 => p18 fail fu (fun y7 y8 y9 y10 y11 y12 y13 => p35 fail fu (fun y14 y15 y16 y17 y18 y19 y20 y21 y22 y23 y24 y25 y26 y27 y28 y29 y30 y31 => bif (cmpStd .neq y6 0) then (bif (cmpStd .eql y5 0) then (bif (cmpStd .neq y13 0) then (bif (cmpStd .eql y12 0) then (bif (cmpStd .neq y31 0) then (bif (cmpStd .eql y30 0) then (p8_1 fail fu  K0  true) else (p8_1 fail fu  K0  false)) else (gd ((0 : Int) ≤ 0) fail (gd ((0 : Int) ≤ y30) fail (gd ((y30 : Int) ≤ (x0.length : Nat)) fail (tobP fail (List.drop ((0 : Int).toNat) (List.take ((y30 : Int).toNat) x0)) (fun s33 => p27 fail fu (fun y34 => tobP fail y34 (fun s35 => p8_1 fail fu  K0  (scmpStd .eql s35 s33))) nilE y14 y15 y16 y17 y18 y19 y20 y21 y22 y23 y24 y25 y26 y27 y28 y29)))))) else (p8_1 fail fu  K0  false)) else (gd ((0 : Int) ≤ 0) fail (gd ((0 : Int) ≤ y12) fail (gd ((y12 : Int) ≤ (x0.length : Nat)) fail (tobP fail (List.drop ((0 : Int).toNat) (List.take ((y12 : Int).toNat) x0)) (fun s36 => p17 fail fu (fun y37 => tobP fail y37 (fun s38 => bif (scmpStd .eql s38 s36) then (bif (cmpStd .neq y31 0) then (bif (cmpStd .eql y30 0) then (p8_1 fail fu  K0  true) else (p8_1 fail fu  K0  false)) else (gd ((0 : Int) ≤ 0) fail (gd ((0 : Int) ≤ y30) fail (gd ((y30 : Int) ≤ (x0.length : Nat)) fail (tobP fail (List.drop ((0 : Int).toNat) (List.take ((y30 : Int).toNat) x0)) (fun s39 => p27 fail fu (fun y40 => tobP fail y40 (fun s41 => p8_1 fail fu  K0  (scmpStd .eql s41 s39))) nilE y14 y15 y16 y17 y18 y19 y20 y21 y22 y23 y24 y25 y26 y27 y28 y29)))))) else (p8_1 fail fu  K0  false))) nilE y7 y8 y9 y10 y11)))))) else (p8_1 fail fu  K0  false)) else (gd ((0 : Int) ≤ 0) fail (gd ((0 : Int) ≤ y5) fail (gd ((y5 : Int) ≤ (x0.length : Nat)) fail (tobP fail (List.drop ((0 : Int).toNat) (List.take ((y5 : Int).toNat) x0)) (fun s42 => p26 fail fu (fun y43 => tobP fail y43 (fun s44 => bif (scmpStd .eql s44 s42) then (bif (cmpStd .neq y13 0) then (bif (cmpStd .eql y12 0) then (bif (cmpStd .neq y31 0) then (bif (cmpStd .eql y30 0) then (p8_1 fail fu  K0  true) else (p8_1 fail fu  K0  false)) else (gd ((0 : Int) ≤ 0) fail (gd ((0 : Int) ≤ y30) fail (gd ((y30 : Int) ≤ (x0.length : Nat)) fail (tobP fail (List.drop ((0 : Int).toNat) (List.take ((y30 : Int).toNat) x0)) (fun s45 => p27 fail fu (fun y46 => tobP fail y46 (fun s47 => p8_1 fail fu  K0  (scmpStd .eql s47 s45))) nilE y14 y15 y16 y17 y18 y19 y20 y21 y22 y23 y24 y25 y26 y27 y28 y29)))))) else (p8_1 fail fu  K0  false)) else (gd ((0 : Int) ≤ 0) fail (gd ((0 : Int) ≤ y12) fail (gd ((y12 : Int) ≤ (x0.length : Nat)) fail (tobP fail (List.drop ((0 : Int).toNat) (List.take ((y12 : Int).toNat) x0)) (fun s48 => p17 fail fu (fun y49 => tobP fail y49 (fun s50 => bif (scmpStd .eql s50 s48) then (bif (cmpStd .neq y31 0) then (bif (cmpStd .eql y30 0) then (p8_1 fail fu  K0  true) else (p8_1 fail fu  K0  false)) else (gd ((0 : Int) ≤ 0) fail (gd ((0 : Int) ≤ y30) fail (gd ((y30 : Int) ≤ (x0.length : Nat)) fail (tobP fail (List.drop ((0 : Int).toNat) (List.take ((y30 : Int).toNat) x0)) (fun s51 => p27 fail fu (fun y52 => tobP fail y52 (fun s53 => p8_1 fail fu  K0  (scmpStd .eql s53 s51))) nilE y14 y15 y16 y17 y18 y19 y20 y21 y22 y23 y24 y25 y26 y27 y28 y29)))))) else (p8_1 fail fu  K0  false))) nilE y7 y8 y9 y10 y11)))))) else (p8_1 fail fu  K0  false))) nilE y2 y3 y4)))))) x0) x0) x0))) 
theorem d_p8 (fu : Nat)  {K0 : Bool → Prop} (L : EL → Nat) (hN : L = List.length) {x0 : EL} (h : p8 False fu K0 x0) : Den Try.prog G0 8 [.c (.sl 1 x0 none)] (fun r bs => (∃ (y0 : Bool) (o0 : OV), (r = .c (.v (.bool y0)) ∧ bs = [o0]) ∧ K0 y0)) := by
  obtain ⟨O, hO⟩ : ∃ O, O = std 0 T G0 (Den Try.prog G0) := ⟨_, rfl⟩
  have hLO : L = O.len := by rw [hN, hO]; rfl
  subst hLO
  refine den_h hO tiA mixed tabOk (fn := Try.f8) (sh := true) (by kernel_rfl) rfl rfl rfl rfl ?_
  intro Q hQ
  unfold p8 at h
  conv => cbv
  refine call_h hO [] (d_p13 fu O.len hN h) ?_
  intro os Q hos hQ
  conv => cbv
  refine ⟨(by (rw [hos]) <;> (subst hO; rfl)), ?_⟩
  intro r bs hq
  rw [hQ] at hq
  clear hos hQ h
  obtain ⟨y1, ⟨rfl, rfl⟩, h⟩ := hq
  conv => cbv
  refine br_h hO h (by subst hO; rfl) (fun hc1 h => ?_) (fun hc1 h => ?_)
  · conv => cbv
    rw [hQ]
    exact ⟨false, _, ⟨(by subst hO; rfl), (by subst hO; rfl)⟩, h⟩
  · conv => cbv
    refine join_all hO ?_
    conv => cbv
    refine br_h hO h (by subst hO; rfl) (fun hc2 h => ?_) (fun hc2 h => ?_)
    · conv => cbv
      rw [hQ]
      exact ⟨true, _, ⟨(by subst hO; rfl), (by subst hO; rfl)⟩, h⟩
    · conv => cbv
      refine join_all hO ?_
      conv => cbv
      refine call_h hO [.shut] (d_p20 fu O.len hN h) ?_
      intro os Q hos hQ
      conv => cbv
      refine ⟨(by (rw [hos]) <;> (subst hO; rfl)), ?_⟩
      intro r bs hq
      rw [hQ] at hq
      clear hos hQ h
      obtain ⟨y2, y3, y4, y5, y6, _, ⟨rfl, rfl⟩, h⟩ := hq
      conv => cbv
      refine call_h hO [.shut] (d_p18 fu O.len hN h) ?_
      intro os Q hos hQ
      conv => cbv
      refine ⟨(by (rw [hos]) <;> (subst hO; rfl)), ?_⟩
      intro r bs hq
      rw [hQ] at hq
      clear hos hQ h
      obtain ⟨y7, y8, y9, y10, y11, y12, y13, _, ⟨rfl, rfl⟩, h⟩ := hq
      conv => cbv
      refine call_h hO [.shut] (d_p35 fu O.len hN h) ?_
      intro os Q hos hQ
      conv => cbv
      refine ⟨(by (rw [hos]) <;> (subst hO; rfl)), ?_⟩
      intro r bs hq
      rw [hQ] at hq
      clear hos hQ h
      obtain ⟨y14, y15, y16, y17, y18, y19, y20, y21, y22, y23, y24, y25, y26, y27, y28, y29, y30, y31, _, ⟨rfl, rfl⟩, h⟩ := hq
      conv => cbv
      refine drawn_join hO tiA [[], [], [], []] [(0, true, false), (1, true, false), (2, true, false), (3, true, false), (4, true, false), (5, true, false), (6, true, false), (7, true, false), (8, true, false), (9, true, false), (10, true, false), (13, true, false), (14, true, false), (15, true, false), (16, true, false), (11, false, false), (12, true, false), (17, true, false), (18, true, false), (19, true, false), (20, true, false), (21, true, false), (22, true, false), (23, true, false), (24, true, false), (25, true, false), (26, true, false), (27, true, false), (28, true, false), (29, true, false), (30, true, false), (31, true, false), (34, true, false), (35, true, false), (36, true, false), (37, true, false), (32, false, false), (33, true, false), (38, true, false), (39, true, false), (40, true, false), (41, true, false), (42, true, false), (43, true, false), (44, true, false), (45, true, false), (46, true, false), (47, true, false), (48, true, false), (49, true, false), (50, true, false), (51, true, false), (52, true, false), (53, true, false), (56, true, false), (57, true, false), (58, true, false), (59, true, false), (54, false, false), (55, true, false), (60, true, false), (61, true, false), (62, true, false), (63, true, false), (64, true, true)] (by kernel_rfl) [2] [] [] (fun tm m => ∃ (j32 : Bool), ((tm = frame 0 99 [(2, .c (.v (.bool j32)))] ∧ m = ⟨[], 1⟩)) ∧ p8_1 False fu  K0  j32) (fun L hL_1 => ?_) ?_
      · conv => cbv
        refine br_h hO h (by subst hO; rfl) (fun hc3 h => ?_) (fun hc3 h => ?_)
        · conv => cbv
          refine br_t hO hc3 ?_
          conv => cbv
          refine br_t hO hc3 ?_
          conv => cbv
          refine br_h hO h (by subst hO; rfl) (fun hc4 h => ?_) (fun hc4 h => ?_)
          · conv => cbv
            refine br_t hO hc4 ?_
            conv => cbv
            refine br_t hO hc4 ?_
            conv => cbv
            refine br_t hO hc4 ?_
            conv => cbv
            refine br_t hO hc4 ?_
            conv => cbv
            refine br_t hO rfl ?_
            conv => cbv
            refine br_t hO rfl ?_
            conv => cbv
            refine br_t hO rfl ?_
            conv => cbv
            refine br_h hO h (by subst hO; rfl) (fun hc5 h => ?_) (fun hc5 h => ?_)
            · conv => cbv
              refine br_t hO hc5 ?_
              conv => cbv
              refine br_t hO rfl ?_
              conv => cbv
              refine br_t hO hc5 ?_
              conv => cbv
              refine br_t hO rfl ?_
              conv => cbv
              refine br_h hO h (by subst hO; rfl) (fun hc6 h => ?_) (fun hc6 h => ?_)
              · conv => cbv
                refine br_t hO hc6 ?_
                conv => cbv
                refine br_t hO hc6 ?_
                conv => cbv
                refine br_t hO hc6 ?_
                conv => cbv
                refine br_t hO rfl ?_
                conv => cbv
                refine br_t hO hc6 ?_
                conv => cbv
                refine br_t hO rfl ?_
                conv => cbv
                refine br_t hO rfl ?_
                conv => cbv
                refine br_t hO rfl ?_
                conv => cbv
                refine br_t hO rfl ?_
                conv => cbv
                refine br_h hO h (by subst hO; rfl) (fun hc7 h => ?_) (fun hc7 h => ?_)
                · conv => cbv
                  refine br_t hO hc7 ?_
                  conv => cbv
                  refine br_t hO rfl ?_
                  conv => cbv
                  refine br_t hO hc7 ?_
                  conv => cbv
                  refine br_t hO rfl ?_
                  conv => cbv
                  refine br_h hO h (by subst hO; rfl) (fun hc8 h => ?_) (fun hc8 h => ?_)
                  · conv => cbv
                    refine br_t hO hc8 ?_
                    conv => cbv
                    refine br_t hO hc8 ?_
                    conv => cbv
                    refine br_t hO hc8 ?_
                    conv => cbv
                    refine br_t hO rfl ?_
                    conv => cbv
                    refine br_t hO hc8 ?_
                    conv => cbv
                    refine br_t hO rfl ?_
                    conv => cbv
                    exact hL_1 _ _ ⟨true, ⟨(by (conv => lhs; cbv) <;> (subst hO; rfl)), (by (conv => lhs; cbv) <;> (subst hO; rfl))⟩, h⟩
                  · conv => cbv
                    refine br_f hO hc8 ?_
                    conv => cbv
                    refine br_f hO hc8 ?_
                    conv => cbv
                    refine br_f hO (opp_of hO .neq .eql rfl rfl rfl hc7) ?_
                    conv => cbv
                    refine br_f hO (opp_of hO .neq .eql rfl rfl rfl hc7) ?_
                    conv => cbv
                    refine br_f hO (opp_of hO .neq .eql rfl rfl rfl hc7) ?_
                    conv => cbv
                    refine br_f hO (opp_of hO .neq .eql rfl rfl rfl hc7) ?_
                    conv => cbv
                    refine br_f hO (opp_of hO .neq .eql rfl rfl rfl hc7) ?_
                    conv => cbv
                    refine br_f hO (opp_of hO .neq .eql rfl rfl rfl hc7) ?_
                    conv => cbv
                    refine br_f hO (opp_of hO .neq .eql rfl rfl rfl hc7) ?_
                    conv => cbv
                    refine br_f hO (opp_of hO .neq .eql rfl rfl rfl hc7) ?_
                    conv => cbv
                    refine br_f hO hc8 ?_
                    conv => cbv
                    refine br_f hO (opp_of hO .neq .eql rfl rfl rfl hc7) ?_
                    conv => cbv
                    refine br_t hO rfl ?_
                    conv => cbv
                    refine br_f hO hc8 ?_
                    conv => cbv
                    refine br_t hO rfl ?_
                    conv => cbv
                    exact hL_1 _ _ ⟨false, ⟨(by (conv => lhs; cbv) <;> (subst hO; rfl)), (by (conv => lhs; cbv) <;> (subst hO; rfl))⟩, h⟩
                · conv => cbv
                  refine br_f hO hc7 ?_
                  conv => cbv
                  refine br_t hO rfl ?_
                  conv => cbv
                  refine br_f hO hc7 ?_
                  conv => cbv
                  refine br_t hO rfl ?_
                  conv => cbv
                  refine br_f hO rfl ?_
                  conv => cbv
                  refine br_f hO rfl ?_
                  conv => cbv
                  refine br_f hO rfl ?_
                  conv => cbv
                  refine br_t hO (opp_of hO .neq .eql rfl rfl rfl hc7) ?_
                  conv => cbv
                  refine br_t hO (opp_of hO .neq .eql rfl rfl rfl hc7) ?_
                  conv => cbv
                  refine br_t hO (opp_of hO .neq .eql rfl rfl rfl hc7) ?_
                  conv => cbv
                  refine br_t hO (opp_of hO .neq .eql rfl rfl rfl hc7) ?_
                  conv => cbv
                  refine and_h h (fun g => (by subst hO; exact g)) (fun h => ?_)
                  refine and_h h (fun g => (by subst hO; exact g)) (fun h => ?_)
                  refine and_h h (fun g => (by subst hO; exact g)) (fun h => ?_)
                  refine br_t hO (opp_of hO .neq .eql rfl rfl rfl hc7) ?_
                  conv => cbv
                  refine tob_h hO h (by subst hO; rfl) (fun s33 h => ?_)
                  conv => cbv
                  refine br_t hO (opp_of hO .neq .eql rfl rfl rfl hc7) ?_
                  conv => cbv
                  refine call_h hO [.shut, .shut] (d_p27 fu O.len hN h) ?_
                  intro os Q hos hQ
                  conv => cbv
                  refine ⟨(by (rw [hos]) <;> (subst hO; rfl)), ?_⟩
                  intro r bs hq
                  rw [hQ] at hq
                  clear hos hQ h
                  obtain ⟨y34, _, _, ⟨rfl, rfl⟩, h⟩ := hq
                  conv => cbv
                  refine ⟨agree_of hO (Nat.le_of_ble_eq_true rfl) rfl, ?_⟩
                  refine br_t hO (opp_of hO .neq .eql rfl rfl rfl hc7) ?_
                  conv => cbv
                  refine tob_h hO h (by subst hO; rfl) (fun s35 h => ?_)
                  conv => cbv
                  refine br_t hO (opp_of hO .neq .eql rfl rfl rfl hc7) ?_
                  conv => cbv
                  refine br_f hO rfl ?_
                  conv => cbv
                  refine br_t hO (opp_of hO .neq .eql rfl rfl rfl hc7) ?_
                  conv => cbv
                  refine br_t hO rfl ?_
                  conv => cbv
                  refine br_f hO rfl ?_
                  conv => cbv
                  refine br_t hO rfl ?_
                  conv => cbv
                  exact hL_1 _ _ ⟨(scmpStd .eql s35 s33), ⟨(by (conv => lhs; cbv) <;> (subst hO; rfl)), (by (conv => lhs; cbv) <;> (subst hO; rfl))⟩, h⟩
              · conv => cbv
                refine br_f hO hc6 ?_
                conv => cbv
                refine br_f hO hc6 ?_
                conv => cbv
                refine br_f hO (opp_of hO .neq .eql rfl rfl rfl hc5) ?_
                conv => cbv
                refine br_f hO (opp_of hO .neq .eql rfl rfl rfl hc5) ?_
                conv => cbv
                refine br_f hO (opp_of hO .neq .eql rfl rfl rfl hc5) ?_
                conv => cbv
                refine br_f hO (opp_of hO .neq .eql rfl rfl rfl hc5) ?_
                conv => cbv
                refine br_f hO (opp_of hO .neq .eql rfl rfl rfl hc5) ?_
                conv => cbv
                refine br_f hO (opp_of hO .neq .eql rfl rfl rfl hc5) ?_
                conv => cbv
                refine br_f hO (opp_of hO .neq .eql rfl rfl rfl hc5) ?_
                conv => cbv
                refine br_f hO (opp_of hO .neq .eql rfl rfl rfl hc5) ?_
                conv => cbv
                refine br_f hO hc6 ?_
                conv => cbv
                refine br_f hO (opp_of hO .neq .eql rfl rfl rfl hc5) ?_
                conv => cbv
                refine br_t hO rfl ?_
                conv => cbv
                refine br_f hO hc6 ?_
                conv => cbv
                refine br_t hO rfl ?_
                conv => cbv
                refine br_f hO rfl ?_
                conv => cbv
                refine br_f hO rfl ?_
                conv => cbv
                refine br_f hO rfl ?_
                conv => cbv
                refine br_f hO rfl ?_
                conv => cbv
                refine br_f hO rfl ?_
                conv => cbv
                refine br_f hO rfl ?_
                conv => cbv
                refine br_f hO rfl ?_
                conv => cbv
                exact hL_1 _ _ ⟨false, ⟨(by (conv => lhs; cbv) <;> (subst hO; rfl)), (by (conv => lhs; cbv) <;> (subst hO; rfl))⟩, h⟩
            · conv => cbv
              refine br_f hO hc5 ?_
              conv => cbv
              refine br_t hO rfl ?_
              conv => cbv
              refine br_f hO hc5 ?_
              conv => cbv
              refine br_t hO rfl ?_
              conv => cbv
              refine br_f hO rfl ?_
              conv => cbv
              refine br_f hO rfl ?_
              conv => cbv
              refine br_f hO rfl ?_
              conv => cbv
              refine br_t hO (opp_of hO .neq .eql rfl rfl rfl hc5) ?_
              conv => cbv
              refine br_t hO (opp_of hO .neq .eql rfl rfl rfl hc5) ?_
              conv => cbv
              refine br_t hO (opp_of hO .neq .eql rfl rfl rfl hc5) ?_
              conv => cbv
              refine br_t hO (opp_of hO .neq .eql rfl rfl rfl hc5) ?_
              conv => cbv
              refine and_h h (fun g => (by subst hO; exact g)) (fun h => ?_)
              refine and_h h (fun g => (by subst hO; exact g)) (fun h => ?_)
              refine and_h h (fun g => (by subst hO; exact g)) (fun h => ?_)
              refine br_t hO (opp_of hO .neq .eql rfl rfl rfl hc5) ?_
              conv => cbv
              refine tob_h hO h (by subst hO; rfl) (fun s36 h => ?_)
              conv => cbv
              refine br_t hO (opp_of hO .neq .eql rfl rfl rfl hc5) ?_
              conv => cbv
              refine call_h hO [.shut, .shut] (d_p17 fu O.len hN h) ?_
              intro os Q hos hQ
              conv => cbv
              refine ⟨(by (rw [hos]) <;> (subst hO; rfl)), ?_⟩
              intro r bs hq
              rw [hQ] at hq
              clear hos hQ h
              obtain ⟨y37, _, _, ⟨rfl, rfl⟩, h⟩ := hq
              conv => cbv
              refine ⟨agree_of hO (Nat.le_of_ble_eq_true rfl) rfl, ?_⟩
              refine br_t hO (opp_of hO .neq .eql rfl rfl rfl hc5) ?_
              conv => cbv
              refine view_full hO ?_
              conv => cbv
              refine tob_h hO h (by subst hO; rfl) (fun s38 h => ?_)
              conv => cbv
              refine br_t hO (opp_of hO .neq .eql rfl rfl rfl hc5) ?_
              conv => cbv
              refine br_f hO rfl ?_
              conv => cbv
              refine br_t hO (opp_of hO .neq .eql rfl rfl rfl hc5) ?_
              conv => cbv
              refine br_t hO rfl ?_
              conv => cbv
              refine br_f hO rfl ?_
              conv => cbv
              refine br_t hO rfl ?_
              conv => cbv
              refine br_h hO h (by subst hO; rfl) (fun hc9 h => ?_) (fun hc9 h => ?_)
              · conv => cbv
                refine br_t hO hc9 ?_
                conv => cbv
                refine br_t hO hc9 ?_
                conv => cbv
                refine br_h hO h (by subst hO; rfl) (fun hc10 h => ?_) (fun hc10 h => ?_)
                · conv => cbv
                  refine br_t hO hc10 ?_
                  conv => cbv
                  refine br_t hO hc9 ?_
                  conv => cbv
                  refine br_t hO hc10 ?_
                  conv => cbv
                  refine br_t hO hc9 ?_
                  conv => cbv
                  refine br_h hO h (by subst hO; rfl) (fun hc11 h => ?_) (fun hc11 h => ?_)
                  · conv => cbv
                    refine br_t hO hc11 ?_
                    conv => cbv
                    refine br_t hO hc11 ?_
                    conv => cbv
                    refine br_t hO hc11 ?_
                    conv => cbv
                    refine br_t hO hc9 ?_
                    conv => cbv
                    refine br_t hO hc11 ?_
                    conv => cbv
                    refine br_t hO hc9 ?_
                    conv => cbv
                    exact hL_1 _ _ ⟨true, ⟨(by (conv => lhs; cbv) <;> (subst hO; rfl)), (by (conv => lhs; cbv) <;> (subst hO; rfl))⟩, h⟩
                  · conv => cbv
                    refine br_f hO hc11 ?_
                    conv => cbv
                    refine br_f hO hc11 ?_
                    conv => cbv
                    refine br_f hO (opp_of hO .neq .eql rfl rfl rfl hc10) ?_
                    conv => cbv
                    refine br_f hO (opp_of hO .neq .eql rfl rfl rfl hc10) ?_
                    conv => cbv
                    refine br_f hO (opp_of hO .neq .eql rfl rfl rfl hc10) ?_
                    conv => cbv
                    refine br_f hO (opp_of hO .neq .eql rfl rfl rfl hc10) ?_
                    conv => cbv
                    refine br_f hO (opp_of hO .neq .eql rfl rfl rfl hc10) ?_
                    conv => cbv
                    refine br_f hO (opp_of hO .neq .eql rfl rfl rfl hc10) ?_
                    conv => cbv
                    refine br_f hO (opp_of hO .neq .eql rfl rfl rfl hc10) ?_
                    conv => cbv
                    refine br_f hO (opp_of hO .neq .eql rfl rfl rfl hc10) ?_
                    conv => cbv
                    refine br_f hO hc11 ?_
                    conv => cbv
                    refine br_f hO (opp_of hO .neq .eql rfl rfl rfl hc10) ?_
                    conv => cbv
                    refine br_t hO hc9 ?_
                    conv => cbv
                    refine br_f hO hc11 ?_
                    conv => cbv
                    refine br_t hO hc9 ?_
                    conv => cbv
                    exact hL_1 _ _ ⟨false, ⟨(by (conv => lhs; cbv) <;> (subst hO; rfl)), (by (conv => lhs; cbv) <;> (subst hO; rfl))⟩, h⟩
                · conv => cbv
                  refine br_f hO hc10 ?_
                  conv => cbv
                  refine br_t hO hc9 ?_
                  conv => cbv
                  refine br_f hO hc10 ?_
                  conv => cbv
                  refine br_t hO hc9 ?_
                  conv => cbv
                  refine br_f hO rfl ?_
                  conv => cbv
                  refine br_f hO rfl ?_
                  conv => cbv
                  refine br_f hO rfl ?_
                  conv => cbv
                  refine br_t hO (opp_of hO .neq .eql rfl rfl rfl hc10) ?_
                  conv => cbv
                  refine br_t hO (opp_of hO .neq .eql rfl rfl rfl hc10) ?_
                  conv => cbv
                  refine br_t hO (opp_of hO .neq .eql rfl rfl rfl hc10) ?_
                  conv => cbv
                  refine br_t hO (opp_of hO .neq .eql rfl rfl rfl hc10) ?_
                  conv => cbv
                  refine and_h h (fun g => (by subst hO; exact g)) (fun h => ?_)
                  refine and_h h (fun g => (by subst hO; exact g)) (fun h => ?_)
                  refine and_h h (fun g => (by subst hO; exact g)) (fun h => ?_)
                  refine br_t hO (opp_of hO .neq .eql rfl rfl rfl hc10) ?_
                  conv => cbv
                  refine tob_h hO h (by subst hO; rfl) (fun s39 h => ?_)
                  conv => cbv
                  refine br_t hO (opp_of hO .neq .eql rfl rfl rfl hc10) ?_
                  conv => cbv
                  refine call_h hO [.shut, .shut] (d_p27 fu O.len hN h) ?_
                  intro os Q hos hQ
                  conv => cbv
                  refine ⟨(by (rw [hos]) <;> (subst hO; rfl)), ?_⟩
                  intro r bs hq
                  rw [hQ] at hq
                  clear hos hQ h
                  obtain ⟨y40, _, _, ⟨rfl, rfl⟩, h⟩ := hq
                  conv => cbv
                  refine ⟨agree_of hO (Nat.le_of_ble_eq_true rfl) rfl, ?_⟩
                  refine br_t hO (opp_of hO .neq .eql rfl rfl rfl hc10) ?_
                  conv => cbv
                  refine tob_h hO h (by subst hO; rfl) (fun s41 h => ?_)
                  conv => cbv
                  refine br_t hO (opp_of hO .neq .eql rfl rfl rfl hc10) ?_
                  conv => cbv
                  refine br_f hO rfl ?_
                  conv => cbv
                  refine br_t hO (opp_of hO .neq .eql rfl rfl rfl hc10) ?_
                  conv => cbv
                  refine br_t hO hc9 ?_
                  conv => cbv
                  refine br_f hO rfl ?_
                  conv => cbv
                  refine br_t hO hc9 ?_
                  conv => cbv
                  exact hL_1 _ _ ⟨(scmpStd .eql s41 s39), ⟨(by (conv => lhs; cbv) <;> (subst hO; rfl)), (by (conv => lhs; cbv) <;> (subst hO; rfl))⟩, h⟩
              · conv => cbv
                refine br_f hO hc9 ?_
                conv => cbv
                refine br_f hO hc9 ?_
                conv => cbv
                refine br_f hO hc9 ?_
                conv => cbv
                refine br_f hO hc9 ?_
                conv => cbv
                refine br_f hO hc9 ?_
                conv => cbv
                refine br_f hO hc9 ?_
                conv => cbv
                exact hL_1 _ _ ⟨false, ⟨(by (conv => lhs; cbv) <;> (subst hO; rfl)), (by (conv => lhs; cbv) <;> (subst hO; rfl))⟩, h⟩
          · conv => cbv
            refine br_f hO hc4 ?_
            conv => cbv
            refine br_f hO hc4 ?_
            conv => cbv
            refine br_f hO (opp_of hO .neq .eql rfl rfl rfl hc3) ?_
            conv => cbv
            refine br_f hO (opp_of hO .neq .eql rfl rfl rfl hc3) ?_
            conv => cbv
            refine br_f hO (opp_of hO .neq .eql rfl rfl rfl hc3) ?_
            conv => cbv
            refine br_f hO (opp_of hO .neq .eql rfl rfl rfl hc3) ?_
            conv => cbv
            refine br_f hO (opp_of hO .neq .eql rfl rfl rfl hc3) ?_
            conv => cbv
            refine br_f hO (opp_of hO .neq .eql rfl rfl rfl hc3) ?_
            conv => cbv
            refine br_f hO (opp_of hO .neq .eql rfl rfl rfl hc3) ?_
            conv => cbv
            refine br_f hO (opp_of hO .neq .eql rfl rfl rfl hc3) ?_
            conv => cbv
            refine br_f hO hc4 ?_
            conv => cbv
            refine br_f hO (opp_of hO .neq .eql rfl rfl rfl hc3) ?_
            conv => cbv
            refine br_f hO hc4 ?_
            conv => cbv
            refine br_f hO rfl ?_
            conv => cbv
            refine br_f hO rfl ?_
            conv => cbv
            refine br_f hO rfl ?_
            conv => cbv
            refine br_f hO rfl ?_
            conv => cbv
            refine br_f hO rfl ?_
            conv => cbv
            refine br_f hO rfl ?_
            conv => cbv
            refine br_f hO rfl ?_
            conv => cbv
            refine br_f hO rfl ?_
            conv => cbv
            refine br_f hO rfl ?_
            conv => cbv
            refine br_f hO rfl ?_
            conv => cbv
            refine br_f hO rfl ?_
            conv => cbv
            refine br_f hO rfl ?_
            conv => cbv
            refine br_f hO rfl ?_
            conv => cbv
            refine br_f hO rfl ?_
            conv => cbv
            exact hL_1 _ _ ⟨false, ⟨(by (conv => lhs; cbv) <;> (subst hO; rfl)), (by (conv => lhs; cbv) <;> (subst hO; rfl))⟩, h⟩
        · conv => cbv
          refine br_f hO hc3 ?_
          conv => cbv
          refine br_f hO hc3 ?_
          conv => cbv
          refine br_f hO rfl ?_
          conv => cbv
          refine br_f hO rfl ?_
          conv => cbv
          refine br_f hO rfl ?_
          conv => cbv
          refine br_t hO (opp_of hO .neq .eql rfl rfl rfl hc3) ?_
          conv => cbv
          refine br_t hO (opp_of hO .neq .eql rfl rfl rfl hc3) ?_
          conv => cbv
          refine br_t hO (opp_of hO .neq .eql rfl rfl rfl hc3) ?_
          conv => cbv
          refine br_t hO (opp_of hO .neq .eql rfl rfl rfl hc3) ?_
          conv => cbv
          refine and_h h (fun g => (by subst hO; exact g)) (fun h => ?_)
          refine and_h h (fun g => (by subst hO; exact g)) (fun h => ?_)
          refine and_h h (fun g => (by subst hO; exact g)) (fun h => ?_)
          refine br_t hO (opp_of hO .neq .eql rfl rfl rfl hc3) ?_
          conv => cbv
          refine tob_h hO h (by subst hO; rfl) (fun s42 h => ?_)
          conv => cbv
          refine br_t hO (opp_of hO .neq .eql rfl rfl rfl hc3) ?_
          conv => cbv
          refine call_h hO [.shut, .shut] (d_p26 fu O.len hN h) ?_
          intro os Q hos hQ
          conv => cbv
          refine ⟨(by (rw [hos]) <;> (subst hO; rfl)), ?_⟩
          intro r bs hq
          rw [hQ] at hq
          clear hos hQ h
          obtain ⟨y43, _, _, ⟨rfl, rfl⟩, h⟩ := hq
          conv => cbv
          refine ⟨agree_of hO (Nat.le_of_ble_eq_true rfl) rfl, ?_⟩
          refine br_t hO (opp_of hO .neq .eql rfl rfl rfl hc3) ?_
          conv => cbv
          refine tob_h hO h (by subst hO; rfl) (fun s44 h => ?_)
          conv => cbv
          refine br_t hO (opp_of hO .neq .eql rfl rfl rfl hc3) ?_
          conv => cbv
          refine br_f hO rfl ?_
          conv => cbv
          refine br_t hO (opp_of hO .neq .eql rfl rfl rfl hc3) ?_
          conv => cbv
          refine br_f hO rfl ?_
          conv => cbv
          refine br_h hO h (by subst hO; rfl) (fun hc12 h => ?_) (fun hc12 h => ?_)
          · conv => cbv
            refine br_t hO hc12 ?_
            conv => cbv
            refine br_t hO hc12 ?_
            conv => cbv
            refine br_h hO h (by subst hO; rfl) (fun hc13 h => ?_) (fun hc13 h => ?_)
            · conv => cbv
              refine br_t hO hc13 ?_
              conv => cbv
              refine br_t hO hc12 ?_
              conv => cbv
              refine br_t hO hc13 ?_
              conv => cbv
              refine br_t hO hc12 ?_
              conv => cbv
              refine br_h hO h (by subst hO; rfl) (fun hc14 h => ?_) (fun hc14 h => ?_)
              · conv => cbv
                refine br_t hO hc14 ?_
                conv => cbv
                refine br_t hO hc14 ?_
                conv => cbv
                refine br_t hO hc14 ?_
                conv => cbv
                refine br_t hO hc12 ?_
                conv => cbv
                refine br_t hO hc14 ?_
                conv => cbv
                refine br_t hO hc12 ?_
                conv => cbv
                refine br_t hO rfl ?_
                conv => cbv
                refine br_t hO rfl ?_
                conv => cbv
                refine br_t hO rfl ?_
                conv => cbv
                refine br_h hO h (by subst hO; rfl) (fun hc15 h => ?_) (fun hc15 h => ?_)
                · conv => cbv
                  refine br_t hO hc15 ?_
                  conv => cbv
                  refine br_t hO rfl ?_
                  conv => cbv
                  refine br_t hO hc15 ?_
                  conv => cbv
                  refine br_t hO rfl ?_
                  conv => cbv
                  refine br_h hO h (by subst hO; rfl) (fun hc16 h => ?_) (fun hc16 h => ?_)
                  · conv => cbv
                    refine br_t hO hc16 ?_
                    conv => cbv
                    refine br_t hO hc16 ?_
                    conv => cbv
                    refine br_t hO hc16 ?_
                    conv => cbv
                    refine br_t hO rfl ?_
                    conv => cbv
                    refine br_t hO hc16 ?_
                    conv => cbv
                    refine br_t hO rfl ?_
                    conv => cbv
                    exact hL_1 _ _ ⟨true, ⟨(by (conv => lhs; cbv) <;> (subst hO; rfl)), (by (conv => lhs; cbv) <;> (subst hO; rfl))⟩, h⟩
                  · conv => cbv
                    refine br_f hO hc16 ?_
                    conv => cbv
                    refine br_f hO hc16 ?_
                    conv => cbv
                    refine br_f hO (opp_of hO .neq .eql rfl rfl rfl hc15) ?_
                    conv => cbv
                    refine br_f hO (opp_of hO .neq .eql rfl rfl rfl hc15) ?_
                    conv => cbv
                    refine br_f hO (opp_of hO .neq .eql rfl rfl rfl hc15) ?_
                    conv => cbv
                    refine br_f hO (opp_of hO .neq .eql rfl rfl rfl hc15) ?_
                    conv => cbv
                    refine br_f hO (opp_of hO .neq .eql rfl rfl rfl hc15) ?_
                    conv => cbv
                    refine br_f hO (opp_of hO .neq .eql rfl rfl rfl hc15) ?_
                    conv => cbv
                    refine br_f hO (opp_of hO .neq .eql rfl rfl rfl hc15) ?_
                    conv => cbv
                    refine br_f hO (opp_of hO .neq .eql rfl rfl rfl hc15) ?_
                    conv => cbv
                    refine br_f hO hc16 ?_
                    conv => cbv
                    refine br_f hO (opp_of hO .neq .eql rfl rfl rfl hc15) ?_
                    conv => cbv
                    refine br_t hO rfl ?_
                    conv => cbv
                    refine br_f hO hc16 ?_
                    conv => cbv
                    refine br_t hO rfl ?_
                    conv => cbv
                    exact hL_1 _ _ ⟨false, ⟨(by (conv => lhs; cbv) <;> (subst hO; rfl)), (by (conv => lhs; cbv) <;> (subst hO; rfl))⟩, h⟩
                · conv => cbv
                  refine br_f hO hc15 ?_
                  conv => cbv
                  refine br_t hO rfl ?_
                  conv => cbv
                  refine br_f hO hc15 ?_
                  conv => cbv
                  refine br_t hO rfl ?_
                  conv => cbv
                  refine br_f hO rfl ?_
                  conv => cbv
                  refine br_f hO rfl ?_
                  conv => cbv
                  refine br_f hO rfl ?_
                  conv => cbv
                  refine br_t hO (opp_of hO .neq .eql rfl rfl rfl hc15) ?_
                  conv => cbv
                  refine br_t hO (opp_of hO .neq .eql rfl rfl rfl hc15) ?_
                  conv => cbv
                  refine br_t hO (opp_of hO .neq .eql rfl rfl rfl hc15) ?_
                  conv => cbv
                  refine br_t hO (opp_of hO .neq .eql rfl rfl rfl hc15) ?_
                  conv => cbv
                  refine and_h h (fun g => (by subst hO; exact g)) (fun h => ?_)
                  refine and_h h (fun g => (by subst hO; exact g)) (fun h => ?_)
                  refine and_h h (fun g => (by subst hO; exact g)) (fun h => ?_)
                  refine br_t hO (opp_of hO .neq .eql rfl rfl rfl hc15) ?_
                  conv => cbv
                  refine tob_h hO h (by subst hO; rfl) (fun s45 h => ?_)
                  conv => cbv
                  refine br_t hO (opp_of hO .neq .eql rfl rfl rfl hc15) ?_
                  conv => cbv
                  refine call_h hO [.shut, .shut] (d_p27 fu O.len hN h) ?_
                  intro os Q hos hQ
                  conv => cbv
                  refine ⟨(by (rw [hos]) <;> (subst hO; rfl)), ?_⟩
                  intro r bs hq
                  rw [hQ] at hq
                  clear hos hQ h
                  obtain ⟨y46, _, _, ⟨rfl, rfl⟩, h⟩ := hq
                  conv => cbv
                  refine ⟨agree_of hO (Nat.le_of_ble_eq_true rfl) rfl, ?_⟩
                  refine br_t hO (opp_of hO .neq .eql rfl rfl rfl hc15) ?_
                  conv => cbv
                  refine tob_h hO h (by subst hO; rfl) (fun s47 h => ?_)
                  conv => cbv
                  refine br_t hO (opp_of hO .neq .eql rfl rfl rfl hc15) ?_
                  conv => cbv
                  refine br_f hO rfl ?_
                  conv => cbv
                  refine br_t hO (opp_of hO .neq .eql rfl rfl rfl hc15) ?_
                  conv => cbv
                  refine br_t hO rfl ?_
                  conv => cbv
                  refine br_f hO rfl ?_
                  conv => cbv
                  refine br_t hO rfl ?_
                  conv => cbv
                  exact hL_1 _ _ ⟨(scmpStd .eql s47 s45), ⟨(by (conv => lhs; cbv) <;> (subst hO; rfl)), (by (conv => lhs; cbv) <;> (subst hO; rfl))⟩, h⟩
              · conv => cbv
                refine br_f hO hc14 ?_
                conv => cbv
                refine br_f hO hc14 ?_
                conv => cbv
                refine br_f hO (opp_of hO .neq .eql rfl rfl rfl hc13) ?_
                conv => cbv
                refine br_f hO (opp_of hO .neq .eql rfl rfl rfl hc13) ?_
                conv => cbv
                refine br_f hO (opp_of hO .neq .eql rfl rfl rfl hc13) ?_
                conv => cbv
                refine br_f hO (opp_of hO .neq .eql rfl rfl rfl hc13) ?_
                conv => cbv
                refine br_f hO (opp_of hO .neq .eql rfl rfl rfl hc13) ?_
                conv => cbv
                refine br_f hO (opp_of hO .neq .eql rfl rfl rfl hc13) ?_
                conv => cbv
                refine br_f hO (opp_of hO .neq .eql rfl rfl rfl hc13) ?_
                conv => cbv
                refine br_f hO (opp_of hO .neq .eql rfl rfl rfl hc13) ?_
                conv => cbv
                refine br_f hO hc14 ?_
                conv => cbv
                refine br_f hO (opp_of hO .neq .eql rfl rfl rfl hc13) ?_
                conv => cbv
                refine br_t hO hc12 ?_
                conv => cbv
                refine br_f hO hc14 ?_
                conv => cbv
                refine br_t hO hc12 ?_
                conv => cbv
                refine br_f hO rfl ?_
                conv => cbv
                refine br_f hO rfl ?_
                conv => cbv
                refine br_f hO rfl ?_
                conv => cbv
                refine br_f hO rfl ?_
                conv => cbv
                refine br_f hO rfl ?_
                conv => cbv
                refine br_f hO rfl ?_
                conv => cbv
                refine br_f hO rfl ?_
                conv => cbv
                exact hL_1 _ _ ⟨false, ⟨(by (conv => lhs; cbv) <;> (subst hO; rfl)), (by (conv => lhs; cbv) <;> (subst hO; rfl))⟩, h⟩
            · conv => cbv
              refine br_f hO hc13 ?_
              conv => cbv
              refine br_t hO hc12 ?_
              conv => cbv
              refine br_f hO hc13 ?_
              conv => cbv
              refine br_t hO hc12 ?_
              conv => cbv
              refine br_f hO rfl ?_
              conv => cbv
              refine br_f hO rfl ?_
              conv => cbv
              refine br_f hO rfl ?_
              conv => cbv
              refine br_t hO (opp_of hO .neq .eql rfl rfl rfl hc13) ?_
              conv => cbv
              refine br_t hO (opp_of hO .neq .eql rfl rfl rfl hc13) ?_
              conv => cbv
              refine br_t hO (opp_of hO .neq .eql rfl rfl rfl hc13) ?_
              conv => cbv
              refine br_t hO (opp_of hO .neq .eql rfl rfl rfl hc13) ?_
              conv => cbv
              refine and_h h (fun g => (by subst hO; exact g)) (fun h => ?_)
              refine and_h h (fun g => (by subst hO; exact g)) (fun h => ?_)
              refine and_h h (fun g => (by subst hO; exact g)) (fun h => ?_)
              refine br_t hO (opp_of hO .neq .eql rfl rfl rfl hc13) ?_
              conv => cbv
              refine tob_h hO h (by subst hO; rfl) (fun s48 h => ?_)
              conv => cbv
              refine br_t hO (opp_of hO .neq .eql rfl rfl rfl hc13) ?_
              conv => cbv
              refine call_h hO [.shut, .shut] (d_p17 fu O.len hN h) ?_
              intro os Q hos hQ
              conv => cbv
              refine ⟨(by (rw [hos]) <;> (subst hO; rfl)), ?_⟩
              intro r bs hq
              rw [hQ] at hq
              clear hos hQ h
              obtain ⟨y49, _, _, ⟨rfl, rfl⟩, h⟩ := hq
              conv => cbv
              refine ⟨agree_of hO (Nat.le_of_ble_eq_true rfl) rfl, ?_⟩
              refine br_t hO (opp_of hO .neq .eql rfl rfl rfl hc13) ?_
              conv => cbv
              refine view_full hO ?_
              conv => cbv
              refine tob_h hO h (by subst hO; rfl) (fun s50 h => ?_)
              conv => cbv
              refine br_t hO (opp_of hO .neq .eql rfl rfl rfl hc13) ?_
              conv => cbv
              refine br_f hO rfl ?_
              conv => cbv
              refine br_t hO (opp_of hO .neq .eql rfl rfl rfl hc13) ?_
              conv => cbv
              refine br_t hO hc12 ?_
              conv => cbv
              refine br_f hO rfl ?_
              conv => cbv
              refine br_t hO hc12 ?_
              conv => cbv
              refine br_h hO h (by subst hO; rfl) (fun hc17 h => ?_) (fun hc17 h => ?_)
              · conv => cbv
                refine br_t hO hc17 ?_
                conv => cbv
                refine br_t hO hc17 ?_
                conv => cbv
                refine br_h hO h (by subst hO; rfl) (fun hc18 h => ?_) (fun hc18 h => ?_)
                · conv => cbv
                  refine br_t hO hc18 ?_
                  conv => cbv
                  refine br_t hO hc17 ?_
                  conv => cbv
                  refine br_t hO hc18 ?_
                  conv => cbv
                  refine br_t hO hc17 ?_
                  conv => cbv
                  refine br_h hO h (by subst hO; rfl) (fun hc19 h => ?_) (fun hc19 h => ?_)
                  · conv => cbv
                    refine br_t hO hc19 ?_
                    conv => cbv
                    refine br_t hO hc19 ?_
                    conv => cbv
                    refine br_t hO hc19 ?_
                    conv => cbv
                    refine br_t hO hc17 ?_
                    conv => cbv
                    refine br_t hO hc19 ?_
                    conv => cbv
                    refine br_t hO hc17 ?_
                    conv => cbv
                    exact hL_1 _ _ ⟨true, ⟨(by (conv => lhs; cbv) <;> (subst hO; rfl)), (by (conv => lhs; cbv) <;> (subst hO; rfl))⟩, h⟩
                  · conv => cbv
                    refine br_f hO hc19 ?_
                    conv => cbv
                    refine br_f hO hc19 ?_
                    conv => cbv
                    refine br_f hO (opp_of hO .neq .eql rfl rfl rfl hc18) ?_
                    conv => cbv
                    refine br_f hO (opp_of hO .neq .eql rfl rfl rfl hc18) ?_
                    conv => cbv
                    refine br_f hO (opp_of hO .neq .eql rfl rfl rfl hc18) ?_
                    conv => cbv
                    refine br_f hO (opp_of hO .neq .eql rfl rfl rfl hc18) ?_
                    conv => cbv
                    refine br_f hO (opp_of hO .neq .eql rfl rfl rfl hc18) ?_
                    conv => cbv
                    refine br_f hO (opp_of hO .neq .eql rfl rfl rfl hc18) ?_
                    conv => cbv
                    refine br_f hO (opp_of hO .neq .eql rfl rfl rfl hc18) ?_
                    conv => cbv
                    refine br_f hO (opp_of hO .neq .eql rfl rfl rfl hc18) ?_
                    conv => cbv
                    refine br_f hO hc19 ?_
                    conv => cbv
                    refine br_f hO (opp_of hO .neq .eql rfl rfl rfl hc18) ?_
                    conv => cbv
                    refine br_t hO hc17 ?_
                    conv => cbv
                    refine br_f hO hc19 ?_
                    conv => cbv
                    refine br_t hO hc17 ?_
                    conv => cbv
                    exact hL_1 _ _ ⟨false, ⟨(by (conv => lhs; cbv) <;> (subst hO; rfl)), (by (conv => lhs; cbv) <;> (subst hO; rfl))⟩, h⟩
                · conv => cbv
                  refine br_f hO hc18 ?_
                  conv => cbv
                  refine br_t hO hc17 ?_
                  conv => cbv
                  refine br_f hO hc18 ?_
                  conv => cbv
                  refine br_t hO hc17 ?_
                  conv => cbv
                  refine br_f hO rfl ?_
                  conv => cbv
                  refine br_f hO rfl ?_
                  conv => cbv
                  refine br_f hO rfl ?_
                  conv => cbv
                  refine br_t hO (opp_of hO .neq .eql rfl rfl rfl hc18) ?_
                  conv => cbv
                  refine br_t hO (opp_of hO .neq .eql rfl rfl rfl hc18) ?_
                  conv => cbv
                  refine br_t hO (opp_of hO .neq .eql rfl rfl rfl hc18) ?_
                  conv => cbv
                  refine br_t hO (opp_of hO .neq .eql rfl rfl rfl hc18) ?_
                  conv => cbv
                  refine and_h h (fun g => (by subst hO; exact g)) (fun h => ?_)
                  refine and_h h (fun g => (by subst hO; exact g)) (fun h => ?_)
                  refine and_h h (fun g => (by subst hO; exact g)) (fun h => ?_)
                  refine br_t hO (opp_of hO .neq .eql rfl rfl rfl hc18) ?_
                  conv => cbv
                  refine tob_h hO h (by subst hO; rfl) (fun s51 h => ?_)
                  conv => cbv
                  refine br_t hO (opp_of hO .neq .eql rfl rfl rfl hc18) ?_
                  conv => cbv
                  refine call_h hO [.shut, .shut] (d_p27 fu O.len hN h) ?_
                  intro os Q hos hQ
                  conv => cbv
                  refine ⟨(by (rw [hos]) <;> (subst hO; rfl)), ?_⟩
                  intro r bs hq
                  rw [hQ] at hq
                  clear hos hQ h
                  obtain ⟨y52, _, _, ⟨rfl, rfl⟩, h⟩ := hq
                  conv => cbv
                  refine ⟨agree_of hO (Nat.le_of_ble_eq_true rfl) rfl, ?_⟩
                  refine br_t hO (opp_of hO .neq .eql rfl rfl rfl hc18) ?_
                  conv => cbv
                  refine tob_h hO h (by subst hO; rfl) (fun s53 h => ?_)
                  conv => cbv
                  refine br_t hO (opp_of hO .neq .eql rfl rfl rfl hc18) ?_
                  conv => cbv
                  refine br_f hO rfl ?_
                  conv => cbv
                  refine br_t hO (opp_of hO .neq .eql rfl rfl rfl hc18) ?_
                  conv => cbv
                  refine br_t hO hc17 ?_
                  conv => cbv
                  refine br_f hO rfl ?_
                  conv => cbv
                  refine br_t hO hc17 ?_
                  conv => cbv
                  exact hL_1 _ _ ⟨(scmpStd .eql s53 s51), ⟨(by (conv => lhs; cbv) <;> (subst hO; rfl)), (by (conv => lhs; cbv) <;> (subst hO; rfl))⟩, h⟩
              · conv => cbv
                refine br_f hO hc17 ?_
                conv => cbv
                refine br_f hO hc17 ?_
                conv => cbv
                refine br_f hO hc17 ?_
                conv => cbv
                refine br_f hO hc17 ?_
                conv => cbv
                refine br_f hO hc17 ?_
                conv => cbv
                refine br_f hO hc17 ?_
                conv => cbv
                exact hL_1 _ _ ⟨false, ⟨(by (conv => lhs; cbv) <;> (subst hO; rfl)), (by (conv => lhs; cbv) <;> (subst hO; rfl))⟩, h⟩
          · conv => cbv
            refine br_f hO hc12 ?_
            conv => cbv
            refine br_f hO hc12 ?_
            conv => cbv
            refine br_f hO hc12 ?_
            conv => cbv
            refine br_f hO hc12 ?_
            conv => cbv
            refine br_f hO hc12 ?_
            conv => cbv
            refine br_f hO hc12 ?_
            conv => cbv
            refine br_f hO rfl ?_
            conv => cbv
            refine br_f hO rfl ?_
            conv => cbv
            refine br_f hO rfl ?_
            conv => cbv
            refine br_f hO rfl ?_
            conv => cbv
            refine br_f hO rfl ?_
            conv => cbv
            refine br_f hO rfl ?_
            conv => cbv
            refine br_f hO rfl ?_
            conv => cbv
            exact hL_1 _ _ ⟨false, ⟨(by (conv => lhs; cbv) <;> (subst hO; rfl)), (by (conv => lhs; cbv) <;> (subst hO; rfl))⟩, h⟩
      · rintro tm m ⟨j32, hs, h⟩
        unfold p8_1 at h
        obtain ⟨rfl, rfl⟩ := hs
        conv => cbv
        rw [hQ]
        exact ⟨j32, _, ⟨(by subst hO; rfl), (by subst hO; rfl)⟩, h⟩
end Go.Proofs.Ythncmjlcmlmnmaa

namespace Go.Proofs.Ythncmjlcmlmnmaa
open Go V
set_option maxRecDepth 100000
set_option maxHeartbeats 2000000
theorem begun_20000 (K : Bool → Prop) : p13 (ρ := Prop) False 20000 K = K true := by kernel_rfl
theorem codecOnly_pure (bs : List UInt8) : p8 (ρ := Prop) False 20000 (fun y => y = true) (encB bs) := by
  rw [p8, begun_20000, Bool.not_true, cond_false, encB_length]
  by_cases h4 : 4000 < bs.length
  · rw [gtrT (by omega), cond_true]
  have hb : bs.length ≤ 1099511627776 := by omega
  rw [gtrF (by omega), cond_false]
  have e0 : (nilE : EL) = encB [] := rfl
  rcases takeLevel_eq False 20000 (by omega) bs hb with ⟨l, lr, _, lo, hl⟩ | ⟨le, _, le0, hl⟩ <;>
  rcases takeTerm_eq False 20000 (by omega) bs hb with ⟨t, tr, _, to, ts, ht⟩ | ⟨te, _, te0, ht⟩ <;>
  rcases takeDecl_eq False 20000 (by omega) bs hb with ⟨d, dr, _, do_, ds, hd⟩ | ⟨de, _, de0, hd⟩
  · have hll : bs.length = l.enc.length + lr.length := by rw [lo, List.length_append]
    have takeL : List.drop (0 : Int).toNat (List.take (((l.enc.length : Nat) : Int)).toNat (encB bs)) = encB l.enc := by rw [lo]; exact take_pre _ _
    have htl : bs.length = t.enc.length + tr.length := by rw [to, List.length_append]
    have takeT : List.drop (0 : Int).toNat (List.take (((t.enc.length : Nat) : Int)).toNat (encB bs)) = encB t.enc := by rw [to]; exact take_pre _ _
    have hdl : bs.length = d.enc.length + dr.length := by rw [do_, List.length_append]
    have takeD : List.drop (0 : Int).toNat (List.take (((d.enc.length : Nat) : Int)).toNat (encB bs)) = encB d.enc := by rw [do_]; exact take_pre _ _
    rw [hl, ht, hd]
    try rw [neqF rfl]
    rw [cond_false, gd_y (by decide), gd_y (by omega), gd_y (by omega), takeL, tobP_enc]
    try rw [e0]
    rw [codecLevel_eq False 20000 _ [] l (by have := Lv.sz_enc l; omega) (by have := Lv.sz_enc l; omega) (by simp only [List.length_nil]; omega), List.nil_append, tobP_enc, scmp_refl, cond_true]
    try rw [neqF rfl]
    rw [cond_false, gd_y (by decide), gd_y (by omega), gd_y (by omega), takeT, tobP_enc]
    try rw [e0]
    rw [codecTerm_eq False 20000 _ [] t (by omega) (by omega) (by simp only [List.length_nil]; omega), List.nil_append, tobP_enc, scmp_refl, cond_true]
    try rw [neqF rfl]
    rw [cond_false, gd_y (by decide), gd_y (by omega), gd_y (by omega), takeD, tobP_enc]
    try rw [e0]
    rw [codecDecl_eq False 20000 _ [] d (by omega) (by omega) (by simp only [List.length_nil]; omega), List.nil_append, tobP_enc, scmp_refl, p8_1]
  · have hll : bs.length = l.enc.length + lr.length := by rw [lo, List.length_append]
    have takeL : List.drop (0 : Int).toNat (List.take (((l.enc.length : Nat) : Int)).toNat (encB bs)) = encB l.enc := by rw [lo]; exact take_pre _ _
    have htl : bs.length = t.enc.length + tr.length := by rw [to, List.length_append]
    have takeT : List.drop (0 : Int).toNat (List.take (((t.enc.length : Nat) : Int)).toNat (encB bs)) = encB t.enc := by rw [to]; exact take_pre _ _
    rw [hl, ht, hd]
    try rw [neqF rfl]
    rw [cond_false, gd_y (by decide), gd_y (by omega), gd_y (by omega), takeL, tobP_enc]
    try rw [e0]
    rw [codecLevel_eq False 20000 _ [] l (by have := Lv.sz_enc l; omega) (by have := Lv.sz_enc l; omega) (by simp only [List.length_nil]; omega), List.nil_append, tobP_enc, scmp_refl, cond_true]
    try rw [neqF rfl]
    rw [cond_false, gd_y (by decide), gd_y (by omega), gd_y (by omega), takeT, tobP_enc]
    try rw [e0]
    rw [codecTerm_eq False 20000 _ [] t (by omega) (by omega) (by simp only [List.length_nil]; omega), List.nil_append, tobP_enc, scmp_refl, cond_true, neqT de0, cond_true]
    try rw [eqlT rfl]
    rw [cond_true, p8_1]
  · have hll : bs.length = l.enc.length + lr.length := by rw [lo, List.length_append]
    have takeL : List.drop (0 : Int).toNat (List.take (((l.enc.length : Nat) : Int)).toNat (encB bs)) = encB l.enc := by rw [lo]; exact take_pre _ _
    have hdl : bs.length = d.enc.length + dr.length := by rw [do_, List.length_append]
    have takeD : List.drop (0 : Int).toNat (List.take (((d.enc.length : Nat) : Int)).toNat (encB bs)) = encB d.enc := by rw [do_]; exact take_pre _ _
    rw [hl, ht, hd]
    try rw [neqF rfl]
    rw [cond_false, gd_y (by decide), gd_y (by omega), gd_y (by omega), takeL, tobP_enc]
    try rw [e0]
    rw [codecLevel_eq False 20000 _ [] l (by have := Lv.sz_enc l; omega) (by have := Lv.sz_enc l; omega) (by simp only [List.length_nil]; omega), List.nil_append, tobP_enc, scmp_refl, cond_true, neqT te0, cond_true]
    try rw [eqlT rfl]
    rw [cond_true]
    try rw [neqF rfl]
    rw [cond_false, gd_y (by decide), gd_y (by omega), gd_y (by omega), takeD, tobP_enc]
    try rw [e0]
    rw [codecDecl_eq False 20000 _ [] d (by omega) (by omega) (by simp only [List.length_nil]; omega), List.nil_append, tobP_enc, scmp_refl, p8_1]
  · have hll : bs.length = l.enc.length + lr.length := by rw [lo, List.length_append]
    have takeL : List.drop (0 : Int).toNat (List.take (((l.enc.length : Nat) : Int)).toNat (encB bs)) = encB l.enc := by rw [lo]; exact take_pre _ _
    rw [hl, ht, hd]
    try rw [neqF rfl]
    rw [cond_false, gd_y (by decide), gd_y (by omega), gd_y (by omega), takeL, tobP_enc]
    try rw [e0]
    rw [codecLevel_eq False 20000 _ [] l (by have := Lv.sz_enc l; omega) (by have := Lv.sz_enc l; omega) (by simp only [List.length_nil]; omega), List.nil_append, tobP_enc, scmp_refl, cond_true, neqT te0, cond_true]
    try rw [eqlT rfl]
    rw [cond_true, neqT de0, cond_true]
    try rw [eqlT rfl]
    rw [cond_true, p8_1]
  · have htl : bs.length = t.enc.length + tr.length := by rw [to, List.length_append]
    have takeT : List.drop (0 : Int).toNat (List.take (((t.enc.length : Nat) : Int)).toNat (encB bs)) = encB t.enc := by rw [to]; exact take_pre _ _
    have hdl : bs.length = d.enc.length + dr.length := by rw [do_, List.length_append]
    have takeD : List.drop (0 : Int).toNat (List.take (((d.enc.length : Nat) : Int)).toNat (encB bs)) = encB d.enc := by rw [do_]; exact take_pre _ _
    rw [hl, ht, hd, neqT le0, cond_true]
    try rw [eqlT rfl]
    rw [cond_true]
    try rw [neqF rfl]
    rw [cond_false, gd_y (by decide), gd_y (by omega), gd_y (by omega), takeT, tobP_enc]
    try rw [e0]
    rw [codecTerm_eq False 20000 _ [] t (by omega) (by omega) (by simp only [List.length_nil]; omega), List.nil_append, tobP_enc, scmp_refl, cond_true]
    try rw [neqF rfl]
    rw [cond_false, gd_y (by decide), gd_y (by omega), gd_y (by omega), takeD, tobP_enc]
    try rw [e0]
    rw [codecDecl_eq False 20000 _ [] d (by omega) (by omega) (by simp only [List.length_nil]; omega), List.nil_append, tobP_enc, scmp_refl, p8_1]
  · have htl : bs.length = t.enc.length + tr.length := by rw [to, List.length_append]
    have takeT : List.drop (0 : Int).toNat (List.take (((t.enc.length : Nat) : Int)).toNat (encB bs)) = encB t.enc := by rw [to]; exact take_pre _ _
    rw [hl, ht, hd, neqT le0, cond_true]
    try rw [eqlT rfl]
    rw [cond_true]
    try rw [neqF rfl]
    rw [cond_false, gd_y (by decide), gd_y (by omega), gd_y (by omega), takeT, tobP_enc]
    try rw [e0]
    rw [codecTerm_eq False 20000 _ [] t (by omega) (by omega) (by simp only [List.length_nil]; omega), List.nil_append, tobP_enc, scmp_refl, cond_true, neqT de0, cond_true]
    try rw [eqlT rfl]
    rw [cond_true, p8_1]
  · have hdl : bs.length = d.enc.length + dr.length := by rw [do_, List.length_append]
    have takeD : List.drop (0 : Int).toNat (List.take (((d.enc.length : Nat) : Int)).toNat (encB bs)) = encB d.enc := by rw [do_]; exact take_pre _ _
    rw [hl, ht, hd, neqT le0, cond_true]
    try rw [eqlT rfl]
    rw [cond_true, neqT te0, cond_true]
    try rw [eqlT rfl]
    rw [cond_true]
    try rw [neqF rfl]
    rw [cond_false, gd_y (by decide), gd_y (by omega), gd_y (by omega), takeD, tobP_enc]
    try rw [e0]
    rw [codecDecl_eq False 20000 _ [] d (by omega) (by omega) (by simp only [List.length_nil]; omega), List.nil_append, tobP_enc, scmp_refl, p8_1]
  · rw [hl, ht, hd, neqT le0, cond_true]
    try rw [eqlT rfl]
    rw [cond_true, neqT te0, cond_true]
    try rw [eqlT rfl]
    rw [cond_true, neqT de0, cond_true]
    try rw [eqlT rfl]
    rw [cond_true, p8_1]
end Go.Proofs.Ythncmjlcmlmnmaa

namespace Go.Proofs.Ythncmjlcmlmnmaa
open Go V
open Go.ChangeShapes Go.WideShapes Go.ChangeAt Go.RowKit
theorem Try.own : ownKnob Try.prog.godebug = none := by kernel_rfl
theorem Try.laidOut : laidOutB Try.prog = true := by kernel_rfl
set_option maxRecDepth 100000
theorem u8_of {n : Int} (h : (Lit.int .u8 n).wf = true) : 0 ≤ n ∧ n ≤ 255 := by
  have h' : (decide (IntKind.u8.min ≤ n) && decide (n ≤ IntKind.u8.max)) = true := h
  have h1 : IntKind.u8.min = 0 := by decide
  have h2 : IntKind.u8.max = 255 := by decide
  rw [Bool.and_eq_true, h1, h2] at h'
  exact ⟨of_decide_eq_true h'.1, of_decide_eq_true h'.2⟩
theorem bytes_of : ∀ (es : List (List CV)), (∀ r ∈ es, ∃ z, r = [.v (.int .u8 z)] ∧ (Lit.int .u8 z).wf = true) → ∃ bs : List UInt8, es = encB bs
  | [], _ => ⟨[], rfl⟩
  | r :: es, h => by
    obtain ⟨z, hz, hw⟩ := h r (by simp)
    obtain ⟨bs, hbs⟩ := bytes_of es (fun r hr => h r (by simp [hr]))
    have h1 := u8_of hw
    refine ⟨UInt8.ofNat z.toNat :: bs, ?_⟩
    rw [hz, hbs, encB_cons]
    have : (UInt8.ofNat z.toNat).toNat = z.toNat := by simp; omega
    rw [this, show ((z.toNat : Nat) : Int) = z by omega]
section
variable {H : Type} {enc : TypeId × Value → H} {w : World} {base : Nat} {spare : Nat → Bool} {held : Bool}
theorem cells_slice {t e : TypeId} {v : Value} {r : Reach} (hu : Try.prog.underlying t = some (.slice e)) (hv : Value.okWide Try.prog w r base t v) : v.cells = #[v] := by
  unfold Value.okWide at hv
  rw [hu] at hv
  unfold Cell.okWide at hv
  rw [hu] at hv
  unfold Cell.ok at hv
  rw [hu] at hv
  cases v <;> first | rfl | exact hv.elim
theorem bytes_arg {v : Value} {r : Reach} {d : DataW H} {ps : List MemPlace} {base' : Nat} (hv : Value.okWide Try.prog w r base' 24 v) (h : DataW.Trod enc Try.prog w base spare held 24 v d ps) :
    ∃ bs : List UInt8, RelC (allS w) w (.sl 1 (encB bs) none) v ∧ bs.length ≤ maxLen := by
  have hu : Try.prog.underlying 24 = some (.slice 5) := by kernel_rfl
  have hu8 : Try.prog.underlying 5 = some (.int .u8) := by kernel_rfl
  have hc1 : Try.prog.cellsOf 5 = 1 := by kernel_rfl
  obtain ⟨n, y, hr, hs⟩ := trod_own (l := [5, 24]) (by kernel_rfl) (by simp) h (cells_slice hu hv)
  cases n with
  | zero => exact hs.elim
  | succ n =>
    simp only [Shp, hu] at hs
    obtain ⟨es, he, hl, hall⟩ := hs
    injection he with he _
    subst he
    obtain ⟨bs, rfl⟩ := bytes_of es (fun r hr => by
      have := hall r hr
      cases n with
      | zero => exact this.elim
      | succ n => simp only [Shp, hu8] at this; exact this)
    rw [hc1] at hr
    exact ⟨bs, hr, by simpa using hl⟩
end
end Go.Proofs.Ythncmjlcmlmnmaa
