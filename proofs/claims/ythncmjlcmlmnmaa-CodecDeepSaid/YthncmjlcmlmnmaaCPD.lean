/- Functions without memory, and that the Go functions are followed by them. Printed by gen.py. Conditions: none. -/
import Derived.Test.YthncmjlcmlmnmaaP20
namespace Go.Proofs.Ythncmjlcmlmnmaa
open Go V
set_option maxRecDepth 100000
set_option maxHeartbeats 4000000
/-- codec.Level -/
def p26 {ρ : Type} (fail : ρ) (fu : Nat)  (K0 : EL → ρ) (x0 : EL) (x1 : Int) (x2 : Int) (x3 : EL) : ρ :=
  p63 fail fu (fun y1 => p70 fail fu (fun y2 => K0 y2) y1 x1 x2 x3) x0
theorem d_p26 (fu : Nat)  {K0 : EL → Prop} (L : EL → Nat) (hN : L = List.length) {x0 : EL} {x1 : Int} {x2 : Int} {x3 : EL} (h : p26 False fu K0 x0 x1 x2 x3) : Den Try.prog G0 26 [.c (.sl 1 x0 none), .agg [.c (.v (.int .i64 x1)), .c (.v (.int .i64 x2)), .c (.sl 3 x3 none)]] (fun r bs => (∃ (y0 : EL) (o0 : OV) (o1 : OV), (r = .c (.sl 1 y0 none) ∧ bs = [o0, o1]) ∧ K0 y0)) := by
  obtain ⟨O, hO⟩ : ∃ O, O = std 0 T G0 (Den Try.prog G0) := ⟨_, rfl⟩
  have hLO : L = O.len := by rw [hN, hO]; rfl
  subst hLO
  refine den_h hO tiA mixed tabOk (fn := Try.f26) (sh := true) (by kernel_rfl) rfl rfl rfl rfl ?_
  intro Q hQ
  unfold p26 at h
  conv => cbv
  refine call_h hO [.shut] (d_p63 fu O.len hN h) ?_
  intro os Q hos hQ
  conv => cbv
  refine ⟨(by (rw [hos]) <;> (subst hO; rfl)), ?_⟩
  intro r bs hq
  rw [hQ] at hq
  clear hos hQ h
  obtain ⟨y1, _, ⟨rfl, rfl⟩, h⟩ := hq
  conv => cbv
  refine call_h hO [.ref 1, .shut] (d_p70 fu O.len hN h) ?_
  intro os Q hos hQ
  conv => cbv
  refine ⟨(by subst hO; exact Nat.le_refl _), ?_⟩
  refine ⟨(by (rw [hos]) <;> (subst hO; rfl)), ?_⟩
  intro r bs hq
  rw [hQ] at hq
  clear hos hQ h
  obtain ⟨y2, _, ⟨rfl, rfl⟩, h⟩ := hq
  conv => cbv
  refine view_full hO ?_
  conv => cbv
  rw [hQ]
  exact ⟨y2, _, _, ⟨(by subst hO; rfl), (by subst hO; rfl)⟩, h⟩
end Go.Proofs.Ythncmjlcmlmnmaa

namespace Go.Proofs.Ythncmjlcmlmnmaa
open Go V
set_option maxRecDepth 100000
set_option maxHeartbeats 4000000
def p13_1 {ρ : Type} (fail : ρ) (fu : Nat)  (K0 : Bool → ρ)   (j27 : Bool) : ρ :=
  K0 j27
/-- law6.begun -/
def p13 {ρ : Type} (fail : ρ) (fu : Nat)  (K0 : Bool → ρ)  : ρ :=
  p50 fail fu (fun y1 y2 y3 => p49 fail fu (fun y4 y5 y6 y7 y8 => p51 fail fu (fun y9 y10 y11 y12 y13 => p48 fail fu (fun y14 y15 y16 y17 y18 => p17 fail fu (fun y19 => gd (1 ≤ [[(CV.v (.int .u8 9))]].length) fail (gd ((y19.length + (List.take 1 [[(CV.v (.int .u8 9))]]).length) * 1 ≤ 35184372088832) fail (p18 fail fu (fun y20 y21 y22 y23 y24 y25 y26 => tobP fail y19 (fun s28 => bif (scmpStd .eql s28 ⟨#[5, 1, 0, 0, 0]⟩) then (bif (cmpStd .eql y26 0) then (bif (cmpStd .eql y25 5) then (p19 fail fu (fun y29 => bif y29 then (p26 fail fu (fun y30 => p13_1 fail fu  K0  (cmpStd .eql ((y30.length : Nat) : Int) 1)) nilE 0 0 nilE) else (p13_1 fail fu  K0  false)) y14 y15 y16 y17 y18 y20 y21 y22 y23 y24) else (p13_1 fail fu  K0  false)) else (p13_1 fail fu  K0  false)) else (p13_1 fail fu  K0  false))) (y19 ++ (List.take 1 [[(CV.v (.int .u8 9))]]))))) nilE y14 y15 y16 y17 y18) y4 y5 y6 y7 y8 y9 y10 y11 y12 y13) 0) y1 y2 y3) 
theorem d_p13 (fu : Nat)  {K0 : Bool → Prop} (L : EL → Nat) (hN : L = List.length)  (h : p13 False fu K0 ) : Den Try.prog G0 13 [] (fun r bs => (∃ (y0 : Bool), (r = .c (.v (.bool y0)) ∧ bs = []) ∧ K0 y0)) := by
  obtain ⟨O, hO⟩ : ∃ O, O = std 0 T G0 (Den Try.prog G0) := ⟨_, rfl⟩
  have hLO : L = O.len := by rw [hN, hO]; rfl
  subst hLO
  refine den_h hO tiA mixed tabOk (fn := Try.f13) (sh := true) (by kernel_rfl) rfl rfl rfl rfl ?_
  intro Q hQ
  unfold p13 at h
  conv => cbv
  refine call_h hO [] (d_p50 fu O.len hN h) ?_
  intro os Q hos hQ
  conv => cbv
  refine ⟨(by (rw [hos]) <;> (subst hO; rfl)), ?_⟩
  intro r bs hq
  rw [hQ] at hq
  clear hos hQ h
  obtain ⟨y1, y2, y3, ⟨rfl, rfl⟩, h⟩ := hq
  conv => cbv
  refine call_h hO [.shut] (d_p49 fu O.len hN h) ?_
  intro os Q hos hQ
  conv => cbv
  refine ⟨(by (rw [hos]) <;> (subst hO; rfl)), ?_⟩
  intro r bs hq
  rw [hQ] at hq
  clear hos hQ h
  obtain ⟨y4, y5, y6, y7, y8, _, ⟨rfl, rfl⟩, h⟩ := hq
  conv => cbv
  refine call_h hO [.shut] (d_p51 fu O.len hN h) ?_
  intro os Q hos hQ
  conv => cbv
  refine ⟨(by (rw [hos]) <;> (subst hO; rfl)), ?_⟩
  intro r bs hq
  rw [hQ] at hq
  clear hos hQ h
  obtain ⟨y9, y10, y11, y12, y13, _, ⟨rfl, rfl⟩, h⟩ := hq
  conv => cbv
  refine call_h hO [.shut, .shut] (d_p48 fu O.len hN h) ?_
  intro os Q hos hQ
  conv => cbv
  refine ⟨(by (rw [hos]) <;> (subst hO; rfl)), ?_⟩
  intro r bs hq
  rw [hQ] at hq
  clear hos hQ h
  obtain ⟨y14, y15, y16, y17, y18, _, _, ⟨rfl, rfl⟩, h⟩ := hq
  conv => cbv
  refine call_h hO [.shut, .shut] (d_p17 fu O.len hN h) ?_
  intro os Q hos hQ
  conv => cbv
  refine ⟨(by (rw [hos]) <;> (subst hO; rfl)), ?_⟩
  intro r bs hq
  rw [hQ] at hq
  clear hos hQ h
  obtain ⟨y19, _, _, ⟨rfl, rfl⟩, h⟩ := hq
  conv => cbv
  refine alt_r hO ?_
  conv => cbv
  refine view_full hO ?_
  conv => cbv
  refine view_h hO h (fun g => (by subst hO; exact g)) (fun h => ?_)
  conv => cbv
  refine ⟨(by subst hO; rfl), ?_⟩
  refine and_h h (fun g => (by subst hO; exact g)) (fun h => ?_)
  refine call_h hO [.shut] (d_p18 fu O.len hN h) ?_
  intro os Q hos hQ
  conv => cbv
  refine view_full hO ?_
  conv => cbv
  refine ⟨(by (rw [hos]) <;> (subst hO; rfl)), ?_⟩
  intro r bs hq
  rw [hQ] at hq
  clear hos hQ h
  obtain ⟨y20, y21, y22, y23, y24, y25, y26, _, ⟨rfl, rfl⟩, h⟩ := hq
  conv => cbv
  refine reg_join hO tiA [0] [] [] (fun tm m => ∃ (j27 : Bool), ((tm = frame 0 42 [(0, .c (.v (.bool j27)))] ∧ m = ⟨[], 1⟩)) ∧ p13_1 False fu  K0  j27) (fun L hL_1 => ?_) ?_
  · conv => cbv
    refine tob_h hO h (by subst hO; rfl) (fun s28 h => ?_)
    conv => cbv
    refine br_h hO h (by subst hO; rfl) (fun hc1 h => ?_) (fun hc1 h => ?_)
    · conv => cbv
      refine br_t hO hc1 ?_
      conv => cbv
      refine br_t hO hc1 ?_
      conv => cbv
      refine br_h hO h (by subst hO; rfl) (fun hc2 h => ?_) (fun hc2 h => ?_)
      · conv => cbv
        refine br_t hO hc2 ?_
        conv => cbv
        refine br_t hO hc2 ?_
        conv => cbv
        refine br_h hO h (by subst hO; rfl) (fun hc3 h => ?_) (fun hc3 h => ?_)
        · conv => cbv
          refine br_t hO hc3 ?_
          conv => cbv
          refine br_t hO hc3 ?_
          conv => cbv
          refine call_h hO [.shut, .shut] (d_p19 fu O.len hN h) ?_
          intro os Q hos hQ
          conv => cbv
          refine ⟨(by (rw [hos]) <;> (subst hO; rfl)), ?_⟩
          intro r bs hq
          rw [hQ] at hq
          clear hos hQ h
          obtain ⟨y29, _, _, ⟨rfl, rfl⟩, h⟩ := hq
          conv => cbv
          refine br_t hO hc3 ?_
          conv => cbv
          refine br_h hO h (by subst hO; rfl) (fun hc4 h => ?_) (fun hc4 h => ?_)
          · conv => cbv
            refine br_t hO hc4 ?_
            conv => cbv
            refine call_h hO [.shut, .shut] (d_p26 fu O.len hN h) ?_
            intro os Q hos hQ
            conv => cbv
            refine ⟨(by (rw [hos]) <;> (subst hO; rfl)), ?_⟩
            intro r bs hq
            rw [hQ] at hq
            clear hos hQ h
            obtain ⟨y30, _, _, ⟨rfl, rfl⟩, h⟩ := hq
            conv => cbv
            refine br_t hO hc4 ?_
            conv => cbv
            refine br_t hO hc4 ?_
            conv => cbv
            refine br_t hO hc4 ?_
            conv => cbv
            exact hL_1 _ _ ⟨(cmpStd .eql ((y30.length : Nat) : Int) 1), ⟨(by (conv => lhs; cbv) <;> (subst hO; rfl)), (by (conv => lhs; cbv) <;> (subst hO; rfl))⟩, h⟩
          · conv => cbv
            refine br_f hO hc4 ?_
            conv => cbv
            refine br_f hO hc4 ?_
            conv => cbv
            refine br_f hO hc4 ?_
            conv => cbv
            refine br_f hO hc4 ?_
            conv => cbv
            exact hL_1 _ _ ⟨false, ⟨(by (conv => lhs; cbv) <;> (subst hO; rfl)), (by (conv => lhs; cbv) <;> (subst hO; rfl))⟩, h⟩
        · conv => cbv
          refine br_f hO hc3 ?_
          conv => cbv
          refine br_f hO hc3 ?_
          conv => cbv
          refine br_f hO hc3 ?_
          conv => cbv
          refine br_f hO rfl ?_
          conv => cbv
          refine br_f hO rfl ?_
          conv => cbv
          refine br_f hO rfl ?_
          conv => cbv
          refine br_f hO rfl ?_
          conv => cbv
          refine br_f hO rfl ?_
          conv => cbv
          exact hL_1 _ _ ⟨false, ⟨(by (conv => lhs; cbv) <;> (subst hO; rfl)), (by (conv => lhs; cbv) <;> (subst hO; rfl))⟩, h⟩
      · conv => cbv
        refine br_f hO hc2 ?_
        conv => cbv
        refine br_f hO hc2 ?_
        conv => cbv
        refine br_f hO rfl ?_
        conv => cbv
        refine br_f hO rfl ?_
        conv => cbv
        refine br_f hO rfl ?_
        conv => cbv
        refine br_f hO rfl ?_
        conv => cbv
        refine br_f hO rfl ?_
        conv => cbv
        refine br_f hO rfl ?_
        conv => cbv
        refine br_f hO rfl ?_
        conv => cbv
        refine br_f hO rfl ?_
        conv => cbv
        refine br_f hO rfl ?_
        conv => cbv
        exact hL_1 _ _ ⟨false, ⟨(by (conv => lhs; cbv) <;> (subst hO; rfl)), (by (conv => lhs; cbv) <;> (subst hO; rfl))⟩, h⟩
    · conv => cbv
      refine br_f hO hc1 ?_
      conv => cbv
      refine br_f hO hc1 ?_
      conv => cbv
      refine br_f hO rfl ?_
      conv => cbv
      refine br_f hO rfl ?_
      conv => cbv
      refine br_f hO rfl ?_
      conv => cbv
      refine br_f hO rfl ?_
      conv => cbv
      refine br_f hO rfl ?_
      conv => cbv
      refine br_f hO rfl ?_
      conv => cbv
      refine br_f hO rfl ?_
      conv => cbv
      refine br_f hO rfl ?_
      conv => cbv
      refine br_f hO rfl ?_
      conv => cbv
      refine br_f hO rfl ?_
      conv => cbv
      refine br_f hO rfl ?_
      conv => cbv
      refine br_f hO rfl ?_
      conv => cbv
      exact hL_1 _ _ ⟨false, ⟨(by (conv => lhs; cbv) <;> (subst hO; rfl)), (by (conv => lhs; cbv) <;> (subst hO; rfl))⟩, h⟩
  · rintro tm m ⟨j27, hs, h⟩
    unfold p13_1 at h
    obtain ⟨rfl, rfl⟩ := hs
    conv => cbv
    rw [hQ]
    exact ⟨j27, ⟨(by subst hO; rfl), (by subst hO; rfl)⟩, h⟩
end Go.Proofs.Ythncmjlcmlmnmaa

namespace Go.Proofs.Ythncmjlcmlmnmaa
open Go V
set_option maxRecDepth 100000
set_option maxHeartbeats 4000000
/-- codec.TakeLevel -/
def p20 {ρ : Type} (fail : ρ) (fu : Nat)  (K0 : Int → Int → EL → Int → Int → ρ) (x0 : EL) : ρ :=
  p67 fail fu (fun y1 y2 y3 y4 y5 => p66 fail fu (fun y6 y7 y8 y9 => bif (cmpStd .neq y7 0) then (K0 0 0 nilE 0 y7) else (K0 y1 y2 y3 y6 0)) y4 y5 x0) x0 0
theorem d_p20 (fu : Nat)  {K0 : Int → Int → EL → Int → Int → Prop} (L : EL → Nat) (hN : L = List.length) {x0 : EL} (h : p20 False fu K0 x0) : Den Try.prog G0 20 [.c (.sl 1 x0 none)] (fun r bs => (∃ (y0 : Int) (y1 : Int) (y2 : EL) (y3 : Int) (y4 : Int) (o0 : OV), (r = .tup [.agg [.c (.v (.int .i64 y0)), .c (.v (.int .i64 y1)), .c (.sl 3 y2 none)], .c (.v (.int .i64 y3)), .c (.v (.int .i64 y4))] ∧ bs = [o0]) ∧ K0 y0 y1 y2 y3 y4)) := by
  obtain ⟨O, hO⟩ : ∃ O, O = std 0 T G0 (Den Try.prog G0) := ⟨_, rfl⟩
  have hLO : L = O.len := by rw [hN, hO]; rfl
  subst hLO
  refine den_h hO tiA mixed tabOk (fn := Try.f20) (sh := true) (by kernel_rfl) rfl rfl rfl rfl ?_
  intro Q hQ
  unfold p20 at h
  conv => cbv
  refine call_h hO [.ref 2] (d_p67 fu O.len hN h) ?_
  intro os Q hos hQ
  conv => cbv
  refine ⟨(by (rw [hos]) <;> (subst hO; rfl)), ?_⟩
  intro r bs hq
  rw [hQ] at hq
  clear hos hQ h
  obtain ⟨y1, y2, y3, y4, y5, ⟨rfl, rfl⟩, h⟩ := hq
  conv => cbv
  refine call_h hO [.ref 2, .shut] (d_p66 fu O.len hN h) ?_
  intro os Q hos hQ
  conv => cbv
  refine ⟨(by (rw [hos]) <;> (subst hO; rfl)), ?_⟩
  intro r bs hq
  rw [hQ] at hq
  clear hos hQ h
  obtain ⟨y6, y7, y8, y9, _, ⟨rfl, rfl⟩, h⟩ := hq
  conv => cbv
  refine br_h hO h (by subst hO; rfl) (fun hc1 h => ?_) (fun hc1 h => ?_)
  · conv => cbv
    rw [hQ]
    exact ⟨0, 0, nilE, 0, y7, _, ⟨(by subst hO; rfl), (by subst hO; rfl)⟩, h⟩
  · conv => cbv
    refine join_all hO ?_
    conv => cbv
    rw [hQ]
    exact ⟨y1, y2, y3, y6, 0, _, ⟨(by subst hO; rfl), (by subst hO; rfl)⟩, h⟩
/-- ref5.App -/
def p68 {ρ : Type} (fail : ρ) (fu : Nat)  (K0 : Int → Int → ByteArray → EL → EL → ρ) (x0 : Int) (x1 : Int) (x2 : ByteArray) (x3 : EL) (x4 : EL) (x5 : Int) (x6 : Int) (x7 : ByteArray) (x8 : EL) (x9 : EL) : ρ :=
  p100 fail fu (fun y1 y2 y3 y4 y5 => gd (2 ≤ [[(CV.v (.int .i64 x0)), (CV.v (.int .i64 x1)), (CV.v (.string x2)), (CV.sl 3 x3 none), (CV.sl 5 x4 none)], [(CV.v (.int .i64 y1)), (CV.v (.int .i64 y2)), (CV.v (.string y3)), (CV.sl 3 y4 none), (CV.sl 5 y5 none)]].length) fail (K0 3 0 ⟨#[]⟩ nilE (List.take 2 [[(CV.v (.int .i64 x0)), (CV.v (.int .i64 x1)), (CV.v (.string x2)), (CV.sl 3 x3 none), (CV.sl 5 x4 none)], [(CV.v (.int .i64 y1)), (CV.v (.int .i64 y2)), (CV.v (.string y3)), (CV.sl 3 y4 none), (CV.sl 5 y5 none)]]))) x5 x6 x7 x8 x9
theorem d_p68 (fu : Nat)  {K0 : Int → Int → ByteArray → EL → EL → Prop} (L : EL → Nat) (hN : L = List.length) {x0 : Int} {x1 : Int} {x2 : ByteArray} {x3 : EL} {x4 : EL} {x5 : Int} {x6 : Int} {x7 : ByteArray} {x8 : EL} {x9 : EL} (h : p68 False fu K0 x0 x1 x2 x3 x4 x5 x6 x7 x8 x9) : Den Try.prog G0 68 [.agg [.c (.v (.int .i64 x0)), .c (.v (.int .i64 x1)), .c (.v (.string x2)), .c (.sl 3 x3 none), .c (.sl 5 x4 none)], .agg [.c (.v (.int .i64 x5)), .c (.v (.int .i64 x6)), .c (.v (.string x7)), .c (.sl 3 x8 none), .c (.sl 5 x9 none)]] (fun r bs => (∃ (y0 : Int) (y1 : Int) (y2 : ByteArray) (y3 : EL) (y4 : EL) (o0 : OV) (o1 : OV), (r = .agg [.c (.v (.int .i64 y0)), .c (.v (.int .i64 y1)), .c (.v (.string y2)), .c (.sl 3 y3 none), .c (.sl 5 y4 none)] ∧ bs = [o0, o1]) ∧ K0 y0 y1 y2 y3 y4)) := by
  obtain ⟨O, hO⟩ : ∃ O, O = std 0 T G0 (Den Try.prog G0) := ⟨_, rfl⟩
  have hLO : L = O.len := by rw [hN, hO]; rfl
  subst hLO
  refine den_h hO tiA mixed tabOk (fn := Try.f68) (sh := true) (by kernel_rfl) rfl rfl rfl rfl ?_
  intro Q hQ
  unfold p68 at h
  conv => cbv
  refine drawn_of hO tiA [9000] [(0, true, false), (1, true, false), (2, false, false), (3, false, false), (4, false, false), (5, false, true)] (by kernel_rfl) ?_
  conv => cbv
  refine call_h hO [.shut] (d_p100 fu O.len hN h) ?_
  intro os Q hos hQ
  conv => cbv
  refine ⟨(by (rw [hos]) <;> (subst hO; rfl)), ?_⟩
  intro r bs hq
  rw [hQ] at hq
  clear hos hQ h
  obtain ⟨y1, y2, y3, y4, y5, _, ⟨rfl, rfl⟩, h⟩ := hq
  conv => cbv
  refine ⟨agree_of hO (Nat.le_of_ble_eq_true rfl) rfl, ?_⟩
  refine ⟨agree_of hO (Nat.le_of_ble_eq_true rfl) rfl, ?_⟩
  refine ⟨agree_of hO (Nat.le_of_ble_eq_true rfl) rfl, ?_⟩
  refine join_all hO ?_
  conv => cbv
  refine view_h hO h (fun g => (by subst hO; exact g)) (fun h => ?_)
  conv => cbv
  rw [hQ]
  exact ⟨3, 0, ⟨#[]⟩, nilE, List.take 2 [[(CV.v (.int .i64 x0)), (CV.v (.int .i64 x1)), (CV.v (.string x2)), (CV.sl 3 x3 none), (CV.sl 5 x4 none)], [(CV.v (.int .i64 y1)), (CV.v (.int .i64 y2)), (CV.v (.string y3)), (CV.sl 3 y4 none), (CV.sl 5 y5 none)]], _, _, ⟨(by subst hO; rfl), (by subst hO; rfl)⟩, h⟩
end Go.Proofs.Ythncmjlcmlmnmaa

namespace Go.Proofs.Ythncmjlcmlmnmaa
open Go V
set_option maxRecDepth 100000
set_option maxHeartbeats 4000000
def p21_1 {ρ : Type} (fail : ρ) (fu : Nat)  (K0 : Int → Int → ByteArray → EL → EL → ρ) (rec1 : Int → Int → ByteArray → EL → EL → Int → ρ) (x0 : Int) (z6 : Int) (z7 : Int) (z8 : ByteArray) (z9 : EL) (z10 : EL) (z11 : Int) : ρ :=
  bif (cmpStd .lss z11 x0) then (p68 fail fu (fun y12 y13 y14 y15 y16 => rec1 y12 y13 y14 y15 y16 (binStd .add .i64 z11 1)) z6 z7 z8 z9 z10 z6 z7 z8 z9 z10) else (K0 z6 z7 z8 z9 z10)
def p21_1L {ρ : Type} (fail : ρ) (fu : Nat)  (K0 : Int → Int → ByteArray → EL → EL → ρ)  (x0 : Int) : Nat → Int → Int → ByteArray → EL → EL → Int → ρ
  | 0, _, _, _, _, _, _ => fail
  | n + 1, z6, z7, z8, z9, z10, z11 => p21_1 fail fu  K0 (p21_1L fail fu  K0  x0 n) x0 z6 z7 z8 z9 z10 z11
/-- law6.wide -/
def p21 {ρ : Type} (fail : ρ) (fu : Nat)  (K0 : Int → Int → ByteArray → EL → EL → ρ) (x0 : Int) : ρ :=
  p51 fail fu (fun y1 y2 y3 y4 y5 => p21_1L fail fu  K0 x0 fu y1 y2 y3 y4 y5 1) 0
theorem d_p21 (fu : Nat)  {K0 : Int → Int → ByteArray → EL → EL → Prop} (L : EL → Nat) (hN : L = List.length) {x0 : Int} (h : p21 False fu K0 x0) : Den Try.prog G0 21 [.c (.v (.int .i64 x0))] (fun r bs => (∃ (y0 : Int) (y1 : Int) (y2 : ByteArray) (y3 : EL) (y4 : EL) (o0 : OV), (r = .agg [.c (.v (.int .i64 y0)), .c (.v (.int .i64 y1)), .c (.v (.string y2)), .c (.sl 3 y3 none), .c (.sl 5 y4 none)] ∧ bs = [o0]) ∧ K0 y0 y1 y2 y3 y4)) := by
  obtain ⟨O, hO⟩ : ∃ O, O = std 0 T G0 (Den Try.prog G0) := ⟨_, rfl⟩
  have hLO : L = O.len := by rw [hN, hO]; rfl
  subst hLO
  refine den_h hO tiA mixed tabOk (fn := Try.f21) (sh := true) (by kernel_rfl) rfl rfl rfl rfl ?_
  intro Q hQ
  unfold p21 at h
  conv => cbv
  refine call_h hO [.shut] (d_p51 fu O.len hN h) ?_
  intro os Q hos hQ
  conv => cbv
  refine ⟨(by (rw [hos]) <;> (subst hO; rfl)), ?_⟩
  intro r bs hq
  rw [hQ] at hq
  clear hos hQ h
  obtain ⟨y1, y2, y3, y4, y5, _, ⟨rfl, rfl⟩, h⟩ := hq
  conv => cbv
  refine loop_of hO tiA [0, 2, 3, 4] [3000, 4000] [] (fun (n : Nat) tm m => ∃ (z6 : Int) (z7 : Int) (z8 : ByteArray) (z9 : EL) (z10 : EL) (z11 : Int), ((tm = frame 0 15 [(0, .c (.v (.int .i64 x0))), (2, .p 3000 0 0), (3, .p 4000 0 0), (4, .c (.v (.int .i64 z11)))] ∧ m = ⟨[(3000, .blk 0 [.c (.v (.int .i64 0)), .c (.v (.int .i64 0)), .c (.v (.string ⟨#[]⟩)), .c (.sl 3 [] (some [])), .c (.sl 5 [] (some []))]), (4000, .blk 0 [.c (.v (.int .i64 z6)), .c (.v (.int .i64 z7)), .c (.v (.string z8)), .c (.sl 3 z9 none), .c (.sl 5 z10 none)])], 1⟩)) ∧ p21_1L False fu  K0 x0 n z6 z7 z8 z9 z10 z11) (fun n => n) fu ⟨y1, y2, y3, y4, y5, 1, ⟨(by (conv => lhs; cbv) <;> (subst hO; rfl)), (by (conv => lhs; cbv) <;> (subst hO; rfl))⟩, h⟩ ?_
  rintro n1 tm m L ⟨z6, z7, z8, z9, z10, z11, hs, h⟩ hLn1
  cases n1 with
  | zero => rw [p21_1L] at h; exact h.elim
  | succ n1 =>
    rw [p21_1L] at h
    unfold p21_1 at h
    obtain ⟨rfl, rfl⟩ := hs
    conv => cbv
    refine br_h hO h (by subst hO; rfl) (fun hc1 h => ?_) (fun hc1 h => ?_)
    · conv => cbv
      refine join_all hO ?_
      conv => cbv
      refine call_h hO [.shut, .shut] (d_p68 fu O.len hN h) ?_
      intro os Q hos hQ
      conv => cbv
      refine ⟨(by (rw [hos]) <;> (subst hO; rfl)), ?_⟩
      intro r bs hq
      rw [hQ] at hq
      clear hos hQ h
      obtain ⟨y12, y13, y14, y15, y16, _, _, ⟨rfl, rfl⟩, h⟩ := hq
      conv => cbv
      exact hLn1 n1 _ _ (Nat.lt_succ_self n1) ⟨y12, y13, y14, y15, y16, binStd .add .i64 z11 1, ⟨(by (conv => lhs; cbv) <;> (subst hO; rfl)), (by (conv => lhs; cbv) <;> (subst hO; rfl))⟩, h⟩
    · conv => cbv
      rw [hQ]
      exact ⟨z6, z7, z8, z9, z10, _, ⟨(by subst hO; rfl), (by subst hO; rfl)⟩, h⟩
end Go.Proofs.Ythncmjlcmlmnmaa

namespace Go.Proofs.Ythncmjlcmlmnmaa
open Go V
set_option maxRecDepth 100000
set_option maxHeartbeats 4000000
def p22_1 {ρ : Type} (fail : ρ) (fu : Nat) (s_p22 : (Int → ρ) → Int → Int → ByteArray → EL → EL → Int → ρ) (K0 : Int → ρ) (rec1 : Int → Int → Int → ρ) (x4 : EL) (z1 : Int) (z2 : Int) (z3 : Int) (j4 : Bool) : ρ :=
  bif j4 then (gd ((0 : Int) ≤ z3) fail (gd ((z3 : Int) < (x4.length : Nat)) fail (rw_i64_i64_s_l3_l5 fail (List.getD x4 ((z3 : Int).toNat) []) (fun c5 c6 c7 c8 c9 => s_p22 (fun y10 => rec1 z1 (binStd .add .i64 z2 y10) (binStd .add .i64 z3 1)) c5 c6 c7 c8 c9 (binStd .sub .i64 z1 z2))))) else (bif (cmpStd .gtr z2 z1) then (K0 (binStd .add .i64 z1 1)) else (K0 z2))
def p22_2 {ρ : Type} (fail : ρ) (fu : Nat) (s_p22 : (Int → ρ) → Int → Int → ByteArray → EL → EL → Int → ρ) (K0 : Int → ρ) (rec1 : Int → Int → Int → ρ) (x4 : EL) (z1 : Int) (z2 : Int) (z3 : Int) : ρ :=
  bif (cmpStd .lss z3 ((x4.length : Nat) : Int)) then (p22_1 fail fu s_p22 K0 rec1 x4 z1 z2 z3 (cmpStd .leq z2 z1)) else (p22_1 fail fu s_p22 K0 rec1 x4 z1 z2 z3 false)
def p22_2L {ρ : Type} (fail : ρ) (fu : Nat) (s_p22 : (Int → ρ) → Int → Int → ByteArray → EL → EL → Int → ρ) (K0 : Int → ρ)  (x4 : EL) : Nat → Int → Int → Int → ρ
  | 0, _, _, _ => fail
  | n + 1, z1, z2, z3 => p22_2 fail fu s_p22 K0 (p22_2L fail fu s_p22 K0  x4 n) x4 z1 z2 z3
/-- ref5.Size -/
def p22_b {ρ : Type} (fail : ρ) (fu : Nat) (s_p22 : (Int → ρ) → Int → Int → ByteArray → EL → EL → Int → ρ) (K0 : Int → ρ) (x0 : Int) (x1 : Int) (x2 : ByteArray) (x3 : EL) (x4 : EL) (x5 : Int) : ρ :=
  p22_2L fail fu s_p22 K0 x4 fu (if 0 > x5 then 0 else x5) 1 0
def p22 {ρ : Type} (fail : ρ) : Nat → (Int → ρ) → Int → Int → ByteArray → EL → EL → Int → ρ
  | 0, _, _, _, _, _, _, _ => fail
  | n + 1, K0, x0, x1, x2, x3, x4, x5 => p22_b fail n (p22 fail n) K0 x0 x1 x2 x3 x4 x5
def D_p22 (fu : Nat) : Prop := ∀ {K0 : Int → Prop} (L : EL → Nat) (_ : L = List.length) {x0 : Int} {x1 : Int} {x2 : ByteArray} {x3 : EL} {x4 : EL} {x5 : Int} (_ : p22 False fu K0 x0 x1 x2 x3 x4 x5), Den Try.prog G0 22 [.agg [.c (.v (.int .i64 x0)), .c (.v (.int .i64 x1)), .c (.v (.string x2)), .c (.sl 3 x3 none), .c (.sl 5 x4 none)], .c (.v (.int .i64 x5))] (fun r bs => (∃ (y0 : Int) (o0 : OV) (o1 : OV), (r = .c (.v (.int .i64 y0)) ∧ bs = [o0, o1]) ∧ K0 y0))
theorem b_p22 (fu : Nat) (ih_p22 : D_p22 fu) {K0 : Int → Prop} (L : EL → Nat) (hN : L = List.length) {x0 : Int} {x1 : Int} {x2 : ByteArray} {x3 : EL} {x4 : EL} {x5 : Int} (h : p22_b False fu (p22 False fu) K0 x0 x1 x2 x3 x4 x5) : Den Try.prog G0 22 [.agg [.c (.v (.int .i64 x0)), .c (.v (.int .i64 x1)), .c (.v (.string x2)), .c (.sl 3 x3 none), .c (.sl 5 x4 none)], .c (.v (.int .i64 x5))] (fun r bs => (∃ (y0 : Int) (o0 : OV) (o1 : OV), (r = .c (.v (.int .i64 y0)) ∧ bs = [o0, o1]) ∧ K0 y0)) := by
  obtain ⟨O, hO⟩ : ∃ O, O = std 0 T G0 (Den Try.prog G0) := ⟨_, rfl⟩
  have hLO : L = O.len := by rw [hN, hO]; rfl
  subst hLO
  refine den_h hO tiA mixed tabOk (fn := Try.f22) (sh := true) (by kernel_rfl) rfl rfl rfl rfl ?_
  intro Q hQ
  unfold p22_b at h
  conv => cbv
  refine loop_of hO tiA [1, 2, 5, 6] [3000] [] (fun (n : Nat) tm m => ∃ (z1 : Int) (z2 : Int) (z3 : Int), ((tm = frame 0 38 [(1, .c (.v (.int .i64 z1))), (2, .p 3000 0 0), (5, .c (.v (.int .i64 z2))), (6, .c (.v (.int .i64 z3)))] ∧ m = ⟨[(3000, .blk 0 [.c (.v (.int .i64 x0)), .c (.v (.int .i64 x1)), .c (.v (.string x2)), .c (.sl 3 x3 none), .c (.sl 5 x4 none)])], 1⟩)) ∧ p22_2L False fu (p22 False fu) K0 x4 n z1 z2 z3) (fun n => n) fu ⟨(if 0 > x5 then 0 else x5), 1, 0, ⟨(by (conv => lhs; cbv) <;> (subst hO; rfl)), (by (conv => lhs; cbv) <;> (subst hO; rfl))⟩, h⟩ ?_
  rintro n1 tm m L ⟨z1, z2, z3, hs, h⟩ hLn1
  cases n1 with
  | zero => rw [p22_2L] at h; exact h.elim
  | succ n1 =>
    rw [p22_2L] at h
    unfold p22_2 at h
    obtain ⟨rfl, rfl⟩ := hs
    conv => cbv
    refine reg_join hO tiA [1, 2, 5, 6, 18] [3000] [] (fun tm m => ∃ (j4 : Bool), ((tm = frame 0 38 [(1, .c (.v (.int .i64 z1))), (2, .p 3000 0 0), (5, .c (.v (.int .i64 z2))), (6, .c (.v (.int .i64 z3))), (18, .c (.v (.bool j4)))] ∧ m = ⟨[(3000, .blk 0 [.c (.v (.int .i64 x0)), .c (.v (.int .i64 x1)), .c (.v (.string x2)), .c (.sl 3 x3 none), .c (.sl 5 x4 none)])], 1⟩)) ∧ p22_1 False fu (p22 False fu) K0 (p22_2L False fu (p22 False fu) K0  x4 n1) x4 z1 z2 z3 j4) (fun L hL_1 => ?_) ?_
    · conv => cbv
      refine br_h hO h (by subst hO; rfl) (fun hc3 h => ?_) (fun hc3 h => ?_)
      · conv => cbv
        refine br_t hO hc3 ?_
        conv => cbv
        refine br_t hO hc3 ?_
        conv => cbv
        refine br_t hO hc3 ?_
        conv => cbv
        exact hL_1 _ _ ⟨(cmpStd .leq z2 z1), ⟨(by (conv => lhs; cbv) <;> (subst hO; rfl)), (by (conv => lhs; cbv) <;> (subst hO; rfl))⟩, h⟩
      · conv => cbv
        refine br_f hO hc3 ?_
        conv => cbv
        refine br_f hO hc3 ?_
        conv => cbv
        refine br_f hO hc3 ?_
        conv => cbv
        exact hL_1 _ _ ⟨false, ⟨(by (conv => lhs; cbv) <;> (subst hO; rfl)), (by (conv => lhs; cbv) <;> (subst hO; rfl))⟩, h⟩
    · rintro tm m ⟨j4, hs, h⟩
      unfold p22_1 at h
      obtain ⟨rfl, rfl⟩ := hs
      conv => cbv
      refine br_h hO h (by subst hO; rfl) (fun hc1 h => ?_) (fun hc1 h => ?_)
      · conv => cbv
        refine join_all hO ?_
        conv => cbv
        refine and_h h (fun g => (by subst hO; exact g)) (fun h => ?_)
        refine and_h h (fun g => (by subst hO; exact g)) (fun h => ?_)
        obtain ⟨c5, c6, c7, c8, c9, hr, h⟩ := rw_i64_i64_s_l3_l5_inv h
        refine elem_of hO _ (by subst hO; exact hr) ?_
        clear hr
        conv => cbv
        refine call_h hO [.shut, .shut] (ih_p22 O.len hN h) ?_
        intro os Q hos hQ
        conv => cbv
        refine ⟨(by (rw [hos]) <;> (subst hO; rfl)), ?_⟩
        intro r bs hq
        rw [hQ] at hq
        clear hos hQ h
        obtain ⟨y10, _, _, ⟨rfl, rfl⟩, h⟩ := hq
        conv => cbv
        exact hLn1 n1 _ _ (Nat.lt_succ_self n1) ⟨z1, binStd .add .i64 z2 y10, binStd .add .i64 z3 1, ⟨(by (conv => lhs; cbv) <;> (subst hO; rfl)), (by (conv => lhs; cbv) <;> (subst hO; rfl))⟩, h⟩
      · conv => cbv
        refine br_h hO h (by subst hO; rfl) (fun hc2 h => ?_) (fun hc2 h => ?_)
        · conv => cbv
          rw [hQ]
          exact ⟨binStd .add .i64 z1 1, _, _, ⟨(by subst hO; rfl), (by subst hO; rfl)⟩, h⟩
        · conv => cbv
          refine join_all hO ?_
          conv => cbv
          rw [hQ]
          exact ⟨z2, _, _, ⟨(by subst hO; rfl), (by subst hO; rfl)⟩, h⟩
theorem dd_p22 (fu : Nat) : D_p22 fu := by
  induction fu with
  | zero => unfold D_p22; intros; rename_i h; rw [p22] at h; exact h.elim
  | succ n ih =>
    exact (by unfold D_p22; intro K0 L hN x0 x1 x2 x3 x4 x5 h; exact b_p22 n ih L hN (by rw [p22] at h; exact h))
theorem d_p22 (fu : Nat) {K0 : Int → Prop} (L : EL → Nat) (hL : L = List.length) {x0 : Int} {x1 : Int} {x2 : ByteArray} {x3 : EL} {x4 : EL} {x5 : Int} (h : p22 False fu K0 x0 x1 x2 x3 x4 x5) : Den Try.prog G0 22 [.agg [.c (.v (.int .i64 x0)), .c (.v (.int .i64 x1)), .c (.v (.string x2)), .c (.sl 3 x3 none), .c (.sl 5 x4 none)], .c (.v (.int .i64 x5))] (fun r bs => (∃ (y0 : Int) (o0 : OV) (o1 : OV), (r = .c (.v (.int .i64 y0)) ∧ bs = [o0, o1]) ∧ K0 y0)) := dd_p22 fu L hL h
end Go.Proofs.Ythncmjlcmlmnmaa
