/- Functions without memory, and that the Go functions are followed by them. Printed by gen.py. Conditions: none. -/
import Derived.Test.YthncmjlcmlmnmaaCW9
import Derived.Test.YthncmjlcmlmnmaaCW12
namespace Go.Proofs.Ythncmjlcmlmnmaa
open Go V
set_option maxRecDepth 100000
set_option maxHeartbeats 4000000
def p108_1 {ρ : Type} (fail : ρ) (fu : Nat)  (K0 : Bool → ρ)   (j2 : Bool) : ρ :=
  K0 j2
def p108_2 {ρ : Type} (fail : ρ) (fu : Nat)  (K0 : Bool → ρ)  (x0 : Int) (x3 : EL) (j1 : Bool) : ρ :=
  bif j1 then (K0 false) else (bif (cmpStd .eql x0 2) then (p108_1 fail fu  K0  true) else (bif (cmpStd .eql x0 1) then (bif (cmpStd .eql ((x3.length : Nat) : Int) 1) then (p108_1 fail fu  K0  true) else (p108_1 fail fu  K0  false)) else (p108_1 fail fu  K0  (cmpStd .eql ((x3.length : Nat) : Int) 0))))
/-- ref5.part -/
def p108 {ρ : Type} (fail : ρ) (fu : Nat)  (K0 : Bool → ρ) (x0 : Int) (x1 : Int) (x2 : ByteArray) (x3 : EL) (x4 : EL) : ρ :=
  p136 fail fu (fun y3 => bif (cmpStd .neq y3 ((x4.length : Nat) : Int)) then (p108_2 fail fu  K0 x0 x3 true) else (bif (cmpStd .neq x0 0) then (bif (cmpStd .neq x1 0) then (p108_2 fail fu  K0 x0 x3 true) else (bif (cmpStd .lss x1 0) then (p108_2 fail fu  K0 x0 x3 true) else (bif (cmpStd .gtr x1 1073741824) then (p108_2 fail fu  K0 x0 x3 true) else (bif (cmpStd .neq x0 2) then (p108_2 fail fu  K0 x0 x3 (scmpStd .neq x2 ⟨#[]⟩)) else (p108_2 fail fu  K0 x0 x3 false))))) else (bif (cmpStd .lss x1 0) then (p108_2 fail fu  K0 x0 x3 true) else (bif (cmpStd .gtr x1 1073741824) then (p108_2 fail fu  K0 x0 x3 true) else (bif (cmpStd .neq x0 2) then (p108_2 fail fu  K0 x0 x3 (scmpStd .neq x2 ⟨#[]⟩)) else (p108_2 fail fu  K0 x0 x3 false)))))) x0
theorem d_p108 (fu : Nat)  {K0 : Bool → Prop} (L : EL → Nat) (hN : L = List.length) {x0 : Int} {x1 : Int} {x2 : ByteArray} {x3 : EL} {x4 : EL} (h : p108 False fu K0 x0 x1 x2 x3 x4) : Den Try.prog G0 108 [.agg [.c (.v (.int .i64 x0)), .c (.v (.int .i64 x1)), .c (.v (.string x2)), .c (.sl 3 x3 none), .c (.sl 5 x4 none)]] (fun r bs => (∃ (y0 : Bool) (o0 : OV), (r = .c (.v (.bool y0)) ∧ bs = [o0]) ∧ K0 y0)) := by
  obtain ⟨O, hO⟩ : ∃ O, O = std 0 T G0 (Den Try.prog G0) := ⟨_, rfl⟩
  have hLO : L = O.len := by rw [hN, hO]; rfl
  subst hLO
  refine den_h hO tiA mixed tabOk (fn := Try.f108) (sh := true) (by kernel_rfl) rfl rfl rfl rfl ?_
  intro Q hQ
  unfold p108 at h
  conv => cbv
  refine drawn_join hO tiA [[], []] [(0, true, false), (1, true, false), (3, true, false), (4, true, false), (5, true, false), (2, false, false), (6, true, false), (7, true, false), (8, true, false), (9, true, false), (10, true, false), (11, true, false), (12, true, false), (13, true, false), (14, true, false), (15, true, false), (16, true, false), (17, true, false), (18, true, false), (19, true, false), (20, true, false), (21, true, false), (22, true, false), (23, true, false), (24, true, false), (25, true, false), (26, true, false), (27, true, false), (28, true, false), (29, true, false), (30, true, false), (31, true, false), (32, true, false), (33, true, false), (34, true, false), (35, true, false), (36, true, false)] (by kernel_rfl) [1, 39] [2000] [] (fun tm m => ∃ (j1 : Bool), ((tm = frame 0 65 [(1, .p 2000 0 0), (39, .c (.v (.bool j1)))] ∧ m = ⟨[(2000, .blk 0 [.c (.v (.int .i64 x0)), .c (.v (.int .i64 x1)), .c (.v (.string x2)), .c (.sl 3 x3 none), .c (.sl 5 x4 none)])], 1⟩)) ∧ p108_2 False fu  K0 x0 x3 j1) (fun L hL_2 => ?_) ?_
  · conv => cbv
    refine call_h hO [.shut] (d_p136 fu O.len hN h) ?_
    intro os Q hos hQ
    conv => cbv
    refine ⟨(by (rw [hos]) <;> (subst hO; rfl)), ?_⟩
    intro r bs hq
    rw [hQ] at hq
    clear hos hQ h
    obtain ⟨y3, _, ⟨rfl, rfl⟩, h⟩ := hq
    conv => cbv
    refine ⟨agree_of hO (Nat.le_of_ble_eq_true rfl) rfl, ?_⟩
    refine br_h hO h (by subst hO; rfl) (fun hc5 h => ?_) (fun hc5 h => ?_)
    · conv => cbv
      refine br_t hO hc5 ?_
      conv => cbv
      refine br_t hO hc5 ?_
      conv => cbv
      refine br_t hO hc5 ?_
      conv => cbv
      refine br_t hO hc5 ?_
      conv => cbv
      refine br_t hO hc5 ?_
      conv => cbv
      refine br_t hO rfl ?_
      conv => cbv
      refine br_t hO rfl ?_
      conv => cbv
      refine br_t hO rfl ?_
      conv => cbv
      refine br_t hO rfl ?_
      conv => cbv
      refine br_t hO rfl ?_
      conv => cbv
      refine br_t hO rfl ?_
      conv => cbv
      refine br_t hO rfl ?_
      conv => cbv
      refine br_t hO rfl ?_
      conv => cbv
      refine br_t hO rfl ?_
      conv => cbv
      refine br_t hO rfl ?_
      conv => cbv
      refine br_t hO rfl ?_
      conv => cbv
      refine br_t hO rfl ?_
      conv => cbv
      refine br_t hO rfl ?_
      conv => cbv
      refine br_t hO rfl ?_
      conv => cbv
      exact hL_2 _ _ ⟨true, ⟨(by (conv => lhs; cbv) <;> (subst hO; rfl)), (by (conv => lhs; cbv) <;> (subst hO; rfl))⟩, h⟩
    · conv => cbv
      refine br_f hO hc5 ?_
      conv => cbv
      refine br_f hO hc5 ?_
      conv => cbv
      refine br_f hO hc5 ?_
      conv => cbv
      refine br_h hO h (by subst hO; rfl) (fun hc6 h => ?_) (fun hc6 h => ?_)
      · conv => cbv
        refine br_t hO hc6 ?_
        conv => cbv
        refine br_t hO hc6 ?_
        conv => cbv
        refine br_f hO hc5 ?_
        conv => cbv
        refine br_t hO hc6 ?_
        conv => cbv
        refine br_f hO hc5 ?_
        conv => cbv
        refine br_h hO h (by subst hO; rfl) (fun hc7 h => ?_) (fun hc7 h => ?_)
        · conv => cbv
          refine br_t hO hc7 ?_
          conv => cbv
          refine br_t hO hc7 ?_
          conv => cbv
          refine br_t hO hc7 ?_
          conv => cbv
          refine br_t hO rfl ?_
          conv => cbv
          refine br_t hO rfl ?_
          conv => cbv
          refine br_t hO rfl ?_
          conv => cbv
          refine br_t hO rfl ?_
          conv => cbv
          refine br_t hO rfl ?_
          conv => cbv
          refine br_t hO rfl ?_
          conv => cbv
          refine br_t hO rfl ?_
          conv => cbv
          refine br_t hO rfl ?_
          conv => cbv
          refine br_t hO rfl ?_
          conv => cbv
          refine br_t hO rfl ?_
          conv => cbv
          exact hL_2 _ _ ⟨true, ⟨(by (conv => lhs; cbv) <;> (subst hO; rfl)), (by (conv => lhs; cbv) <;> (subst hO; rfl))⟩, h⟩
        · conv => cbv
          refine br_f hO hc7 ?_
          conv => cbv
          refine br_f hO hc7 ?_
          conv => cbv
          refine br_f hO hc7 ?_
          conv => cbv
          refine br_h hO h (by subst hO; rfl) (fun hc8 h => ?_) (fun hc8 h => ?_)
          · conv => cbv
            refine br_t hO hc8 ?_
            conv => cbv
            refine br_t hO hc8 ?_
            conv => cbv
            refine br_t hO hc8 ?_
            conv => cbv
            refine br_t hO rfl ?_
            conv => cbv
            refine br_t hO rfl ?_
            conv => cbv
            refine br_t hO rfl ?_
            conv => cbv
            refine br_t hO rfl ?_
            conv => cbv
            refine br_t hO rfl ?_
            conv => cbv
            refine br_t hO rfl ?_
            conv => cbv
            exact hL_2 _ _ ⟨true, ⟨(by (conv => lhs; cbv) <;> (subst hO; rfl)), (by (conv => lhs; cbv) <;> (subst hO; rfl))⟩, h⟩
          · conv => cbv
            refine br_f hO hc8 ?_
            conv => cbv
            refine br_f hO hc8 ?_
            conv => cbv
            refine br_f hO hc8 ?_
            conv => cbv
            refine br_h hO h (by subst hO; rfl) (fun hc9 h => ?_) (fun hc9 h => ?_)
            · conv => cbv
              refine br_t hO hc9 ?_
              conv => cbv
              refine br_t hO hc9 ?_
              conv => cbv
              refine br_t hO hc9 ?_
              conv => cbv
              refine br_t hO hc9 ?_
              conv => cbv
              refine br_t hO hc9 ?_
              conv => cbv
              exact hL_2 _ _ ⟨true, ⟨(by (conv => lhs; cbv) <;> (subst hO; rfl)), (by (conv => lhs; cbv) <;> (subst hO; rfl))⟩, h⟩
            · conv => cbv
              refine br_f hO hc9 ?_
              conv => cbv
              refine br_f hO hc9 ?_
              conv => cbv
              refine br_f hO hc9 ?_
              conv => cbv
              refine br_h hO h (by subst hO; rfl) (fun hc10 h => ?_) (fun hc10 h => ?_)
              · conv => cbv
                refine br_t hO hc10 ?_
                conv => cbv
                refine br_t hO hc10 ?_
                conv => cbv
                refine br_f hO hc9 ?_
                conv => cbv
                refine br_t hO hc10 ?_
                conv => cbv
                refine br_f hO hc9 ?_
                conv => cbv
                exact hL_2 _ _ ⟨(scmpStd .neq x2 ⟨#[]⟩), ⟨(by (conv => lhs; cbv) <;> (subst hO; rfl)), (by (conv => lhs; cbv) <;> (subst hO; rfl))⟩, h⟩
              · conv => cbv
                refine br_f hO hc10 ?_
                conv => cbv
                refine br_f hO hc10 ?_
                conv => cbv
                refine br_f hO hc9 ?_
                conv => cbv
                refine br_f hO hc10 ?_
                conv => cbv
                refine br_f hO hc9 ?_
                conv => cbv
                exact hL_2 _ _ ⟨false, ⟨(by (conv => lhs; cbv) <;> (subst hO; rfl)), (by (conv => lhs; cbv) <;> (subst hO; rfl))⟩, h⟩
      · conv => cbv
        refine br_f hO hc6 ?_
        conv => cbv
        refine br_f hO hc6 ?_
        conv => cbv
        refine br_f hO hc5 ?_
        conv => cbv
        refine br_f hO hc6 ?_
        conv => cbv
        refine br_f hO hc5 ?_
        conv => cbv
        refine br_f hO rfl ?_
        conv => cbv
        refine br_f hO rfl ?_
        conv => cbv
        refine br_f hO rfl ?_
        conv => cbv
        refine br_f hO rfl ?_
        conv => cbv
        refine br_h hO h (by subst hO; rfl) (fun hc11 h => ?_) (fun hc11 h => ?_)
        · conv => cbv
          refine br_t hO hc11 ?_
          conv => cbv
          refine br_t hO hc11 ?_
          conv => cbv
          refine br_t hO hc11 ?_
          conv => cbv
          refine br_t hO rfl ?_
          conv => cbv
          refine br_t hO rfl ?_
          conv => cbv
          refine br_t hO rfl ?_
          conv => cbv
          refine br_t hO rfl ?_
          conv => cbv
          refine br_t hO rfl ?_
          conv => cbv
          refine br_t hO rfl ?_
          conv => cbv
          exact hL_2 _ _ ⟨true, ⟨(by (conv => lhs; cbv) <;> (subst hO; rfl)), (by (conv => lhs; cbv) <;> (subst hO; rfl))⟩, h⟩
        · conv => cbv
          refine br_f hO hc11 ?_
          conv => cbv
          refine br_f hO hc11 ?_
          conv => cbv
          refine br_f hO hc11 ?_
          conv => cbv
          refine br_h hO h (by subst hO; rfl) (fun hc12 h => ?_) (fun hc12 h => ?_)
          · conv => cbv
            refine br_t hO hc12 ?_
            conv => cbv
            refine br_t hO hc12 ?_
            conv => cbv
            refine br_t hO hc12 ?_
            conv => cbv
            refine br_t hO hc12 ?_
            conv => cbv
            refine br_t hO hc12 ?_
            conv => cbv
            exact hL_2 _ _ ⟨true, ⟨(by (conv => lhs; cbv) <;> (subst hO; rfl)), (by (conv => lhs; cbv) <;> (subst hO; rfl))⟩, h⟩
          · conv => cbv
            refine br_f hO hc12 ?_
            conv => cbv
            refine br_f hO hc12 ?_
            conv => cbv
            refine br_f hO hc12 ?_
            conv => cbv
            refine br_h hO h (by subst hO; rfl) (fun hc13 h => ?_) (fun hc13 h => ?_)
            · conv => cbv
              refine br_t hO hc13 ?_
              conv => cbv
              refine br_t hO hc13 ?_
              conv => cbv
              refine br_f hO hc12 ?_
              conv => cbv
              refine br_t hO hc13 ?_
              conv => cbv
              refine br_f hO hc12 ?_
              conv => cbv
              exact hL_2 _ _ ⟨(scmpStd .neq x2 ⟨#[]⟩), ⟨(by (conv => lhs; cbv) <;> (subst hO; rfl)), (by (conv => lhs; cbv) <;> (subst hO; rfl))⟩, h⟩
            · conv => cbv
              refine br_f hO hc13 ?_
              conv => cbv
              refine br_f hO hc13 ?_
              conv => cbv
              refine br_f hO hc12 ?_
              conv => cbv
              refine br_f hO hc13 ?_
              conv => cbv
              refine br_f hO hc12 ?_
              conv => cbv
              exact hL_2 _ _ ⟨false, ⟨(by (conv => lhs; cbv) <;> (subst hO; rfl)), (by (conv => lhs; cbv) <;> (subst hO; rfl))⟩, h⟩
  · rintro tm m ⟨j1, hs, h⟩
    unfold p108_2 at h
    obtain ⟨rfl, rfl⟩ := hs
    conv => cbv
    refine br_h hO h (by subst hO; rfl) (fun hc1 h => ?_) (fun hc1 h => ?_)
    · conv => cbv
      rw [hQ]
      exact ⟨false, _, ⟨(by subst hO; rfl), (by subst hO; rfl)⟩, h⟩
    · conv => cbv
      refine join_all hO ?_
      conv => cbv
      refine reg_join hO tiA [2] [] [] (fun tm m => ∃ (j2 : Bool), ((tm = frame 0 65 [(2, .c (.v (.bool j2)))] ∧ m = ⟨[], 1⟩)) ∧ p108_1 False fu  K0  j2) (fun L hL_1 => ?_) ?_
      · conv => cbv
        refine br_h hO h (by subst hO; rfl) (fun hc2 h => ?_) (fun hc2 h => ?_)
        · conv => cbv
          refine br_t hO hc2 ?_
          conv => cbv
          refine br_t hO hc2 ?_
          conv => cbv
          refine br_t hO hc2 ?_
          conv => cbv
          refine br_t hO hc2 ?_
          conv => cbv
          refine br_t hO hc2 ?_
          conv => cbv
          refine br_t hO rfl ?_
          conv => cbv
          refine br_t hO rfl ?_
          conv => cbv
          refine br_t hO rfl ?_
          conv => cbv
          refine br_t hO rfl ?_
          conv => cbv
          refine br_t hO rfl ?_
          conv => cbv
          refine br_t hO rfl ?_
          conv => cbv
          exact hL_1 _ _ ⟨true, ⟨(by (conv => lhs; cbv) <;> (subst hO; rfl)), (by (conv => lhs; cbv) <;> (subst hO; rfl))⟩, h⟩
        · conv => cbv
          refine br_f hO hc2 ?_
          conv => cbv
          refine br_f hO hc2 ?_
          conv => cbv
          refine br_f hO hc2 ?_
          conv => cbv
          refine br_h hO h (by subst hO; rfl) (fun hc3 h => ?_) (fun hc3 h => ?_)
          · conv => cbv
            refine br_t hO hc3 ?_
            conv => cbv
            refine br_t hO hc3 ?_
            conv => cbv
            refine br_t hO hc3 ?_
            conv => cbv
            refine br_f hO hc2 ?_
            conv => cbv
            refine br_t hO hc3 ?_
            conv => cbv
            refine br_f hO hc2 ?_
            conv => cbv
            refine br_h hO h (by subst hO; rfl) (fun hc4 h => ?_) (fun hc4 h => ?_)
            · conv => cbv
              refine br_t hO hc4 ?_
              conv => cbv
              refine br_t hO hc4 ?_
              conv => cbv
              refine br_t hO hc4 ?_
              conv => cbv
              refine br_t hO hc4 ?_
              conv => cbv
              refine br_t hO hc4 ?_
              conv => cbv
              exact hL_1 _ _ ⟨true, ⟨(by (conv => lhs; cbv) <;> (subst hO; rfl)), (by (conv => lhs; cbv) <;> (subst hO; rfl))⟩, h⟩
            · conv => cbv
              refine br_f hO hc4 ?_
              conv => cbv
              refine br_f hO hc4 ?_
              conv => cbv
              refine br_f hO hc4 ?_
              conv => cbv
              refine br_f hO (opp_of hO .eql .neq rfl rfl rfl hc3) ?_
              conv => cbv
              refine br_f hO (opp_of hO .eql .neq rfl rfl rfl hc3) ?_
              conv => cbv
              refine br_f hO (opp_of hO .eql .neq rfl rfl rfl hc3) ?_
              conv => cbv
              refine br_f hO (opp_of hO .eql .neq rfl rfl rfl hc3) ?_
              conv => cbv
              refine br_f hO hc4 ?_
              conv => cbv
              refine br_f hO (opp_of hO .eql .neq rfl rfl rfl hc3) ?_
              conv => cbv
              refine br_f hO hc4 ?_
              conv => cbv
              exact hL_1 _ _ ⟨false, ⟨(by (conv => lhs; cbv) <;> (subst hO; rfl)), (by (conv => lhs; cbv) <;> (subst hO; rfl))⟩, h⟩
          · conv => cbv
            refine br_f hO hc3 ?_
            conv => cbv
            refine br_f hO hc3 ?_
            conv => cbv
            refine br_f hO hc3 ?_
            conv => cbv
            refine br_f hO hc2 ?_
            conv => cbv
            refine br_f hO hc3 ?_
            conv => cbv
            refine br_f hO hc2 ?_
            conv => cbv
            refine br_f hO rfl ?_
            conv => cbv
            refine br_f hO rfl ?_
            conv => cbv
            refine br_f hO rfl ?_
            conv => cbv
            refine br_f hO rfl ?_
            conv => cbv
            refine br_t hO (opp_of hO .eql .neq rfl rfl rfl hc3) ?_
            conv => cbv
            refine br_t hO (opp_of hO .eql .neq rfl rfl rfl hc3) ?_
            conv => cbv
            refine br_t hO (opp_of hO .eql .neq rfl rfl rfl hc3) ?_
            conv => cbv
            refine br_t hO (opp_of hO .eql .neq rfl rfl rfl hc3) ?_
            conv => cbv
            refine br_f hO rfl ?_
            conv => cbv
            refine br_t hO (opp_of hO .eql .neq rfl rfl rfl hc3) ?_
            conv => cbv
            refine br_f hO rfl ?_
            conv => cbv
            exact hL_1 _ _ ⟨(cmpStd .eql ((x3.length : Nat) : Int) 0), ⟨(by (conv => lhs; cbv) <;> (subst hO; rfl)), (by (conv => lhs; cbv) <;> (subst hO; rfl))⟩, h⟩
      · rintro tm m ⟨j2, hs, h⟩
        unfold p108_1 at h
        obtain ⟨rfl, rfl⟩ := hs
        conv => cbv
        rw [hQ]
        exact ⟨j2, _, ⟨(by subst hO; rfl), (by subst hO; rfl)⟩, h⟩
end Go.Proofs.Ythncmjlcmlmnmaa

namespace Go.Proofs.Ythncmjlcmlmnmaa
open Go V
set_option maxRecDepth 100000
set_option maxHeartbeats 4000000
def p59_1 {ρ : Type} (fail : ρ) (fu : Nat) (s_p59 : (Int → Bool → ρ) → Int → Int → ByteArray → EL → EL → Int → ρ) (K0 : Int → Bool → ρ) (rec1 : Int → Int → ρ) (x4 : EL) (z3 : Int) (z4 : Int) : ρ :=
  bif (cmpStd .lss z4 ((x4.length : Nat) : Int)) then (gd ((0 : Int) ≤ z4) fail (gd ((z4 : Int) < (x4.length : Nat)) fail (rw_i64_i64_s_l3_l5 fail (List.getD x4 ((z4 : Int).toNat) []) (fun c5 c6 c7 c8 c9 => s_p59 (fun y10 y11 => bif (!y11) then (K0 (-1) false) else (rec1 y10 (binStd .add .i64 z4 1))) c5 c6 c7 c8 c9 z3)))) else (K0 z3 true)
def p59_1L {ρ : Type} (fail : ρ) (fu : Nat) (s_p59 : (Int → Bool → ρ) → Int → Int → ByteArray → EL → EL → Int → ρ) (K0 : Int → Bool → ρ)  (x4 : EL) : Nat → Int → Int → ρ
  | 0, _, _ => fail
  | n + 1, z3, z4 => p59_1 fail fu s_p59 K0 (p59_1L fail fu s_p59 K0  x4 n) x4 z3 z4
def p59_2 {ρ : Type} (fail : ρ) (fu : Nat) (s_p59 : (Int → Bool → ρ) → Int → Int → ByteArray → EL → EL → Int → ρ) (K0 : Int → Bool → ρ)  (x4 : EL) (j1 : Int) (j2 : Bool) : ρ :=
  bif j2 then (K0 (-1) false) else (p59_1L fail fu s_p59 K0 x4 fu j1 0)
/-- ref5.Whole -/
def p59_b {ρ : Type} (fail : ρ) (fu : Nat) (s_p59 : (Int → Bool → ρ) → Int → Int → ByteArray → EL → EL → Int → ρ) (K0 : Int → Bool → ρ) (x0 : Int) (x1 : Int) (x2 : ByteArray) (x3 : EL) (x4 : EL) (x5 : Int) : ρ :=
  bif (cmpStd .lss (binStd .sub .i64 x5 1) 0) then (p59_2 fail fu s_p59 K0 x4 (binStd .sub .i64 x5 1) true) else (p108 fail fu (fun y12 => p59_2 fail fu s_p59 K0 x4 (binStd .sub .i64 x5 1) (!y12)) x0 x1 x2 x3 x4)
def p59 {ρ : Type} (fail : ρ) : Nat → (Int → Bool → ρ) → Int → Int → ByteArray → EL → EL → Int → ρ
  | 0, _, _, _, _, _, _, _ => fail
  | n + 1, K0, x0, x1, x2, x3, x4, x5 => p59_b fail n (p59 fail n) K0 x0 x1 x2 x3 x4 x5
def D_p59 (fu : Nat) : Prop := ∀ {K0 : Int → Bool → Prop} (L : EL → Nat) (_ : L = List.length) {x0 : Int} {x1 : Int} {x2 : ByteArray} {x3 : EL} {x4 : EL} {x5 : Int} (_ : p59 False fu K0 x0 x1 x2 x3 x4 x5), Den Try.prog G0 59 [.agg [.c (.v (.int .i64 x0)), .c (.v (.int .i64 x1)), .c (.v (.string x2)), .c (.sl 3 x3 none), .c (.sl 5 x4 none)], .c (.v (.int .i64 x5))] (fun r bs => (∃ (y0 : Int) (y1 : Bool) (o0 : OV) (o1 : OV), (r = .tup [.c (.v (.int .i64 y0)), .c (.v (.bool y1))] ∧ bs = [o0, o1]) ∧ K0 y0 y1))
theorem b_p59 (fu : Nat) (ih_p59 : D_p59 fu) {K0 : Int → Bool → Prop} (L : EL → Nat) (hN : L = List.length) {x0 : Int} {x1 : Int} {x2 : ByteArray} {x3 : EL} {x4 : EL} {x5 : Int} (h : p59_b False fu (p59 False fu) K0 x0 x1 x2 x3 x4 x5) : Den Try.prog G0 59 [.agg [.c (.v (.int .i64 x0)), .c (.v (.int .i64 x1)), .c (.v (.string x2)), .c (.sl 3 x3 none), .c (.sl 5 x4 none)], .c (.v (.int .i64 x5))] (fun r bs => (∃ (y0 : Int) (y1 : Bool) (o0 : OV) (o1 : OV), (r = .tup [.c (.v (.int .i64 y0)), .c (.v (.bool y1))] ∧ bs = [o0, o1]) ∧ K0 y0 y1)) := by
  obtain ⟨O, hO⟩ : ∃ O, O = std 0 T G0 (Den Try.prog G0) := ⟨_, rfl⟩
  have hLO : L = O.len := by rw [hN, hO]; rfl
  subst hLO
  refine den_h hO tiA mixed tabOk (fn := Try.f59) (sh := true) (by kernel_rfl) rfl rfl rfl rfl ?_
  intro Q hQ
  unfold p59_b at h
  conv => cbv
  refine reg_join hO tiA [1, 2, 17] [3000] [] (fun tm m => ∃ (j1 : Int) (j2 : Bool), ((tm = frame 0 39 [(1, .c (.v (.int .i64 j1))), (2, .p 3000 0 0), (17, .c (.v (.bool j2)))] ∧ m = ⟨[(3000, .blk 0 [.c (.v (.int .i64 x0)), .c (.v (.int .i64 x1)), .c (.v (.string x2)), .c (.sl 3 x3 none), .c (.sl 5 x4 none)])], 1⟩)) ∧ p59_2 False fu (p59 False fu) K0 x4 j1 j2) (fun L hL_2 => ?_) ?_
  · conv => cbv
    refine br_h hO h (by subst hO; rfl) (fun hc4 h => ?_) (fun hc4 h => ?_)
    · conv => cbv
      refine br_t hO hc4 ?_
      conv => cbv
      refine br_t hO hc4 ?_
      conv => cbv
      refine br_t hO hc4 ?_
      conv => cbv
      exact hL_2 _ _ ⟨binStd .sub .i64 x5 1, true, ⟨(by (conv => lhs; cbv) <;> (subst hO; rfl)), (by (conv => lhs; cbv) <;> (subst hO; rfl))⟩, h⟩
    · conv => cbv
      refine br_f hO hc4 ?_
      conv => cbv
      refine call_h hO [.shut] (d_p108 fu O.len hN h) ?_
      intro os Q hos hQ
      conv => cbv
      refine ⟨(by (rw [hos]) <;> (subst hO; rfl)), ?_⟩
      intro r bs hq
      rw [hQ] at hq
      clear hos hQ h
      obtain ⟨y12, _, ⟨rfl, rfl⟩, h⟩ := hq
      conv => cbv
      refine br_f hO hc4 ?_
      conv => cbv
      refine br_f hO hc4 ?_
      conv => cbv
      exact hL_2 _ _ ⟨binStd .sub .i64 x5 1, (!y12), ⟨(by (conv => lhs; cbv) <;> (subst hO; rfl)), (by (conv => lhs; cbv) <;> (subst hO; rfl))⟩, h⟩
  · rintro tm m ⟨j1, j2, hs, h⟩
    unfold p59_2 at h
    obtain ⟨rfl, rfl⟩ := hs
    conv => cbv
    refine br_h hO h (by subst hO; rfl) (fun hc1 h => ?_) (fun hc1 h => ?_)
    · conv => cbv
      rw [hQ]
      exact ⟨(-1), false, _, _, ⟨(by subst hO; rfl), (by subst hO; rfl)⟩, h⟩
    · conv => cbv
      refine join_all hO ?_
      conv => cbv
      refine loop_of hO tiA [1, 2, 6] [3000] [] (fun (n : Nat) tm m => ∃ (z3 : Int) (z4 : Int), ((tm = frame 0 39 [(1, .c (.v (.int .i64 z3))), (2, .p 3000 0 0), (6, .c (.v (.int .i64 z4)))] ∧ m = ⟨[(3000, .blk 0 [.c (.v (.int .i64 x0)), .c (.v (.int .i64 x1)), .c (.v (.string x2)), .c (.sl 3 x3 none), .c (.sl 5 x4 none)])], 1⟩)) ∧ p59_1L False fu (p59 False fu) K0 x4 n z3 z4) (fun n => n) fu ⟨j1, 0, ⟨(by (conv => lhs; cbv) <;> (subst hO; rfl)), (by (conv => lhs; cbv) <;> (subst hO; rfl))⟩, h⟩ ?_
      rintro n1 tm m L ⟨z3, z4, hs, h⟩ hLn1
      cases n1 with
      | zero => rw [p59_1L] at h; exact h.elim
      | succ n1 =>
        rw [p59_1L] at h
        unfold p59_1 at h
        obtain ⟨rfl, rfl⟩ := hs
        conv => cbv
        refine br_h hO h (by subst hO; rfl) (fun hc2 h => ?_) (fun hc2 h => ?_)
        · conv => cbv
          refine join_all hO ?_
          conv => cbv
          refine and_h h (fun g => (by subst hO; exact g)) (fun h => ?_)
          refine and_h h (fun g => (by subst hO; exact g)) (fun h => ?_)
          obtain ⟨c5, c6, c7, c8, c9, hr, h⟩ := rw_i64_i64_s_l3_l5_inv h
          refine elem_of hO _ (by subst hO; exact hr) ?_
          clear hr
          conv => cbv
          refine call_h hO [.shut, .shut] (ih_p59 O.len hN h) ?_
          intro os Q hos hQ
          conv => cbv
          refine ⟨(by (rw [hos]) <;> (subst hO; rfl)), ?_⟩
          intro r bs hq
          rw [hQ] at hq
          clear hos hQ h
          obtain ⟨y10, y11, _, _, ⟨rfl, rfl⟩, h⟩ := hq
          conv => cbv
          refine br_h hO h (by subst hO; rfl) (fun hc3 h => ?_) (fun hc3 h => ?_)
          · conv => cbv
            rw [hQ]
            exact ⟨(-1), false, _, _, ⟨(by subst hO; rfl), (by subst hO; rfl)⟩, h⟩
          · conv => cbv
            refine join_all hO ?_
            conv => cbv
            exact hLn1 n1 _ _ (Nat.lt_succ_self n1) ⟨y10, binStd .add .i64 z4 1, ⟨(by (conv => lhs; cbv) <;> (subst hO; rfl)), (by (conv => lhs; cbv) <;> (subst hO; rfl))⟩, h⟩
        · conv => cbv
          rw [hQ]
          exact ⟨z3, true, _, _, ⟨(by subst hO; rfl), (by subst hO; rfl)⟩, h⟩
theorem dd_p59 (fu : Nat) : D_p59 fu := by
  induction fu with
  | zero => unfold D_p59; intros; rename_i h; rw [p59] at h; exact h.elim
  | succ n ih =>
    exact (by unfold D_p59; intro K0 L hN x0 x1 x2 x3 x4 x5 h; exact b_p59 n ih L hN (by rw [p59] at h; exact h))
theorem d_p59 (fu : Nat) {K0 : Int → Bool → Prop} (L : EL → Nat) (hL : L = List.length) {x0 : Int} {x1 : Int} {x2 : ByteArray} {x3 : EL} {x4 : EL} {x5 : Int} (h : p59 False fu K0 x0 x1 x2 x3 x4 x5) : Den Try.prog G0 59 [.agg [.c (.v (.int .i64 x0)), .c (.v (.int .i64 x1)), .c (.v (.string x2)), .c (.sl 3 x3 none), .c (.sl 5 x4 none)], .c (.v (.int .i64 x5))] (fun r bs => (∃ (y0 : Int) (y1 : Bool) (o0 : OV) (o1 : OV), (r = .tup [.c (.v (.int .i64 y0)), .c (.v (.bool y1))] ∧ bs = [o0, o1]) ∧ K0 y0 y1)) := dd_p59 fu L hL h
end Go.Proofs.Ythncmjlcmlmnmaa

namespace Go.Proofs.Ythncmjlcmlmnmaa
open Go V
set_option maxRecDepth 100000
set_option maxHeartbeats 4000000
def p60_1 {ρ : Type} (fail : ρ) (fu : Nat) (s_p60 : (Int → ρ) → Int → Int → ByteArray → EL → EL → Int → ρ) (K0 : Int → ρ) (rec1 : Int → Int → Int → ρ) (x4 : EL) (z1 : Int) (z2 : Int) (z3 : Int) : ρ :=
  bif (cmpStd .lss z3 ((x4.length : Nat) : Int)) then (gd ((0 : Int) ≤ z3) fail (gd ((z3 : Int) < (x4.length : Nat)) fail (rw_i64_i64_s_l3_l5 fail (List.getD x4 ((z3 : Int).toNat) []) (fun c4 c5 c6 c7 c8 => s_p60 (fun y9 => rec1 z1 (if y9 > z2 then y9 else z2) (binStd .add .i64 z3 1)) c4 c5 c6 c7 c8 (binStd .sub .i64 z1 1))))) else (K0 (binStd .add .i64 z2 1))
def p60_1L {ρ : Type} (fail : ρ) (fu : Nat) (s_p60 : (Int → ρ) → Int → Int → ByteArray → EL → EL → Int → ρ) (K0 : Int → ρ)  (x4 : EL) : Nat → Int → Int → Int → ρ
  | 0, _, _, _ => fail
  | n + 1, z1, z2, z3 => p60_1 fail fu s_p60 K0 (p60_1L fail fu s_p60 K0  x4 n) x4 z1 z2 z3
/-- ref5.Depth -/
def p60_b {ρ : Type} (fail : ρ) (fu : Nat) (s_p60 : (Int → ρ) → Int → Int → ByteArray → EL → EL → Int → ρ) (K0 : Int → ρ) (x0 : Int) (x1 : Int) (x2 : ByteArray) (x3 : EL) (x4 : EL) (x5 : Int) : ρ :=
  bif (cmpStd .eql (if 0 > x5 then 0 else x5) 0) then (K0 1) else (p60_1L fail fu s_p60 K0 x4 fu (if 0 > x5 then 0 else x5) 0 0)
def p60 {ρ : Type} (fail : ρ) : Nat → (Int → ρ) → Int → Int → ByteArray → EL → EL → Int → ρ
  | 0, _, _, _, _, _, _, _ => fail
  | n + 1, K0, x0, x1, x2, x3, x4, x5 => p60_b fail n (p60 fail n) K0 x0 x1 x2 x3 x4 x5
def D_p60 (fu : Nat) : Prop := ∀ {K0 : Int → Prop} (L : EL → Nat) (_ : L = List.length) {x0 : Int} {x1 : Int} {x2 : ByteArray} {x3 : EL} {x4 : EL} {x5 : Int} (_ : p60 False fu K0 x0 x1 x2 x3 x4 x5), Den Try.prog G0 60 [.agg [.c (.v (.int .i64 x0)), .c (.v (.int .i64 x1)), .c (.v (.string x2)), .c (.sl 3 x3 none), .c (.sl 5 x4 none)], .c (.v (.int .i64 x5))] (fun r bs => (∃ (y0 : Int) (o0 : OV) (o1 : OV), (r = .c (.v (.int .i64 y0)) ∧ bs = [o0, o1]) ∧ K0 y0))
theorem b_p60 (fu : Nat) (ih_p60 : D_p60 fu) {K0 : Int → Prop} (L : EL → Nat) (hN : L = List.length) {x0 : Int} {x1 : Int} {x2 : ByteArray} {x3 : EL} {x4 : EL} {x5 : Int} (h : p60_b False fu (p60 False fu) K0 x0 x1 x2 x3 x4 x5) : Den Try.prog G0 60 [.agg [.c (.v (.int .i64 x0)), .c (.v (.int .i64 x1)), .c (.v (.string x2)), .c (.sl 3 x3 none), .c (.sl 5 x4 none)], .c (.v (.int .i64 x5))] (fun r bs => (∃ (y0 : Int) (o0 : OV) (o1 : OV), (r = .c (.v (.int .i64 y0)) ∧ bs = [o0, o1]) ∧ K0 y0)) := by
  obtain ⟨O, hO⟩ : ∃ O, O = std 0 T G0 (Den Try.prog G0) := ⟨_, rfl⟩
  have hLO : L = O.len := by rw [hN, hO]; rfl
  subst hLO
  refine den_h hO tiA mixed tabOk (fn := Try.f60) (sh := true) (by kernel_rfl) rfl rfl rfl rfl ?_
  intro Q hQ
  unfold p60_b at h
  conv => cbv
  refine br_h hO h (by subst hO; rfl) (fun hc1 h => ?_) (fun hc1 h => ?_)
  · conv => cbv
    rw [hQ]
    exact ⟨1, _, _, ⟨(by subst hO; rfl), (by subst hO; rfl)⟩, h⟩
  · conv => cbv
    refine join_all hO ?_
    conv => cbv
    refine loop_of hO tiA [1, 2, 5, 6] [3000] [] (fun (n : Nat) tm m => ∃ (z1 : Int) (z2 : Int) (z3 : Int), ((tm = frame 0 30 [(1, .c (.v (.int .i64 z1))), (2, .p 3000 0 0), (5, .c (.v (.int .i64 z2))), (6, .c (.v (.int .i64 z3)))] ∧ m = ⟨[(3000, .blk 0 [.c (.v (.int .i64 x0)), .c (.v (.int .i64 x1)), .c (.v (.string x2)), .c (.sl 3 x3 none), .c (.sl 5 x4 none)])], 1⟩)) ∧ p60_1L False fu (p60 False fu) K0 x4 n z1 z2 z3) (fun n => n) fu ⟨(if 0 > x5 then 0 else x5), 0, 0, ⟨(by (conv => lhs; cbv) <;> (subst hO; rfl)), (by (conv => lhs; cbv) <;> (subst hO; rfl))⟩, h⟩ ?_
    rintro n1 tm m L ⟨z1, z2, z3, hs, h⟩ hLn1
    cases n1 with
    | zero => rw [p60_1L] at h; exact h.elim
    | succ n1 =>
      rw [p60_1L] at h
      unfold p60_1 at h
      obtain ⟨rfl, rfl⟩ := hs
      conv => cbv
      refine br_h hO h (by subst hO; rfl) (fun hc2 h => ?_) (fun hc2 h => ?_)
      · conv => cbv
        refine join_all hO ?_
        conv => cbv
        refine and_h h (fun g => (by subst hO; exact g)) (fun h => ?_)
        refine and_h h (fun g => (by subst hO; exact g)) (fun h => ?_)
        obtain ⟨c4, c5, c6, c7, c8, hr, h⟩ := rw_i64_i64_s_l3_l5_inv h
        refine elem_of hO _ (by subst hO; exact hr) ?_
        clear hr
        conv => cbv
        refine call_h hO [.shut, .shut] (ih_p60 O.len hN h) ?_
        intro os Q hos hQ
        conv => cbv
        refine ⟨(by (rw [hos]) <;> (subst hO; rfl)), ?_⟩
        intro r bs hq
        rw [hQ] at hq
        clear hos hQ h
        obtain ⟨y9, _, _, ⟨rfl, rfl⟩, h⟩ := hq
        conv => cbv
        exact hLn1 n1 _ _ (Nat.lt_succ_self n1) ⟨z1, (if y9 > z2 then y9 else z2), binStd .add .i64 z3 1, ⟨(by (conv => lhs; cbv) <;> (subst hO; rfl)), (by (conv => lhs; cbv) <;> (subst hO; rfl))⟩, h⟩
      · conv => cbv
        rw [hQ]
        exact ⟨binStd .add .i64 z2 1, _, _, ⟨(by subst hO; rfl), (by subst hO; rfl)⟩, h⟩
theorem dd_p60 (fu : Nat) : D_p60 fu := by
  induction fu with
  | zero => unfold D_p60; intros; rename_i h; rw [p60] at h; exact h.elim
  | succ n ih =>
    exact (by unfold D_p60; intro K0 L hN x0 x1 x2 x3 x4 x5 h; exact b_p60 n ih L hN (by rw [p60] at h; exact h))
theorem d_p60 (fu : Nat) {K0 : Int → Prop} (L : EL → Nat) (hL : L = List.length) {x0 : Int} {x1 : Int} {x2 : ByteArray} {x3 : EL} {x4 : EL} {x5 : Int} (h : p60 False fu K0 x0 x1 x2 x3 x4 x5) : Den Try.prog G0 60 [.agg [.c (.v (.int .i64 x0)), .c (.v (.int .i64 x1)), .c (.v (.string x2)), .c (.sl 3 x3 none), .c (.sl 5 x4 none)], .c (.v (.int .i64 x5))] (fun r bs => (∃ (y0 : Int) (o0 : OV) (o1 : OV), (r = .c (.v (.int .i64 y0)) ∧ bs = [o0, o1]) ∧ K0 y0)) := dd_p60 fu L hL h
end Go.Proofs.Ythncmjlcmlmnmaa

namespace Go.Proofs.Ythncmjlcmlmnmaa
open Go V
set_option maxRecDepth 100000
set_option maxHeartbeats 4000000
def p111_1 {ρ : Type} (fail : ρ) (fu : Nat) (s_p111 : (Int → ρ) → Int → Int → EL → Int → ρ) (K0 : Int → ρ) (rec1 : Int → Int → ρ) (x2 : EL) (x3 : Int) (z1 : Int) (z2 : Int) (j3 : Bool) : ρ :=
  bif j3 then (gd ((0 : Int) ≤ z2) fail (gd ((z2 : Int) < (x2.length : Nat)) fail (rw_i64_i64_l3 fail (List.getD x2 ((z2 : Int).toNat) []) (fun c4 c5 c6 => s_p111 (fun y7 => rec1 (binStd .add .i64 z1 y7) (binStd .add .i64 z2 1)) c4 c5 c6 (binStd .sub .i64 x3 z1))))) else (K0 (if binStd .add .i64 x3 1 < z1 then binStd .add .i64 x3 1 else z1))
def p111_2 {ρ : Type} (fail : ρ) (fu : Nat) (s_p111 : (Int → ρ) → Int → Int → EL → Int → ρ) (K0 : Int → ρ) (rec1 : Int → Int → ρ) (x2 : EL) (x3 : Int) (z1 : Int) (z2 : Int) : ρ :=
  bif (cmpStd .lss z2 ((x2.length : Nat) : Int)) then (p111_1 fail fu s_p111 K0 rec1 x2 x3 z1 z2 (cmpStd .leq z1 x3)) else (p111_1 fail fu s_p111 K0 rec1 x2 x3 z1 z2 false)
def p111_2L {ρ : Type} (fail : ρ) (fu : Nat) (s_p111 : (Int → ρ) → Int → Int → EL → Int → ρ) (K0 : Int → ρ)  (x2 : EL) (x3 : Int) : Nat → Int → Int → ρ
  | 0, _, _ => fail
  | n + 1, z1, z2 => p111_2 fail fu s_p111 K0 (p111_2L fail fu s_p111 K0  x2 x3 n) x2 x3 z1 z2
/-- ref4.Parts -/
def p111_b {ρ : Type} (fail : ρ) (fu : Nat) (s_p111 : (Int → ρ) → Int → Int → EL → Int → ρ) (K0 : Int → ρ) (x0 : Int) (x1 : Int) (x2 : EL) (x3 : Int) : ρ :=
  p111_2L fail fu s_p111 K0 x2 x3 fu 1 0
def p111 {ρ : Type} (fail : ρ) : Nat → (Int → ρ) → Int → Int → EL → Int → ρ
  | 0, _, _, _, _, _ => fail
  | n + 1, K0, x0, x1, x2, x3 => p111_b fail n (p111 fail n) K0 x0 x1 x2 x3
def D_p111 (fu : Nat) : Prop := ∀ {K0 : Int → Prop} (L : EL → Nat) (_ : L = List.length) {x0 : Int} {x1 : Int} {x2 : EL} {x3 : Int} (_ : p111 False fu K0 x0 x1 x2 x3), Den Try.prog G0 111 [.agg [.c (.v (.int .i64 x0)), .c (.v (.int .i64 x1)), .c (.sl 3 x2 none)], .c (.v (.int .i64 x3))] (fun r bs => (∃ (y0 : Int) (o0 : OV) (o1 : OV), (r = .c (.v (.int .i64 y0)) ∧ bs = [o0, o1]) ∧ K0 y0))
theorem b_p111 (fu : Nat) (ih_p111 : D_p111 fu) {K0 : Int → Prop} (L : EL → Nat) (hN : L = List.length) {x0 : Int} {x1 : Int} {x2 : EL} {x3 : Int} (h : p111_b False fu (p111 False fu) K0 x0 x1 x2 x3) : Den Try.prog G0 111 [.agg [.c (.v (.int .i64 x0)), .c (.v (.int .i64 x1)), .c (.sl 3 x2 none)], .c (.v (.int .i64 x3))] (fun r bs => (∃ (y0 : Int) (o0 : OV) (o1 : OV), (r = .c (.v (.int .i64 y0)) ∧ bs = [o0, o1]) ∧ K0 y0)) := by
  obtain ⟨O, hO⟩ : ∃ O, O = std 0 T G0 (Den Try.prog G0) := ⟨_, rfl⟩
  have hLO : L = O.len := by rw [hN, hO]; rfl
  subst hLO
  refine den_h hO tiA mixed tabOk (fn := Try.f111) (sh := true) (by kernel_rfl) rfl rfl rfl rfl ?_
  intro Q hQ
  unfold p111_b at h
  conv => cbv
  refine loop_of hO tiA [1, 2, 5, 6] [3000] [] (fun (n : Nat) tm m => ∃ (z1 : Int) (z2 : Int), ((tm = frame 0 34 [(1, .c (.v (.int .i64 x3))), (2, .p 3000 0 0), (5, .c (.v (.int .i64 z1))), (6, .c (.v (.int .i64 z2)))] ∧ m = ⟨[(3000, .blk 0 [.c (.v (.int .i64 x0)), .c (.v (.int .i64 x1)), .c (.sl 3 x2 none)])], 1⟩)) ∧ p111_2L False fu (p111 False fu) K0 x2 x3 n z1 z2) (fun n => n) fu ⟨1, 0, ⟨(by (conv => lhs; cbv) <;> (subst hO; rfl)), (by (conv => lhs; cbv) <;> (subst hO; rfl))⟩, h⟩ ?_
  rintro n1 tm m L ⟨z1, z2, hs, h⟩ hLn1
  cases n1 with
  | zero => rw [p111_2L] at h; exact h.elim
  | succ n1 =>
    rw [p111_2L] at h
    unfold p111_2 at h
    obtain ⟨rfl, rfl⟩ := hs
    conv => cbv
    refine reg_join hO tiA [1, 2, 5, 6, 16] [3000] [] (fun tm m => ∃ (j3 : Bool), ((tm = frame 0 34 [(1, .c (.v (.int .i64 x3))), (2, .p 3000 0 0), (5, .c (.v (.int .i64 z1))), (6, .c (.v (.int .i64 z2))), (16, .c (.v (.bool j3)))] ∧ m = ⟨[(3000, .blk 0 [.c (.v (.int .i64 x0)), .c (.v (.int .i64 x1)), .c (.sl 3 x2 none)])], 1⟩)) ∧ p111_1 False fu (p111 False fu) K0 (p111_2L False fu (p111 False fu) K0  x2 x3 n1) x2 x3 z1 z2 j3) (fun L hL_1 => ?_) ?_
    · conv => cbv
      refine br_h hO h (by subst hO; rfl) (fun hc2 h => ?_) (fun hc2 h => ?_)
      · conv => cbv
        refine br_t hO hc2 ?_
        conv => cbv
        refine br_t hO hc2 ?_
        conv => cbv
        refine br_t hO hc2 ?_
        conv => cbv
        exact hL_1 _ _ ⟨(cmpStd .leq z1 x3), ⟨(by (conv => lhs; cbv) <;> (subst hO; rfl)), (by (conv => lhs; cbv) <;> (subst hO; rfl))⟩, h⟩
      · conv => cbv
        refine br_f hO hc2 ?_
        conv => cbv
        refine br_f hO hc2 ?_
        conv => cbv
        refine br_f hO hc2 ?_
        conv => cbv
        exact hL_1 _ _ ⟨false, ⟨(by (conv => lhs; cbv) <;> (subst hO; rfl)), (by (conv => lhs; cbv) <;> (subst hO; rfl))⟩, h⟩
    · rintro tm m ⟨j3, hs, h⟩
      unfold p111_1 at h
      obtain ⟨rfl, rfl⟩ := hs
      conv => cbv
      refine br_h hO h (by subst hO; rfl) (fun hc1 h => ?_) (fun hc1 h => ?_)
      · conv => cbv
        refine join_all hO ?_
        conv => cbv
        refine and_h h (fun g => (by subst hO; exact g)) (fun h => ?_)
        refine and_h h (fun g => (by subst hO; exact g)) (fun h => ?_)
        obtain ⟨c4, c5, c6, hr, h⟩ := rw_i64_i64_l3_inv h
        refine elem_of hO _ (by subst hO; exact hr) ?_
        clear hr
        conv => cbv
        refine call_h hO [.shut, .shut] (ih_p111 O.len hN h) ?_
        intro os Q hos hQ
        conv => cbv
        refine ⟨(by (rw [hos]) <;> (subst hO; rfl)), ?_⟩
        intro r bs hq
        rw [hQ] at hq
        clear hos hQ h
        obtain ⟨y7, _, _, ⟨rfl, rfl⟩, h⟩ := hq
        conv => cbv
        exact hLn1 n1 _ _ (Nat.lt_succ_self n1) ⟨binStd .add .i64 z1 y7, binStd .add .i64 z2 1, ⟨(by (conv => lhs; cbv) <;> (subst hO; rfl)), (by (conv => lhs; cbv) <;> (subst hO; rfl))⟩, h⟩
      · conv => cbv
        rw [hQ]
        exact ⟨(if binStd .add .i64 x3 1 < z1 then binStd .add .i64 x3 1 else z1), _, _, ⟨(by subst hO; rfl), (by subst hO; rfl)⟩, h⟩
theorem dd_p111 (fu : Nat) : D_p111 fu := by
  induction fu with
  | zero => unfold D_p111; intros; rename_i h; rw [p111] at h; exact h.elim
  | succ n ih =>
    exact (by unfold D_p111; intro K0 L hN x0 x1 x2 x3 h; exact b_p111 n ih L hN (by rw [p111] at h; exact h))
theorem d_p111 (fu : Nat) {K0 : Int → Prop} (L : EL → Nat) (hL : L = List.length) {x0 : Int} {x1 : Int} {x2 : EL} {x3 : Int} (h : p111 False fu K0 x0 x1 x2 x3) : Den Try.prog G0 111 [.agg [.c (.v (.int .i64 x0)), .c (.v (.int .i64 x1)), .c (.sl 3 x2 none)], .c (.v (.int .i64 x3))] (fun r bs => (∃ (y0 : Int) (o0 : OV) (o1 : OV), (r = .c (.v (.int .i64 y0)) ∧ bs = [o0, o1]) ∧ K0 y0)) := dd_p111 fu L hL h
end Go.Proofs.Ythncmjlcmlmnmaa

namespace Go.Proofs.Ythncmjlcmlmnmaa
open Go V
set_option maxRecDepth 100000
set_option maxHeartbeats 4000000
def p138_1 {ρ : Type} (fail : ρ) (fu : Nat)  (K0 : Int → ρ)   (j2 : Bool) : ρ :=
  bif j2 then (K0 2) else (K0 (-1))
def p138_2 {ρ : Type} (fail : ρ) (fu : Nat)  (K0 : Int → ρ)  (x0 : Int) (j1 : Bool) : ρ :=
  bif j1 then (K0 0) else (bif (cmpStd .eql x0 1) then (K0 1) else (bif (cmpStd .eql x0 2) then (p138_1 fail fu  K0  (cmpStd .eql x0 2)) else (p138_1 fail fu  K0  (cmpStd .eql x0 3))))
/-- ref4.args -/
def p138 {ρ : Type} (fail : ρ) (fu : Nat)  (K0 : Int → ρ) (x0 : Int) : ρ :=
  bif (cmpStd .eql x0 0) then (p138_2 fail fu  K0 x0 (cmpStd .eql x0 0)) else (p138_2 fail fu  K0 x0 (cmpStd .eql x0 4))
theorem d_p138 (fu : Nat)  {K0 : Int → Prop} (L : EL → Nat) (hN : L = List.length) {x0 : Int} (h : p138 False fu K0 x0) : Den Try.prog G0 138 [.c (.v (.int .i64 x0))] (fun r bs => (∃ (y0 : Int) (o0 : OV), (r = .c (.v (.int .i64 y0)) ∧ bs = [o0]) ∧ K0 y0)) := by
  obtain ⟨O, hO⟩ : ∃ O, O = std 0 T G0 (Den Try.prog G0) := ⟨_, rfl⟩
  have hLO : L = O.len := by rw [hN, hO]; rfl
  subst hLO
  refine den_h hO tiA mixed tabOk (fn := Try.f138) (sh := true) (by kernel_rfl) rfl rfl rfl rfl ?_
  intro Q hQ
  unfold p138 at h
  conv => cbv
  refine br_join_h hO tiA h (by subst hO; rfl) [3, 4] [] [] (fun tm m => ∃ (j1 : Bool), ((tm = frame 0 12 [(3, .c (.v (.int .i64 x0))), (4, .c (.v (.bool j1)))] ∧ m = ⟨[], 1⟩)) ∧ p138_2 False fu  K0 x0 j1) (fun hc5 h L hL_2 => ?_) (fun hc5 h L hL_2 => ?_) ?_
  · conv => cbv
    exact hL_2 _ _ ⟨(cmpStd .eql x0 0), ⟨(by (conv => lhs; cbv) <;> (subst hO; rfl)), (by (conv => lhs; cbv) <;> (subst hO; rfl))⟩, h⟩
  · conv => cbv
    exact hL_2 _ _ ⟨(cmpStd .eql x0 4), ⟨(by (conv => lhs; cbv) <;> (subst hO; rfl)), (by (conv => lhs; cbv) <;> (subst hO; rfl))⟩, h⟩
  · rintro tm m ⟨j1, hs, h⟩
    unfold p138_2 at h
    obtain ⟨rfl, rfl⟩ := hs
    conv => cbv
    refine br_h hO h (by subst hO; rfl) (fun hc1 h => ?_) (fun hc1 h => ?_)
    · conv => cbv
      rw [hQ]
      exact ⟨0, _, ⟨(by subst hO; rfl), (by subst hO; rfl)⟩, h⟩
    · conv => cbv
      refine br_h hO h (by subst hO; rfl) (fun hc2 h => ?_) (fun hc2 h => ?_)
      · conv => cbv
        rw [hQ]
        exact ⟨1, _, ⟨(by subst hO; rfl), (by subst hO; rfl)⟩, h⟩
      · conv => cbv
        refine br_join_h hO tiA h (by subst hO; rfl) [9] [] [] (fun tm m => ∃ (j2 : Bool), ((tm = frame 0 12 [(9, .c (.v (.bool j2)))] ∧ m = ⟨[], 1⟩)) ∧ p138_1 False fu  K0  j2) (fun hc4 h L hL_1 => ?_) (fun hc4 h L hL_1 => ?_) ?_
        · conv => cbv
          exact hL_1 _ _ ⟨(cmpStd .eql x0 2), ⟨(by (conv => lhs; cbv) <;> (subst hO; rfl)), (by (conv => lhs; cbv) <;> (subst hO; rfl))⟩, h⟩
        · conv => cbv
          exact hL_1 _ _ ⟨(cmpStd .eql x0 3), ⟨(by (conv => lhs; cbv) <;> (subst hO; rfl)), (by (conv => lhs; cbv) <;> (subst hO; rfl))⟩, h⟩
        · rintro tm m ⟨j2, hs, h⟩
          unfold p138_1 at h
          obtain ⟨rfl, rfl⟩ := hs
          conv => cbv
          refine br_h hO h (by subst hO; rfl) (fun hc3 h => ?_) (fun hc3 h => ?_)
          · conv => cbv
            rw [hQ]
            exact ⟨2, _, ⟨(by subst hO; rfl), (by subst hO; rfl)⟩, h⟩
          · conv => cbv
            refine join_all hO ?_
            conv => cbv
            refine join_all hO ?_
            conv => cbv
            refine join_all hO ?_
            conv => cbv
            rw [hQ]
            exact ⟨(-1), _, ⟨(by subst hO; rfl), (by subst hO; rfl)⟩, h⟩
end Go.Proofs.Ythncmjlcmlmnmaa

namespace Go.Proofs.Ythncmjlcmlmnmaa
open Go V
set_option maxRecDepth 100000
set_option maxHeartbeats 4000000
def p112_1 {ρ : Type} (fail : ρ) (fu : Nat) (s_p112 : (Bool → ρ) → Int → Int → EL → Int → Int → ρ) (K0 : Bool → ρ) (rec1 : Int → ρ) (x2 : EL) (x3 : Int) (x4 : Int) (z3 : Int) : ρ :=
  bif (cmpStd .lss z3 ((x2.length : Nat) : Int)) then (gd ((0 : Int) ≤ z3) fail (gd ((z3 : Int) < (x2.length : Nat)) fail (rw_i64_i64_l3 fail (List.getD x2 ((z3 : Int).toNat) []) (fun c4 c5 c6 => s_p112 (fun y7 => bif (!y7) then (K0 false) else (rec1 (binStd .add .i64 z3 1))) c4 c5 c6 x3 (binStd .add .i64 x4 1))))) else (K0 true)
def p112_1L {ρ : Type} (fail : ρ) (fu : Nat) (s_p112 : (Bool → ρ) → Int → Int → EL → Int → Int → ρ) (K0 : Bool → ρ)  (x2 : EL) (x3 : Int) (x4 : Int) : Nat → Int → ρ
  | 0, _ => fail
  | n + 1, z3 => p112_1 fail fu s_p112 K0 (p112_1L fail fu s_p112 K0  x2 x3 x4 n) x2 x3 x4 z3
def p112_2 {ρ : Type} (fail : ρ) (fu : Nat) (s_p112 : (Bool → ρ) → Int → Int → EL → Int → Int → ρ) (K0 : Bool → ρ)  (x2 : EL) (x3 : Int) (x4 : Int) (j2 : Bool) : ρ :=
  bif j2 then (K0 false) else (p112_1L fail fu s_p112 K0 x2 x3 x4 fu 0)
def p112_3 {ρ : Type} (fail : ρ) (fu : Nat) (s_p112 : (Bool → ρ) → Int → Int → EL → Int → Int → ρ) (K0 : Bool → ρ)  (x0 : Int) (x1 : Int) (x2 : EL) (x3 : Int) (x4 : Int) (j1 : Bool) : ρ :=
  bif j1 then (K0 false) else (bif (cmpStd .eql x0 4) then (bif (cmpStd .lss x1 0) then (p112_2 fail fu s_p112 K0 x2 x3 x4 true) else (bif (cmpStd .geq x1 x3) then (p112_2 fail fu s_p112 K0 x2 x3 x4 true) else (p112_2 fail fu s_p112 K0 x2 x3 x4 false))) else (p112_2 fail fu s_p112 K0 x2 x3 x4 (cmpStd .neq x1 0)))
/-- ref4.whole -/
def p112_b {ρ : Type} (fail : ρ) (fu : Nat) (s_p112 : (Bool → ρ) → Int → Int → EL → Int → Int → ρ) (K0 : Bool → ρ) (x0 : Int) (x1 : Int) (x2 : EL) (x3 : Int) (x4 : Int) : ρ :=
  bif (cmpStd .gtr x4 32) then (p112_3 fail fu s_p112 K0 x0 x1 x2 x3 x4 true) else (p138 fail fu (fun y8 => p112_3 fail fu s_p112 K0 x0 x1 x2 x3 x4 (cmpStd .neq y8 ((x2.length : Nat) : Int))) x0)
def p112 {ρ : Type} (fail : ρ) : Nat → (Bool → ρ) → Int → Int → EL → Int → Int → ρ
  | 0, _, _, _, _, _, _ => fail
  | n + 1, K0, x0, x1, x2, x3, x4 => p112_b fail n (p112 fail n) K0 x0 x1 x2 x3 x4
def D_p112 (fu : Nat) : Prop := ∀ {K0 : Bool → Prop} (L : EL → Nat) (_ : L = List.length) {x0 : Int} {x1 : Int} {x2 : EL} {x3 : Int} {x4 : Int} (_ : p112 False fu K0 x0 x1 x2 x3 x4), Den Try.prog G0 112 [.agg [.c (.v (.int .i64 x0)), .c (.v (.int .i64 x1)), .c (.sl 3 x2 none)], .c (.v (.int .i64 x3)), .c (.v (.int .i64 x4))] (fun r bs => (∃ (y0 : Bool) (o0 : OV) (o1 : OV) (o2 : OV), (r = .c (.v (.bool y0)) ∧ bs = [o0, o1, o2]) ∧ K0 y0))
theorem b_p112 (fu : Nat) (ih_p112 : D_p112 fu) {K0 : Bool → Prop} (L : EL → Nat) (hN : L = List.length) {x0 : Int} {x1 : Int} {x2 : EL} {x3 : Int} {x4 : Int} (h : p112_b False fu (p112 False fu) K0 x0 x1 x2 x3 x4) : Den Try.prog G0 112 [.agg [.c (.v (.int .i64 x0)), .c (.v (.int .i64 x1)), .c (.sl 3 x2 none)], .c (.v (.int .i64 x3)), .c (.v (.int .i64 x4))] (fun r bs => (∃ (y0 : Bool) (o0 : OV) (o1 : OV) (o2 : OV), (r = .c (.v (.bool y0)) ∧ bs = [o0, o1, o2]) ∧ K0 y0)) := by
  obtain ⟨O, hO⟩ : ∃ O, O = std 0 T G0 (Den Try.prog G0) := ⟨_, rfl⟩
  have hLO : L = O.len := by rw [hN, hO]; rfl
  subst hLO
  refine den_h hO tiA mixed tabOk (fn := Try.f112) (sh := true) (by kernel_rfl) rfl rfl rfl rfl ?_
  intro Q hQ
  unfold p112_b at h
  conv => cbv
  refine drawn_join hO tiA [[], []] [(0, true, false), (1, true, false), (2, true, false), (3, true, false), (4, true, false), (6, true, false), (7, true, false), (8, true, false), (5, false, false), (9, true, true), (10, true, true)] (by kernel_rfl) [1, 2, 3, 18] [4000] [] (fun tm m => ∃ (j1 : Bool), ((tm = frame 0 60 [(1, .c (.v (.int .i64 x3))), (2, .c (.v (.int .i64 x4))), (3, .p 4000 0 0), (18, .c (.v (.bool j1)))] ∧ m = ⟨[(4000, .blk 0 [.c (.v (.int .i64 x0)), .c (.v (.int .i64 x1)), .c (.sl 3 x2 none)])], 1⟩)) ∧ p112_3 False fu (p112 False fu) K0 x0 x1 x2 x3 x4 j1) (fun L hL_3 => ?_) ?_
  · conv => cbv
    refine br_h hO h (by subst hO; rfl) (fun hc8 h => ?_) (fun hc8 h => ?_)
    · conv => cbv
      refine br_t hO hc8 ?_
      conv => cbv
      refine br_t hO hc8 ?_
      conv => cbv
      refine br_t hO hc8 ?_
      conv => cbv
      refine br_t hO hc8 ?_
      conv => cbv
      refine br_t hO hc8 ?_
      conv => cbv
      refine br_t hO hc8 ?_
      conv => cbv
      refine br_t hO hc8 ?_
      conv => cbv
      exact hL_3 _ _ ⟨true, ⟨(by (conv => lhs; cbv) <;> (subst hO; rfl)), (by (conv => lhs; cbv) <;> (subst hO; rfl))⟩, h⟩
    · conv => cbv
      refine br_f hO hc8 ?_
      conv => cbv
      refine br_f hO hc8 ?_
      conv => cbv
      refine br_f hO hc8 ?_
      conv => cbv
      refine br_f hO hc8 ?_
      conv => cbv
      refine br_f hO hc8 ?_
      conv => cbv
      refine call_h hO [.shut] (d_p138 fu O.len hN h) ?_
      intro os Q hos hQ
      conv => cbv
      refine ⟨(by (rw [hos]) <;> (subst hO; rfl)), ?_⟩
      intro r bs hq
      rw [hQ] at hq
      clear hos hQ h
      obtain ⟨y8, _, ⟨rfl, rfl⟩, h⟩ := hq
      conv => cbv
      refine ⟨agree_of hO (Nat.le_of_ble_eq_true rfl) rfl, ?_⟩
      refine br_f hO hc8 ?_
      conv => cbv
      refine br_f hO hc8 ?_
      conv => cbv
      exact hL_3 _ _ ⟨(cmpStd .neq y8 ((x2.length : Nat) : Int)), ⟨(by (conv => lhs; cbv) <;> (subst hO; rfl)), (by (conv => lhs; cbv) <;> (subst hO; rfl))⟩, h⟩
  · rintro tm m ⟨j1, hs, h⟩
    unfold p112_3 at h
    obtain ⟨rfl, rfl⟩ := hs
    conv => cbv
    refine br_h hO h (by subst hO; rfl) (fun hc1 h => ?_) (fun hc1 h => ?_)
    · conv => cbv
      rw [hQ]
      exact ⟨false, _, _, _, ⟨(by subst hO; rfl), (by subst hO; rfl)⟩, h⟩
    · conv => cbv
      refine join_all hO ?_
      conv => cbv
      refine reg_join hO tiA [1, 2, 3, 42] [4000] [] (fun tm m => ∃ (j2 : Bool), ((tm = frame 0 60 [(1, .c (.v (.int .i64 x3))), (2, .c (.v (.int .i64 x4))), (3, .p 4000 0 0), (42, .c (.v (.bool j2)))] ∧ m = ⟨[(4000, .blk 0 [.c (.v (.int .i64 x0)), .c (.v (.int .i64 x1)), .c (.sl 3 x2 none)])], 1⟩)) ∧ p112_2 False fu (p112 False fu) K0 x2 x3 x4 j2) (fun L hL_2 => ?_) ?_
      · conv => cbv
        refine br_h hO h (by subst hO; rfl) (fun hc5 h => ?_) (fun hc5 h => ?_)
        · conv => cbv
          refine br_t hO hc5 ?_
          conv => cbv
          refine br_t hO hc5 ?_
          conv => cbv
          refine br_t hO hc5 ?_
          conv => cbv
          refine br_h hO h (by subst hO; rfl) (fun hc6 h => ?_) (fun hc6 h => ?_)
          · conv => cbv
            refine br_t hO hc6 ?_
            conv => cbv
            refine br_t hO hc6 ?_
            conv => cbv
            refine br_t hO hc6 ?_
            conv => cbv
            refine br_t hO hc5 ?_
            conv => cbv
            refine br_t hO hc6 ?_
            conv => cbv
            refine br_t hO hc5 ?_
            conv => cbv
            refine br_t hO rfl ?_
            conv => cbv
            refine br_t hO rfl ?_
            conv => cbv
            refine br_t hO rfl ?_
            conv => cbv
            refine br_t hO rfl ?_
            conv => cbv
            refine br_t hO rfl ?_
            conv => cbv
            refine br_t hO rfl ?_
            conv => cbv
            exact hL_2 _ _ ⟨true, ⟨(by (conv => lhs; cbv) <;> (subst hO; rfl)), (by (conv => lhs; cbv) <;> (subst hO; rfl))⟩, h⟩
          · conv => cbv
            refine br_f hO hc6 ?_
            conv => cbv
            refine br_f hO hc6 ?_
            conv => cbv
            refine br_f hO hc6 ?_
            conv => cbv
            refine br_t hO hc5 ?_
            conv => cbv
            refine br_f hO hc6 ?_
            conv => cbv
            refine br_t hO hc5 ?_
            conv => cbv
            refine br_h hO h (by subst hO; rfl) (fun hc7 h => ?_) (fun hc7 h => ?_)
            · conv => cbv
              refine br_t hO hc7 ?_
              conv => cbv
              refine br_t hO hc7 ?_
              conv => cbv
              refine br_t hO hc7 ?_
              conv => cbv
              refine br_t hO hc7 ?_
              conv => cbv
              refine br_t hO hc7 ?_
              conv => cbv
              exact hL_2 _ _ ⟨true, ⟨(by (conv => lhs; cbv) <;> (subst hO; rfl)), (by (conv => lhs; cbv) <;> (subst hO; rfl))⟩, h⟩
            · conv => cbv
              refine br_f hO hc7 ?_
              conv => cbv
              refine br_f hO hc7 ?_
              conv => cbv
              refine br_f hO hc7 ?_
              conv => cbv
              refine br_f hO (opp_of hO .eql .neq rfl rfl rfl hc5) ?_
              conv => cbv
              refine br_f hO (opp_of hO .eql .neq rfl rfl rfl hc5) ?_
              conv => cbv
              refine br_f hO (opp_of hO .eql .neq rfl rfl rfl hc5) ?_
              conv => cbv
              refine br_f hO hc7 ?_
              conv => cbv
              refine br_f hO (opp_of hO .eql .neq rfl rfl rfl hc5) ?_
              conv => cbv
              refine br_f hO hc7 ?_
              conv => cbv
              exact hL_2 _ _ ⟨false, ⟨(by (conv => lhs; cbv) <;> (subst hO; rfl)), (by (conv => lhs; cbv) <;> (subst hO; rfl))⟩, h⟩
        · conv => cbv
          refine br_f hO hc5 ?_
          conv => cbv
          refine br_f hO hc5 ?_
          conv => cbv
          refine br_f hO hc5 ?_
          conv => cbv
          refine br_f hO hc5 ?_
          conv => cbv
          refine br_f hO hc5 ?_
          conv => cbv
          refine br_f hO rfl ?_
          conv => cbv
          refine br_f hO rfl ?_
          conv => cbv
          refine br_f hO rfl ?_
          conv => cbv
          refine br_f hO rfl ?_
          conv => cbv
          refine br_t hO (opp_of hO .eql .neq rfl rfl rfl hc5) ?_
          conv => cbv
          refine br_t hO (opp_of hO .eql .neq rfl rfl rfl hc5) ?_
          conv => cbv
          refine br_t hO (opp_of hO .eql .neq rfl rfl rfl hc5) ?_
          conv => cbv
          refine br_f hO rfl ?_
          conv => cbv
          refine br_t hO (opp_of hO .eql .neq rfl rfl rfl hc5) ?_
          conv => cbv
          refine br_f hO rfl ?_
          conv => cbv
          exact hL_2 _ _ ⟨(cmpStd .neq x1 0), ⟨(by (conv => lhs; cbv) <;> (subst hO; rfl)), (by (conv => lhs; cbv) <;> (subst hO; rfl))⟩, h⟩
      · rintro tm m ⟨j2, hs, h⟩
        unfold p112_2 at h
        obtain ⟨rfl, rfl⟩ := hs
        conv => cbv
        refine br_h hO h (by subst hO; rfl) (fun hc2 h => ?_) (fun hc2 h => ?_)
        · conv => cbv
          rw [hQ]
          exact ⟨false, _, _, _, ⟨(by subst hO; rfl), (by subst hO; rfl)⟩, h⟩
        · conv => cbv
          refine join_all hO ?_
          conv => cbv
          refine loop_of hO tiA [1, 2, 3, 7] [4000] [] (fun (n : Nat) tm m => ∃ (z3 : Int), ((tm = frame 0 60 [(1, .c (.v (.int .i64 x3))), (2, .c (.v (.int .i64 x4))), (3, .p 4000 0 0), (7, .c (.v (.int .i64 z3)))] ∧ m = ⟨[(4000, .blk 0 [.c (.v (.int .i64 x0)), .c (.v (.int .i64 x1)), .c (.sl 3 x2 none)])], 1⟩)) ∧ p112_1L False fu (p112 False fu) K0 x2 x3 x4 n z3) (fun n => n) fu ⟨0, ⟨(by (conv => lhs; cbv) <;> (subst hO; rfl)), (by (conv => lhs; cbv) <;> (subst hO; rfl))⟩, h⟩ ?_
          rintro n1 tm m L ⟨z3, hs, h⟩ hLn1
          cases n1 with
          | zero => rw [p112_1L] at h; exact h.elim
          | succ n1 =>
            rw [p112_1L] at h
            unfold p112_1 at h
            obtain ⟨rfl, rfl⟩ := hs
            conv => cbv
            refine br_h hO h (by subst hO; rfl) (fun hc3 h => ?_) (fun hc3 h => ?_)
            · conv => cbv
              refine join_all hO ?_
              conv => cbv
              refine and_h h (fun g => (by subst hO; exact g)) (fun h => ?_)
              refine and_h h (fun g => (by subst hO; exact g)) (fun h => ?_)
              obtain ⟨c4, c5, c6, hr, h⟩ := rw_i64_i64_l3_inv h
              refine elem_of hO _ (by subst hO; exact hr) ?_
              clear hr
              conv => cbv
              refine call_h hO [.shut, .shut, .shut] (ih_p112 O.len hN h) ?_
              intro os Q hos hQ
              conv => cbv
              refine ⟨(by (rw [hos]) <;> (subst hO; rfl)), ?_⟩
              intro r bs hq
              rw [hQ] at hq
              clear hos hQ h
              obtain ⟨y7, _, _, _, ⟨rfl, rfl⟩, h⟩ := hq
              conv => cbv
              refine br_h hO h (by subst hO; rfl) (fun hc4 h => ?_) (fun hc4 h => ?_)
              · conv => cbv
                rw [hQ]
                exact ⟨false, _, _, _, ⟨(by subst hO; rfl), (by subst hO; rfl)⟩, h⟩
              · conv => cbv
                refine join_all hO ?_
                conv => cbv
                exact hLn1 n1 _ _ (Nat.lt_succ_self n1) ⟨binStd .add .i64 z3 1, ⟨(by (conv => lhs; cbv) <;> (subst hO; rfl)), (by (conv => lhs; cbv) <;> (subst hO; rfl))⟩, h⟩
            · conv => cbv
              rw [hQ]
              exact ⟨true, _, _, _, ⟨(by subst hO; rfl), (by subst hO; rfl)⟩, h⟩
theorem dd_p112 (fu : Nat) : D_p112 fu := by
  induction fu with
  | zero => unfold D_p112; intros; rename_i h; rw [p112] at h; exact h.elim
  | succ n ih =>
    exact (by unfold D_p112; intro K0 L hN x0 x1 x2 x3 x4 h; exact b_p112 n ih L hN (by rw [p112] at h; exact h))
theorem d_p112 (fu : Nat) {K0 : Bool → Prop} (L : EL → Nat) (hL : L = List.length) {x0 : Int} {x1 : Int} {x2 : EL} {x3 : Int} {x4 : Int} (h : p112 False fu K0 x0 x1 x2 x3 x4) : Den Try.prog G0 112 [.agg [.c (.v (.int .i64 x0)), .c (.v (.int .i64 x1)), .c (.sl 3 x2 none)], .c (.v (.int .i64 x3)), .c (.v (.int .i64 x4))] (fun r bs => (∃ (y0 : Bool) (o0 : OV) (o1 : OV) (o2 : OV), (r = .c (.v (.bool y0)) ∧ bs = [o0, o1, o2]) ∧ K0 y0)) := dd_p112 fu L hL h
end Go.Proofs.Ythncmjlcmlmnmaa

namespace Go.Proofs.Ythncmjlcmlmnmaa
open Go V
set_option maxRecDepth 100000
set_option maxHeartbeats 4000000
def p69_1 {ρ : Type} (fail : ρ) (fu : Nat)  (K0 : Bool → ρ)   (j1 : Bool) : ρ :=
  K0 j1
/-- ref4.May -/
def p69 {ρ : Type} (fail : ρ) (fu : Nat)  (K0 : Bool → ρ) (x0 : Int) (x1 : Int) (x2 : EL) (x3 : Int) : ρ :=
  p111 fail fu (fun y2 => bif (cmpStd .leq y2 64) then (p112 fail fu (fun y3 => p69_1 fail fu  K0  y3) x0 x1 x2 (if 4 < (if 0 > x3 then 0 else x3) then 4 else (if 0 > x3 then 0 else x3)) 1) else (p69_1 fail fu  K0  false)) x0 x1 x2 64
theorem d_p69 (fu : Nat)  {K0 : Bool → Prop} (L : EL → Nat) (hN : L = List.length) {x0 : Int} {x1 : Int} {x2 : EL} {x3 : Int} (h : p69 False fu K0 x0 x1 x2 x3) : Den Try.prog G0 69 [.agg [.c (.v (.int .i64 x0)), .c (.v (.int .i64 x1)), .c (.sl 3 x2 none)], .c (.v (.int .i64 x3))] (fun r bs => (∃ (y0 : Bool) (o0 : OV) (o1 : OV), (r = .c (.v (.bool y0)) ∧ bs = [o0, o1]) ∧ K0 y0)) := by
  obtain ⟨O, hO⟩ : ∃ O, O = std 0 T G0 (Den Try.prog G0) := ⟨_, rfl⟩
  have hLO : L = O.len := by rw [hN, hO]; rfl
  subst hLO
  refine den_h hO tiA mixed tabOk (fn := Try.f69) (sh := true) (by kernel_rfl) rfl rfl rfl rfl ?_
  intro Q hQ
  unfold p69 at h
  conv => cbv
  refine reg_join hO tiA [4] [] [] (fun tm m => ∃ (j1 : Bool), ((tm = frame 0 15 [(4, .c (.v (.bool j1)))] ∧ m = ⟨[], 1⟩)) ∧ p69_1 False fu  K0  j1) (fun L hL_1 => ?_) ?_
  · conv => cbv
    refine call_h hO [.shut, .shut] (d_p111 fu O.len hN h) ?_
    intro os Q hos hQ
    conv => cbv
    refine ⟨(by (rw [hos]) <;> (subst hO; rfl)), ?_⟩
    intro r bs hq
    rw [hQ] at hq
    clear hos hQ h
    obtain ⟨y2, _, _, ⟨rfl, rfl⟩, h⟩ := hq
    conv => cbv
    refine br_h hO h (by subst hO; rfl) (fun hc1 h => ?_) (fun hc1 h => ?_)
    · conv => cbv
      refine br_t hO hc1 ?_
      conv => cbv
      refine br_t hO hc1 ?_
      conv => cbv
      refine br_t hO hc1 ?_
      conv => cbv
      refine br_t hO hc1 ?_
      conv => cbv
      refine call_h hO [.shut, .shut, .shut] (d_p112 fu O.len hN h) ?_
      intro os Q hos hQ
      conv => cbv
      refine ⟨(by (rw [hos]) <;> (subst hO; rfl)), ?_⟩
      intro r bs hq
      rw [hQ] at hq
      clear hos hQ h
      obtain ⟨y3, _, _, _, ⟨rfl, rfl⟩, h⟩ := hq
      conv => cbv
      refine br_t hO hc1 ?_
      conv => cbv
      exact hL_1 _ _ ⟨y3, ⟨(by (conv => lhs; cbv) <;> (subst hO; rfl)), (by (conv => lhs; cbv) <;> (subst hO; rfl))⟩, h⟩
    · conv => cbv
      refine br_f hO hc1 ?_
      conv => cbv
      refine br_f hO hc1 ?_
      conv => cbv
      refine br_f hO hc1 ?_
      conv => cbv
      refine br_f hO hc1 ?_
      conv => cbv
      refine br_f hO hc1 ?_
      conv => cbv
      exact hL_1 _ _ ⟨false, ⟨(by (conv => lhs; cbv) <;> (subst hO; rfl)), (by (conv => lhs; cbv) <;> (subst hO; rfl))⟩, h⟩
  · rintro tm m ⟨j1, hs, h⟩
    unfold p69_1 at h
    obtain ⟨rfl, rfl⟩ := hs
    conv => cbv
    rw [hQ]
    exact ⟨j1, _, _, ⟨(by subst hO; rfl), (by subst hO; rfl)⟩, h⟩
end Go.Proofs.Ythncmjlcmlmnmaa

namespace Go.Proofs.Ythncmjlcmlmnmaa
open Go V
set_option maxRecDepth 100000
set_option maxHeartbeats 4000000
def p61_1 {ρ : Type} (fail : ρ) (fu : Nat) (s_p61 : (Bool → ρ) → Int → Int → ByteArray → EL → EL → ρ) (K0 : Bool → ρ) (rec2 : Int → ρ) (x4 : EL) (z6 : Int) : ρ :=
  bif (cmpStd .lss z6 ((x4.length : Nat) : Int)) then (gd ((0 : Int) ≤ z6) fail (gd ((z6 : Int) < (x4.length : Nat)) fail (rw_i64_i64_s_l3_l5 fail (List.getD x4 ((z6 : Int).toNat) []) (fun c7 c8 c9 c10 c11 => s_p61 (fun y12 => bif (!y12) then (K0 false) else (rec2 (binStd .add .i64 z6 1))) c7 c8 c9 c10 c11)))) else (K0 true)
def p61_1L {ρ : Type} (fail : ρ) (fu : Nat) (s_p61 : (Bool → ρ) → Int → Int → ByteArray → EL → EL → ρ) (K0 : Bool → ρ)  (x4 : EL) : Nat → Int → ρ
  | 0, _ => fail
  | n + 1, z6 => p61_1 fail fu s_p61 K0 (p61_1L fail fu s_p61 K0  x4 n) x4 z6
def p61_2 {ρ : Type} (fail : ρ) (fu : Nat) (s_p61 : (Bool → ρ) → Int → Int → ByteArray → EL → EL → ρ) (K0 : Bool → ρ) (rec1 : Int → ρ) (x3 : EL) (x4 : EL) (z1 : Int) : ρ :=
  bif (cmpStd .lss z1 ((x3.length : Nat) : Int)) then (gd ((0 : Int) ≤ z1) fail (gd ((z1 : Int) < (x3.length : Nat)) fail (rw_i64_i64_l3 fail (List.getD x3 ((z1 : Int).toNat) []) (fun c2 c3 c4 => p69 fail fu (fun y5 => bif (!y5) then (K0 false) else (rec1 (binStd .add .i64 z1 1))) c2 c3 c4 4)))) else (p61_1L fail fu s_p61 K0 x4 fu 0)
def p61_2L {ρ : Type} (fail : ρ) (fu : Nat) (s_p61 : (Bool → ρ) → Int → Int → ByteArray → EL → EL → ρ) (K0 : Bool → ρ)  (x3 : EL) (x4 : EL) : Nat → Int → ρ
  | 0, _ => fail
  | n + 1, z1 => p61_2 fail fu s_p61 K0 (p61_2L fail fu s_p61 K0  x3 x4 n) x3 x4 z1
/-- ref6.MayLevels -/
def p61_b {ρ : Type} (fail : ρ) (fu : Nat) (s_p61 : (Bool → ρ) → Int → Int → ByteArray → EL → EL → ρ) (K0 : Bool → ρ) (x0 : Int) (x1 : Int) (x2 : ByteArray) (x3 : EL) (x4 : EL) : ρ :=
  bif (cmpStd .gtr ((x3.length : Nat) : Int) 4) then (K0 false) else (p61_2L fail fu s_p61 K0 x3 x4 fu 0)
def p61 {ρ : Type} (fail : ρ) : Nat → (Bool → ρ) → Int → Int → ByteArray → EL → EL → ρ
  | 0, _, _, _, _, _, _ => fail
  | n + 1, K0, x0, x1, x2, x3, x4 => p61_b fail n (p61 fail n) K0 x0 x1 x2 x3 x4
def D_p61 (fu : Nat) : Prop := ∀ {K0 : Bool → Prop} (L : EL → Nat) (_ : L = List.length) {x0 : Int} {x1 : Int} {x2 : ByteArray} {x3 : EL} {x4 : EL} (_ : p61 False fu K0 x0 x1 x2 x3 x4), Den Try.prog G0 61 [.agg [.c (.v (.int .i64 x0)), .c (.v (.int .i64 x1)), .c (.v (.string x2)), .c (.sl 3 x3 none), .c (.sl 5 x4 none)]] (fun r bs => (∃ (y0 : Bool) (o0 : OV), (r = .c (.v (.bool y0)) ∧ bs = [o0]) ∧ K0 y0))
theorem b_p61 (fu : Nat) (ih_p61 : D_p61 fu) {K0 : Bool → Prop} (L : EL → Nat) (hN : L = List.length) {x0 : Int} {x1 : Int} {x2 : ByteArray} {x3 : EL} {x4 : EL} (h : p61_b False fu (p61 False fu) K0 x0 x1 x2 x3 x4) : Den Try.prog G0 61 [.agg [.c (.v (.int .i64 x0)), .c (.v (.int .i64 x1)), .c (.v (.string x2)), .c (.sl 3 x3 none), .c (.sl 5 x4 none)]] (fun r bs => (∃ (y0 : Bool) (o0 : OV), (r = .c (.v (.bool y0)) ∧ bs = [o0]) ∧ K0 y0)) := by
  obtain ⟨O, hO⟩ : ∃ O, O = std 0 T G0 (Den Try.prog G0) := ⟨_, rfl⟩
  have hLO : L = O.len := by rw [hN, hO]; rfl
  subst hLO
  refine den_h hO tiA mixed tabOk (fn := Try.f61) (sh := true) (by kernel_rfl) rfl rfl rfl rfl ?_
  intro Q hQ
  unfold p61_b at h
  conv => cbv
  refine br_h hO h (by subst hO; rfl) (fun hc1 h => ?_) (fun hc1 h => ?_)
  · conv => cbv
    rw [hQ]
    exact ⟨false, _, ⟨(by subst hO; rfl), (by subst hO; rfl)⟩, h⟩
  · conv => cbv
    refine join_all hO ?_
    conv => cbv
    refine loop_of hO tiA [1, 3] [2000] [] (fun (n : Nat) tm m => ∃ (z1 : Int), ((tm = frame 0 37 [(1, .p 2000 0 0), (3, .c (.v (.int .i64 z1)))] ∧ m = ⟨[(2000, .blk 0 [.c (.v (.int .i64 x0)), .c (.v (.int .i64 x1)), .c (.v (.string x2)), .c (.sl 3 x3 none), .c (.sl 5 x4 none)])], 1⟩)) ∧ p61_2L False fu (p61 False fu) K0 x3 x4 n z1) (fun n => n) fu ⟨0, ⟨(by (conv => lhs; cbv) <;> (subst hO; rfl)), (by (conv => lhs; cbv) <;> (subst hO; rfl))⟩, h⟩ ?_
    rintro n1 tm m L ⟨z1, hs, h⟩ hLn1
    cases n1 with
    | zero => rw [p61_2L] at h; exact h.elim
    | succ n1 =>
      rw [p61_2L] at h
      unfold p61_2 at h
      obtain ⟨rfl, rfl⟩ := hs
      conv => cbv
      refine br_h hO h (by subst hO; rfl) (fun hc2 h => ?_) (fun hc2 h => ?_)
      · conv => cbv
        refine join_all hO ?_
        conv => cbv
        refine and_h h (fun g => (by subst hO; exact g)) (fun h => ?_)
        refine and_h h (fun g => (by subst hO; exact g)) (fun h => ?_)
        obtain ⟨c2, c3, c4, hr, h⟩ := rw_i64_i64_l3_inv h
        refine elem_of hO _ (by subst hO; exact hr) ?_
        clear hr
        conv => cbv
        refine call_h hO [.shut, .shut] (d_p69 fu O.len hN h) ?_
        intro os Q hos hQ
        conv => cbv
        refine ⟨(by (rw [hos]) <;> (subst hO; rfl)), ?_⟩
        intro r bs hq
        rw [hQ] at hq
        clear hos hQ h
        obtain ⟨y5, _, _, ⟨rfl, rfl⟩, h⟩ := hq
        conv => cbv
        refine br_h hO h (by subst hO; rfl) (fun hc3 h => ?_) (fun hc3 h => ?_)
        · conv => cbv
          rw [hQ]
          exact ⟨false, _, ⟨(by subst hO; rfl), (by subst hO; rfl)⟩, h⟩
        · conv => cbv
          refine join_all hO ?_
          conv => cbv
          exact hLn1 n1 _ _ (Nat.lt_succ_self n1) ⟨binStd .add .i64 z1 1, ⟨(by (conv => lhs; cbv) <;> (subst hO; rfl)), (by (conv => lhs; cbv) <;> (subst hO; rfl))⟩, h⟩
      · conv => cbv
        refine loop_of hO tiA [1, 4] [2000] [] (fun (n : Nat) tm m => ∃ (z6 : Int), ((tm = frame 0 37 [(1, .p 2000 0 0), (4, .c (.v (.int .i64 z6)))] ∧ m = ⟨[(2000, .blk 0 [.c (.v (.int .i64 x0)), .c (.v (.int .i64 x1)), .c (.v (.string x2)), .c (.sl 3 x3 none), .c (.sl 5 x4 none)])], 1⟩)) ∧ p61_1L False fu (p61 False fu) K0 x4 n z6) (fun n => n) fu ⟨0, ⟨(by (conv => lhs; cbv) <;> (subst hO; rfl)), (by (conv => lhs; cbv) <;> (subst hO; rfl))⟩, h⟩ ?_
        rintro n2 tm m L ⟨z6, hs, h⟩ hLn2
        cases n2 with
        | zero => rw [p61_1L] at h; exact h.elim
        | succ n2 =>
          rw [p61_1L] at h
          unfold p61_1 at h
          obtain ⟨rfl, rfl⟩ := hs
          conv => cbv
          refine br_h hO h (by subst hO; rfl) (fun hc4 h => ?_) (fun hc4 h => ?_)
          · conv => cbv
            refine join_all hO ?_
            conv => cbv
            refine and_h h (fun g => (by subst hO; exact g)) (fun h => ?_)
            refine and_h h (fun g => (by subst hO; exact g)) (fun h => ?_)
            obtain ⟨c7, c8, c9, c10, c11, hr, h⟩ := rw_i64_i64_s_l3_l5_inv h
            refine elem_of hO _ (by subst hO; exact hr) ?_
            clear hr
            conv => cbv
            refine call_h hO [.shut] (ih_p61 O.len hN h) ?_
            intro os Q hos hQ
            conv => cbv
            refine ⟨(by (rw [hos]) <;> (subst hO; rfl)), ?_⟩
            intro r bs hq
            rw [hQ] at hq
            clear hos hQ h
            obtain ⟨y12, _, ⟨rfl, rfl⟩, h⟩ := hq
            conv => cbv
            refine br_h hO h (by subst hO; rfl) (fun hc5 h => ?_) (fun hc5 h => ?_)
            · conv => cbv
              rw [hQ]
              exact ⟨false, _, ⟨(by subst hO; rfl), (by subst hO; rfl)⟩, h⟩
            · conv => cbv
              refine join_all hO ?_
              conv => cbv
              exact hLn2 n2 _ _ (Nat.lt_succ_self n2) ⟨binStd .add .i64 z6 1, ⟨(by (conv => lhs; cbv) <;> (subst hO; rfl)), (by (conv => lhs; cbv) <;> (subst hO; rfl))⟩, h⟩
          · conv => cbv
            rw [hQ]
            exact ⟨true, _, ⟨(by subst hO; rfl), (by subst hO; rfl)⟩, h⟩
theorem dd_p61 (fu : Nat) : D_p61 fu := by
  induction fu with
  | zero => unfold D_p61; intros; rename_i h; rw [p61] at h; exact h.elim
  | succ n ih =>
    exact (by unfold D_p61; intro K0 L hN x0 x1 x2 x3 x4 h; exact b_p61 n ih L hN (by rw [p61] at h; exact h))
theorem d_p61 (fu : Nat) {K0 : Bool → Prop} (L : EL → Nat) (hL : L = List.length) {x0 : Int} {x1 : Int} {x2 : ByteArray} {x3 : EL} {x4 : EL} (h : p61 False fu K0 x0 x1 x2 x3 x4) : Den Try.prog G0 61 [.agg [.c (.v (.int .i64 x0)), .c (.v (.int .i64 x1)), .c (.v (.string x2)), .c (.sl 3 x3 none), .c (.sl 5 x4 none)]] (fun r bs => (∃ (y0 : Bool) (o0 : OV), (r = .c (.v (.bool y0)) ∧ bs = [o0]) ∧ K0 y0)) := dd_p61 fu L hL h
end Go.Proofs.Ythncmjlcmlmnmaa

