/- Functions without memory, and that the Go functions are followed by them. Printed by gen.py. Conditions: none. -/
import Derived.Test.YthncmjlcmlmnmaaCW9
import Derived.Test.YthncmjlcmlmnmaaCW15
import Derived.Test.YthncmjlcmlmnmaaCW17
import Derived.Test.YthncmjlcmlmnmaaCW14
import Derived.Test.YthncmjlcmlmnmaaCW12
import Derived.Test.YthncmjlcmlmnmaaCW11
import Derived.ChangeSlices
import Derived.Test.YthncmjlcmlmnmaaProg
import Derived.ProofKit
namespace Go.Proofs.Ythncmjlcmlmnmaa
open Go V
set_option maxRecDepth 100000
set_option maxHeartbeats 4000000
def p5_1 {ρ : Type} (fail : ρ) (fu : Nat)  (K0 : Bool → ρ)   (j10 : Bool) : ρ :=
  K0 j10
def p5_2 {ρ : Type} (fail : ρ) (fu : Nat)  (K0 : Bool → ρ)  (x0 : EL) (y3 : EL) (y4 : Nat) (y5 : Nat) (j9 : Bool) : ρ :=
  bif j9 then (gd (y5 ≤ y3.length) fail (gd (u8E y3 = true) fail (gd (y4 = y3.length) fail (gd (y5 < y3.length) fail (p31 fail fu (fun y11 => p5_1 fail fu  K0  y11) (List.take y5 y3) (List.drop y5 y3) x0))))) else (p5_1 fail fu  K0  false)
def p5_3 {ρ : Type} (fail : ρ) (fu : Nat)  (K0 : Bool → ρ)  (x0 : EL) (x1 : Int) (x2 : Int) (x3 : EL) (x4 : Int) (x5 : Int) (x6 : ByteArray) (x7 : EL) (x8 : EL) (x9 : Int) (x10 : Int) (x11 : Int) (x12 : ByteArray) (x13 : ByteArray) (x14 : Int) (x15 : Int) (x16 : ByteArray) (x17 : EL) (x18 : EL) (x19 : Int) (x20 : Int) (x21 : ByteArray) (x22 : EL) (x23 : EL) (x24 : EL) (j2 : Bool) : ρ :=
  bif j2 then (K0 true) else (p25 fail fu (fun y3 y4 y5 => gd (y5 ≤ y3.length) fail (gd (u8E y3 = true) fail (p26 fail fu (fun y6 => gd (safeT y6 = true) fail (gd (y5 ≤ y3.length) fail (gd (u8E y3 = true) fail (p17 fail fu (fun y7 => gd (safeT y7 = true) fail (gd (y5 ≤ y3.length) fail (gd (u8E y3 = true) fail (p27 fail fu (fun y8 => gd (safeT y8 = true) fail (tobP fail y6 (fun s12 => p28 fail fu (fun y13 => tobP fail y13 (fun s14 => bif (scmpStd .eql s12 s14) then (tobP fail y7 (fun s15 => p29 fail fu (fun y16 => tobP fail y16 (fun s17 => bif (scmpStd .eql s15 s17) then (tobP fail y8 (fun s18 => p30 fail fu (fun y19 => tobP fail y19 (fun s20 => bif (scmpStd .eql s18 s20) then (gd (y5 ≤ y3.length) fail (gd (u8E y3 = true) fail (gd (y4 = y3.length) fail (gd (y5 < y3.length) fail (p31 fail fu (fun y21 => p5_2 fail fu  K0 x0 y3 y4 y5 y21) (List.take y5 y3) (List.drop y5 y3) x0))))) else (p5_2 fail fu  K0 x0 y3 y4 y5 false))) x0 x9 x10 x11 x12 x13 x14 x15 x16 x17 x18 x19 x20 x21 x22 x23 x24)) else (p5_2 fail fu  K0 x0 y3 y4 y5 false))) x0 x4 x5 x6 x7 x8)) else (p5_2 fail fu  K0 x0 y3 y4 y5 false))) x0 x1 x2 x3))) (List.take y5 y3) x9 x10 x11 x12 x13 x14 x15 x16 x17 x18 x19 x20 x21 x22 x23 x24)))) (List.take y5 y3) x4 x5 x6 x7 x8)))) (List.take y5 y3) x1 x2 x3))) x0)
/-- law6.CodecWrites -/
def p5 {ρ : Type} (fail : ρ) (fu : Nat)  (K0 : Bool → ρ) (x0 : EL) (x1 : Int) (x2 : Int) (x3 : EL) (x4 : Int) (x5 : Int) (x6 : ByteArray) (x7 : EL) (x8 : EL) (x9 : Int) (x10 : Int) (x11 : Int) (x12 : ByteArray) (x13 : ByteArray) (x14 : Int) (x15 : Int) (x16 : ByteArray) (x17 : EL) (x18 : EL) (x19 : Int) (x20 : Int) (x21 : ByteArray) (x22 : EL) (x23 : EL) (x24 : EL) : ρ :=
  p13 fail fu (fun y1 => bif (!y1) then (K0 false) else (bif (cmpStd .gtr ((x0.length : Nat) : Int) 1000) then (p5_3 fail fu  K0 x0 x1 x2 x3 x4 x5 x6 x7 x8 x9 x10 x11 x12 x13 x14 x15 x16 x17 x18 x19 x20 x21 x22 x23 x24 true) else (gd (1 ≤ [[(CV.v (.int .i64 x1)), (CV.v (.int .i64 x2)), (CV.sl 3 x3 none)]].length) fail (p23 fail fu (fun y22 => bif (!y22) then (p5_3 fail fu  K0 x0 x1 x2 x3 x4 x5 x6 x7 x8 x9 x10 x11 x12 x13 x14 x15 x16 x17 x18 x19 x20 x21 x22 x23 x24 true) else (p16 fail fu (fun y23 => bif (!y23) then (p5_3 fail fu  K0 x0 x1 x2 x3 x4 x5 x6 x7 x8 x9 x10 x11 x12 x13 x14 x15 x16 x17 x18 x19 x20 x21 x22 x23 x24 true) else (p24 fail fu (fun y24 => p5_3 fail fu  K0 x0 x1 x2 x3 x4 x5 x6 x7 x8 x9 x10 x11 x12 x13 x14 x15 x16 x17 x18 x19 x20 x21 x22 x23 x24 (!y24)) x9 x10 x11 x12 x13 x14 x15 x16 x17 x18 x19 x20 x21 x22 x23 x24)) x4 x5 x6 x7 x8)) (List.take 1 [[(CV.v (.int .i64 x1)), (CV.v (.int .i64 x2)), (CV.sl 3 x3 none)]]))))) 
theorem d_p5 (fu : Nat)  {K0 : Bool → Prop} (L : EL → Nat) (hN : L = List.length) {x0 : EL} {x1 : Int} {x2 : Int} {x3 : EL} {x4 : Int} {x5 : Int} {x6 : ByteArray} {x7 : EL} {x8 : EL} {x9 : Int} {x10 : Int} {x11 : Int} {x12 : ByteArray} {x13 : ByteArray} {x14 : Int} {x15 : Int} {x16 : ByteArray} {x17 : EL} {x18 : EL} {x19 : Int} {x20 : Int} {x21 : ByteArray} {x22 : EL} {x23 : EL} {x24 : EL} (h : p5 False fu K0 x0 x1 x2 x3 x4 x5 x6 x7 x8 x9 x10 x11 x12 x13 x14 x15 x16 x17 x18 x19 x20 x21 x22 x23 x24) : Den Try.prog G0 5 [.c (.sl 1 x0 none), .agg [.c (.v (.int .i64 x1)), .c (.v (.int .i64 x2)), .c (.sl 3 x3 none)], .agg [.c (.v (.int .i64 x4)), .c (.v (.int .i64 x5)), .c (.v (.string x6)), .c (.sl 3 x7 none), .c (.sl 5 x8 none)], .agg [.c (.v (.int .i64 x9)), .c (.v (.int .i64 x10)), .c (.v (.int .i64 x11)), .c (.v (.string x12)), .c (.v (.string x13)), .c (.v (.int .i64 x14)), .c (.v (.int .i64 x15)), .c (.v (.string x16)), .c (.sl 3 x17 none), .c (.sl 5 x18 none), .c (.v (.int .i64 x19)), .c (.v (.int .i64 x20)), .c (.v (.string x21)), .c (.sl 3 x22 none), .c (.sl 5 x23 none), .c (.sl 6 x24 none)]] (fun r bs => (∃ (y0 : Bool) (o0 : OV) (o1 : OV) (o2 : OV) (o3 : OV), (r = .c (.v (.bool y0)) ∧ bs = [o0, o1, o2, o3]) ∧ K0 y0)) := by
  obtain ⟨O, hO⟩ : ∃ O, O = std 0 T G0 (Den Try.prog G0) := ⟨_, rfl⟩
  have hLO : L = O.len := by rw [hN, hO]; rfl
  subst hLO
  refine den_h hO tiA mixed tabOk (fn := Try.f5) (sh := true) (by kernel_rfl) rfl rfl rfl rfl ?_
  intro Q hQ
  unfold p5 at h
  conv => cbv
  refine call_h hO [] (d_p13 fu O.len hN h) ?_
  intro os Q hos hQ
  conv => cbv
  refine ⟨(by (rw [hos]) <;> (subst hO; rfl)), ?_⟩
  intro r bs hq
  rw [hQ] at hq
  clear hos hQ h
  obtain ⟨y1, ⟨rfl, rfl⟩, h⟩ := hq
  conv => cbv
  refine br_h hO h (by subst hO; rfl) (fun hc1 h => ?_) (fun hc1 h => ?_)
  · conv => cbv
    rw [hQ]
    exact ⟨false, _, _, _, _, ⟨(by subst hO; rfl), (by subst hO; rfl)⟩, h⟩
  · conv => cbv
    refine join_all hO ?_
    conv => cbv
    refine reg_join hO tiA [0, 5, 6, 7, 34] [6000, 7000, 8000] [] (fun tm m => ∃ (j2 : Bool), ((tm = frame 0 88 [(0, .c (.sl 1 x0 none)), (5, .p 6000 0 0), (6, .p 7000 0 0), (7, .p 8000 0 0), (34, .c (.v (.bool j2)))] ∧ m = ⟨[(6000, .blk 0 [.c (.v (.int .i64 x1)), .c (.v (.int .i64 x2)), .c (.sl 3 x3 none)]), (7000, .blk 0 [.c (.v (.int .i64 x4)), .c (.v (.int .i64 x5)), .c (.v (.string x6)), .c (.sl 3 x7 none), .c (.sl 5 x8 none)]), (8000, .blk 0 [.c (.v (.int .i64 x9)), .c (.v (.int .i64 x10)), .c (.v (.int .i64 x11)), .c (.v (.string x12)), .c (.v (.string x13)), .c (.v (.int .i64 x14)), .c (.v (.int .i64 x15)), .c (.v (.string x16)), .c (.sl 3 x17 none), .c (.sl 5 x18 none), .c (.v (.int .i64 x19)), .c (.v (.int .i64 x20)), .c (.v (.string x21)), .c (.sl 3 x22 none), .c (.sl 5 x23 none), .c (.sl 6 x24 none)])], 1⟩)) ∧ p5_3 False fu  K0 x0 x1 x2 x3 x4 x5 x6 x7 x8 x9 x10 x11 x12 x13 x14 x15 x16 x17 x18 x19 x20 x21 x22 x23 x24 j2) (fun L hL_3 => ?_) ?_
    · conv => cbv
      refine br_h hO h (by subst hO; rfl) (fun hc24 h => ?_) (fun hc24 h => ?_)
      · conv => cbv
        refine br_t hO hc24 ?_
        conv => cbv
        refine br_t hO hc24 ?_
        conv => cbv
        refine br_t hO hc24 ?_
        conv => cbv
        refine br_t hO hc24 ?_
        conv => cbv
        refine br_t hO rfl ?_
        conv => cbv
        refine br_t hO rfl ?_
        conv => cbv
        refine br_t hO rfl ?_
        conv => cbv
        refine br_t hO rfl ?_
        conv => cbv
        refine br_t hO rfl ?_
        conv => cbv
        refine br_t hO rfl ?_
        conv => cbv
        refine br_t hO rfl ?_
        conv => cbv
        refine br_t hO rfl ?_
        conv => cbv
        exact hL_3 _ _ ⟨true, ⟨(by (conv => lhs; cbv) <;> (subst hO; rfl)), (by (conv => lhs; cbv) <;> (subst hO; rfl))⟩, h⟩
      · conv => cbv
        refine br_f hO hc24 ?_
        conv => cbv
        refine br_f hO hc24 ?_
        conv => cbv
        obtain ⟨hc27, h⟩ := gd_inv h
        refine call_h hO [.shut] (d_p23 fu O.len hN h) ?_
        intro os Q hos hQ
        conv => cbv
        refine view_of hO (by subst hO; exact hc27) ?_
        conv => cbv
        refine ⟨(by (rw [hos]) <;> (subst hO; rfl)), ?_⟩
        intro r bs hq
        rw [hQ] at hq
        clear hos hQ h
        obtain ⟨y22, _, ⟨rfl, rfl⟩, h⟩ := hq
        conv => cbv
        refine br_f hO hc24 ?_
        conv => cbv
        refine br_f hO hc24 ?_
        conv => cbv
        refine br_h hO h (by subst hO; rfl) (fun hc25 h => ?_) (fun hc25 h => ?_)
        · conv => cbv
          refine br_t hO hc25 ?_
          conv => cbv
          refine br_t hO hc25 ?_
          conv => cbv
          refine br_t hO hc25 ?_
          conv => cbv
          refine br_t hO rfl ?_
          conv => cbv
          refine br_t hO rfl ?_
          conv => cbv
          refine br_t hO rfl ?_
          conv => cbv
          refine br_t hO rfl ?_
          conv => cbv
          exact hL_3 _ _ ⟨true, ⟨(by (conv => lhs; cbv) <;> (subst hO; rfl)), (by (conv => lhs; cbv) <;> (subst hO; rfl))⟩, h⟩
        · conv => cbv
          refine br_f hO hc25 ?_
          conv => cbv
          refine call_h hO [.shut] (d_p16 fu O.len hN h) ?_
          intro os Q hos hQ
          conv => cbv
          refine ⟨(by (rw [hos]) <;> (subst hO; rfl)), ?_⟩
          intro r bs hq
          rw [hQ] at hq
          clear hos hQ h
          obtain ⟨y23, _, ⟨rfl, rfl⟩, h⟩ := hq
          conv => cbv
          refine br_f hO hc25 ?_
          conv => cbv
          refine br_f hO hc25 ?_
          conv => cbv
          refine br_h hO h (by subst hO; rfl) (fun hc26 h => ?_) (fun hc26 h => ?_)
          · conv => cbv
            refine br_t hO hc26 ?_
            conv => cbv
            refine br_t hO hc26 ?_
            conv => cbv
            refine br_t hO hc26 ?_
            conv => cbv
            exact hL_3 _ _ ⟨true, ⟨(by (conv => lhs; cbv) <;> (subst hO; rfl)), (by (conv => lhs; cbv) <;> (subst hO; rfl))⟩, h⟩
          · conv => cbv
            refine br_f hO hc26 ?_
            conv => cbv
            refine call_h hO [.shut] (d_p24 fu O.len hN h) ?_
            intro os Q hos hQ
            conv => cbv
            refine ⟨(by (rw [hos]) <;> (subst hO; rfl)), ?_⟩
            intro r bs hq
            rw [hQ] at hq
            clear hos hQ h
            obtain ⟨y24, _, ⟨rfl, rfl⟩, h⟩ := hq
            conv => cbv
            refine br_f hO hc26 ?_
            conv => cbv
            refine br_f hO hc26 ?_
            conv => cbv
            exact hL_3 _ _ ⟨(!y24), ⟨(by (conv => lhs; cbv) <;> (subst hO; rfl)), (by (conv => lhs; cbv) <;> (subst hO; rfl))⟩, h⟩
    · rintro tm m ⟨j2, hs, h⟩
      unfold p5_3 at h
      obtain ⟨rfl, rfl⟩ := hs
      conv => cbv
      refine br_h hO h (by subst hO; rfl) (fun hc2 h => ?_) (fun hc2 h => ?_)
      · conv => cbv
        rw [hQ]
        exact ⟨true, _, _, _, _, ⟨(by subst hO; rfl), (by subst hO; rfl)⟩, h⟩
      · conv => cbv
        refine join_all hO ?_
        conv => cbv
        refine call_h hO [.shut] (d_p25 fu O.len hN h) ?_
        intro os Q hos hQ
        conv => cbv
        refine ⟨(by (rw [hos]) <;> (subst hO; rfl)), ?_⟩
        intro r bs hq
        rw [hQ] at hq
        clear hos hQ h
        obtain ⟨y3, y4, y5, _, ⟨rfl, rfl⟩, h⟩ := hq
        conv => cbv
        refine drawn_of hO tiA [[], [], [], []] [(0, true, false), (1, true, false), (3, true, false), (4, true, false), (6, true, false), (7, true, false), (2, false, false), (5, false, false), (8, false, true), (9, true, true), (10, true, true), (11, true, true)] (by kernel_rfl) ?_
        conv => cbv
        obtain ⟨hc3, h⟩ := gd_inv h
        obtain ⟨hc4, h⟩ := gd_inv h
        refine lend_h hO (d_p26 fu O.len hN h) ?_ ?_
        · subst hO; exact (lend_t rfl hc3 hc4 (lend_agg (lendC_c rfl (lendC_c rfl (lendC_c rfl lendC_nil))) lend_nil))
        intro r bs hq
        clear h
        obtain ⟨y6, _, _, ⟨rfl, rfl⟩, h⟩ := hq
        obtain ⟨hc5, h⟩ := gd_inv h
        refine ⟨(by simp [safeO, safeOs, safeC, safeP, safeE, hc5]), ?_⟩
        conv => cbv
        refine ⟨agree_of hO (Nat.le_of_ble_eq_true rfl) rfl, ?_⟩
        obtain ⟨hc6, h⟩ := gd_inv h
        obtain ⟨hc7, h⟩ := gd_inv h
        refine lend_h hO (d_p17 fu O.len hN h) ?_ ?_
        · subst hO; exact (lend_t rfl hc6 hc7 (lend_agg (lendC_c rfl (lendC_c rfl (lendC_c rfl (lendC_c rfl (lendC_c rfl lendC_nil))))) lend_nil))
        intro r bs hq
        clear h
        obtain ⟨y7, _, _, ⟨rfl, rfl⟩, h⟩ := hq
        obtain ⟨hc8, h⟩ := gd_inv h
        refine ⟨(by simp [safeO, safeOs, safeC, safeP, safeE, hc8]), ?_⟩
        conv => cbv
        refine ⟨agree_of hO (Nat.le_of_ble_eq_true rfl) rfl, ?_⟩
        obtain ⟨hc9, h⟩ := gd_inv h
        obtain ⟨hc10, h⟩ := gd_inv h
        refine lend_h hO (d_p27 fu O.len hN h) ?_ ?_
        · subst hO; exact (lend_t rfl hc9 hc10 (lend_agg (lendC_c rfl (lendC_c rfl (lendC_c rfl (lendC_c rfl (lendC_c rfl (lendC_c rfl (lendC_c rfl (lendC_c rfl (lendC_c rfl (lendC_c rfl (lendC_c rfl (lendC_c rfl (lendC_c rfl (lendC_c rfl (lendC_c rfl (lendC_c rfl lendC_nil)))))))))))))))) lend_nil))
        intro r bs hq
        clear h
        obtain ⟨y8, _, _, ⟨rfl, rfl⟩, h⟩ := hq
        obtain ⟨hc11, h⟩ := gd_inv h
        refine ⟨(by simp [safeO, safeOs, safeC, safeP, safeE, hc11]), ?_⟩
        conv => cbv
        refine join_all hO ?_
        conv => cbv
        refine drawn_join hO tiA [[], [], [], [], []] [(0, true, false), (1, true, false), (2, true, false), (3, true, false), (4, false, false), (5, true, false), (6, true, false), (7, true, false), (8, true, false), (9, true, false), (10, true, false), (11, true, false), (12, false, false), (13, true, false), (14, true, false), (15, true, false), (16, true, false), (17, true, false), (18, true, false), (19, true, false), (20, true, false), (21, false, false), (22, true, false), (23, true, false), (24, true, false), (25, true, false), (26, true, false), (27, true, false), (28, false, false), (29, true, false), (30, true, true)] (by kernel_rfl) [0, 9, 10, 11, 12, 13] [37000, 40000, 43000, 46000] [] (fun tm m => ∃ (j9 : Bool), ((tm = frame 0 88 [(0, .c (.sl 1 x0 none)), (9, .t 37000 0 y5), (10, .t 40000 0 (O.len y6)), (11, .t 43000 0 (O.len y7)), (12, .t 46000 0 (O.len y8)), (13, .c (.v (.bool j9)))] ∧ m = ⟨[(37000, .arr 0 1 y3 (some y4) false), (40000, .arr 0 1 y6 none false), (43000, .arr 0 1 y7 none false), (46000, .arr 0 1 y8 none false)], 1⟩)) ∧ p5_2 False fu  K0 x0 y3 y4 y5 j9) (fun L hL_2 => ?_) ?_
        · conv => cbv
          refine view_full hO ?_
          conv => cbv
          refine tob_h hO h (by subst hO; rfl) (fun s12 h => ?_)
          conv => cbv
          refine call_h hO [.shut, .shut] (d_p28 fu O.len hN h) ?_
          intro os Q hos hQ
          conv => cbv
          refine ⟨(by (rw [hos]) <;> (subst hO; rfl)), ?_⟩
          intro r bs hq
          rw [hQ] at hq
          clear hos hQ h
          obtain ⟨y13, _, _, ⟨rfl, rfl⟩, h⟩ := hq
          conv => cbv
          refine ⟨agree_of hO (Nat.le_of_ble_eq_true rfl) rfl, ?_⟩
          refine tob_h hO h (by subst hO; rfl) (fun s14 h => ?_)
          conv => cbv
          refine br_h hO h (by subst hO; rfl) (fun hc17 h => ?_) (fun hc17 h => ?_)
          · conv => cbv
            refine br_t hO hc17 ?_
            conv => cbv
            refine view_full hO ?_
            conv => cbv
            refine tob_h hO h (by subst hO; rfl) (fun s15 h => ?_)
            conv => cbv
            refine br_t hO hc17 ?_
            conv => cbv
            refine br_t hO hc17 ?_
            conv => cbv
            refine br_t hO hc17 ?_
            conv => cbv
            refine call_h hO [.shut, .shut] (d_p29 fu O.len hN h) ?_
            intro os Q hos hQ
            conv => cbv
            refine ⟨(by (rw [hos]) <;> (subst hO; rfl)), ?_⟩
            intro r bs hq
            rw [hQ] at hq
            clear hos hQ h
            obtain ⟨y16, _, _, ⟨rfl, rfl⟩, h⟩ := hq
            conv => cbv
            refine ⟨agree_of hO (Nat.le_of_ble_eq_true rfl) rfl, ?_⟩
            refine br_t hO hc17 ?_
            conv => cbv
            refine tob_h hO h (by subst hO; rfl) (fun s17 h => ?_)
            conv => cbv
            refine br_t hO hc17 ?_
            conv => cbv
            refine br_t hO hc17 ?_
            conv => cbv
            refine br_h hO h (by subst hO; rfl) (fun hc18 h => ?_) (fun hc18 h => ?_)
            · conv => cbv
              refine br_t hO hc18 ?_
              conv => cbv
              refine view_full hO ?_
              conv => cbv
              refine tob_h hO h (by subst hO; rfl) (fun s18 h => ?_)
              conv => cbv
              refine br_t hO hc18 ?_
              conv => cbv
              refine br_t hO hc18 ?_
              conv => cbv
              refine br_t hO hc18 ?_
              conv => cbv
              refine call_h hO [.shut, .shut] (d_p30 fu O.len hN h) ?_
              intro os Q hos hQ
              conv => cbv
              refine ⟨(by (rw [hos]) <;> (subst hO; rfl)), ?_⟩
              intro r bs hq
              rw [hQ] at hq
              clear hos hQ h
              obtain ⟨y19, _, _, ⟨rfl, rfl⟩, h⟩ := hq
              conv => cbv
              refine ⟨agree_of hO (Nat.le_of_ble_eq_true rfl) rfl, ?_⟩
              refine br_t hO hc18 ?_
              conv => cbv
              refine tob_h hO h (by subst hO; rfl) (fun s20 h => ?_)
              conv => cbv
              refine br_t hO hc18 ?_
              conv => cbv
              refine br_t hO hc18 ?_
              conv => cbv
              refine br_h hO h (by subst hO; rfl) (fun hc19 h => ?_) (fun hc19 h => ?_)
              · conv => cbv
                refine br_t hO hc19 ?_
                conv => cbv
                refine br_t hO hc19 ?_
                conv => cbv
                obtain ⟨hc20, h⟩ := gd_inv h
                obtain ⟨hc21, h⟩ := gd_inv h
                obtain ⟨hc22, h⟩ := gd_inv h
                obtain ⟨hc23, h⟩ := gd_inv h
                refine lend_h hO (d_p31 fu O.len hN h) ?_ ?_
                · subst hO; exact (lend_f rfl hc20 hc21 hc22 hc23 (lend_c rfl lend_nil))
                intro r bs hq
                clear h
                obtain ⟨y21, _, _, ⟨rfl, rfl⟩, h⟩ := hq
                refine ⟨(by simp [safeO, safeOs, safeC, safeP, safeE]), ?_⟩
                conv => cbv
                refine ⟨agree_of hO (Nat.le_of_ble_eq_true rfl) rfl, ?_⟩
                refine br_t hO hc19 ?_
                conv => cbv
                exact hL_2 _ _ ⟨y21, ⟨(by (conv => lhs; cbv) <;> (subst hO; rfl)), (by (conv => lhs; cbv) <;> (subst hO; rfl))⟩, h⟩
              · conv => cbv
                refine br_f hO hc19 ?_
                conv => cbv
                refine br_f hO hc19 ?_
                conv => cbv
                refine br_f hO hc19 ?_
                conv => cbv
                exact hL_2 _ _ ⟨false, ⟨(by (conv => lhs; cbv) <;> (subst hO; rfl)), (by (conv => lhs; cbv) <;> (subst hO; rfl))⟩, h⟩
            · conv => cbv
              refine br_f hO hc18 ?_
              conv => cbv
              refine br_f hO hc18 ?_
              conv => cbv
              refine br_f hO hc18 ?_
              conv => cbv
              refine br_f hO hc18 ?_
              conv => cbv
              refine br_f hO hc18 ?_
              conv => cbv
              refine br_f hO hc18 ?_
              conv => cbv
              refine br_f hO hc18 ?_
              conv => cbv
              refine br_f hO rfl ?_
              conv => cbv
              refine br_f hO rfl ?_
              conv => cbv
              refine br_f hO rfl ?_
              conv => cbv
              refine br_f hO rfl ?_
              conv => cbv
              exact hL_2 _ _ ⟨false, ⟨(by (conv => lhs; cbv) <;> (subst hO; rfl)), (by (conv => lhs; cbv) <;> (subst hO; rfl))⟩, h⟩
          · conv => cbv
            refine br_f hO hc17 ?_
            conv => cbv
            refine br_f hO hc17 ?_
            conv => cbv
            refine br_f hO hc17 ?_
            conv => cbv
            refine br_f hO hc17 ?_
            conv => cbv
            refine br_f hO hc17 ?_
            conv => cbv
            refine br_f hO hc17 ?_
            conv => cbv
            refine br_f hO hc17 ?_
            conv => cbv
            refine br_f hO rfl ?_
            conv => cbv
            refine br_f hO rfl ?_
            conv => cbv
            refine br_f hO rfl ?_
            conv => cbv
            refine br_f hO rfl ?_
            conv => cbv
            refine br_f hO rfl ?_
            conv => cbv
            refine br_f hO rfl ?_
            conv => cbv
            refine br_f hO rfl ?_
            conv => cbv
            refine br_f hO rfl ?_
            conv => cbv
            refine br_f hO rfl ?_
            conv => cbv
            refine br_f hO rfl ?_
            conv => cbv
            refine br_f hO rfl ?_
            conv => cbv
            refine br_f hO rfl ?_
            conv => cbv
            exact hL_2 _ _ ⟨false, ⟨(by (conv => lhs; cbv) <;> (subst hO; rfl)), (by (conv => lhs; cbv) <;> (subst hO; rfl))⟩, h⟩
        · rintro tm m ⟨j9, hs, h⟩
          unfold p5_2 at h
          obtain ⟨rfl, rfl⟩ := hs
          conv => cbv
          refine alt_l hO ?_
          conv => cbv
          refine call_h hO [.own] (spoil_den y6 none y6.length) ?_
          intro os Q hos hQ
          conv => cbv
          refine ⟨(by subst hO; exact Nat.le_refl _), ?_⟩
          refine ⟨(by (rw [hos]) <;> (subst hO; rfl)), ?_⟩
          intro r bs hq
          rw [hQ] at hq
          clear hos hQ
          obtain ⟨_, rfl, rfl⟩ := hq
          conv => cbv
          refine alt_l hO ?_
          conv => cbv
          refine call_h hO [.own] (spoil_den y7 none y7.length) ?_
          intro os Q hos hQ
          conv => cbv
          refine ⟨(by subst hO; exact Nat.le_refl _), ?_⟩
          refine ⟨(by (rw [hos]) <;> (subst hO; rfl)), ?_⟩
          intro r bs hq
          rw [hQ] at hq
          clear hos hQ
          obtain ⟨_, rfl, rfl⟩ := hq
          conv => cbv
          refine alt_l hO ?_
          conv => cbv
          refine call_h hO [.own] (spoil_den y8 none y8.length) ?_
          intro os Q hos hQ
          conv => cbv
          refine ⟨(by subst hO; exact Nat.le_refl _), ?_⟩
          refine ⟨(by (rw [hos]) <;> (subst hO; rfl)), ?_⟩
          intro r bs hq
          rw [hQ] at hq
          clear hos hQ
          obtain ⟨_, rfl, rfl⟩ := hq
          conv => cbv
          refine reg_join hO tiA [8] [] [] (fun tm m => ∃ (j10 : Bool), ((tm = frame 0 88 [(8, .c (.v (.bool j10)))] ∧ m = ⟨[], 1⟩)) ∧ p5_1 False fu  K0  j10) (fun L hL_1 => ?_) ?_
          · conv => cbv
            refine br_h hO h (by subst hO; rfl) (fun hc12 h => ?_) (fun hc12 h => ?_)
            · conv => cbv
              refine br_t hO hc12 ?_
              conv => cbv
              refine br_t hO hc12 ?_
              conv => cbv
              obtain ⟨hc13, h⟩ := gd_inv h
              obtain ⟨hc14, h⟩ := gd_inv h
              obtain ⟨hc15, h⟩ := gd_inv h
              obtain ⟨hc16, h⟩ := gd_inv h
              refine lend_h hO (d_p31 fu O.len hN h) ?_ ?_
              · subst hO; exact (lend_f rfl hc13 hc14 hc15 hc16 (lend_c rfl lend_nil))
              intro r bs hq
              clear h
              obtain ⟨y11, _, _, ⟨rfl, rfl⟩, h⟩ := hq
              refine ⟨(by simp [safeO, safeOs, safeC, safeP, safeE]), ?_⟩
              conv => cbv
              refine br_t hO hc12 ?_
              conv => cbv
              exact hL_1 _ _ ⟨y11, ⟨(by (conv => lhs; cbv) <;> (subst hO; rfl)), (by (conv => lhs; cbv) <;> (subst hO; rfl))⟩, h⟩
            · conv => cbv
              refine br_f hO hc12 ?_
              conv => cbv
              refine br_f hO hc12 ?_
              conv => cbv
              refine br_f hO hc12 ?_
              conv => cbv
              exact hL_1 _ _ ⟨false, ⟨(by (conv => lhs; cbv) <;> (subst hO; rfl)), (by (conv => lhs; cbv) <;> (subst hO; rfl))⟩, h⟩
          · rintro tm m ⟨j10, hs, h⟩
            unfold p5_1 at h
            obtain ⟨rfl, rfl⟩ := hs
            conv => cbv
            rw [hQ]
            exact ⟨j10, _, _, _, _, ⟨(by subst hO; rfl), (by subst hO; rfl)⟩, h⟩
end Go.Proofs.Ythncmjlcmlmnmaa

namespace Go.Proofs.Ythncmjlcmlmnmaa
open Go V
set_option maxRecDepth 100000
set_option maxHeartbeats 2000000
theorem cmp_lss (a b : Int) : cmpStd .lss a b = decide (a < b) := rfl
theorem cmp_gtr (a b : Int) : cmpStd .gtr a b = decide (a > b) := rfl
section
variable {ρ : Type} {P : Prop} {p q : (Bool → ρ) → ρ}
theorem BO.no (h : ∀ K, p K = K false) : BO p P := ⟨false, h, fun h => by cases h⟩
theorem BO.eq (h : ∀ K, p K = q K) (hq : BO q P) : BO p P := by
  obtain ⟨b, h1, h2⟩ := hq
  exact ⟨b, fun K => (h K).trans (h1 K), h2⟩
theorem BO.imp {Q : Prop} (hq : BO p P) (h : P → Q) : BO p Q := by
  obtain ⟨b, h1, h2⟩ := hq
  exact ⟨b, h1, fun hb => h (h2 hb)⟩
theorem BO.cond {c : Bool} (hp : ∀ K, p K = K false) (hq : c = false → BO q P) : BO (fun K => bif c then p K else q K) P := by
  cases c with
  | true => exact .no fun K => by rw [cond_true]; exact hp K
  | false => exact BO.eq (fun K => by rw [cond_false]) (hq rfl)
theorem BO.call {c : (Bool → ρ) → ρ} {A : Prop} (hc : BO c A) (hp : ∀ K, p K = K false) (hq : A → BO q P) : BO (fun K => c (fun y => bif (!y) then p K else q K)) P := by
  obtain ⟨b, h1, h2⟩ := hc
  cases b with
  | true => exact BO.eq (fun K => by rw [h1, Bool.not_true, cond_false]) (hq (h2 rfl))
  | false => exact .no fun K => by rw [h1, Bool.not_false, cond_true]; exact hp K
theorem BO.app {c : Bool} {r : Bool → (Bool → ρ) → ρ} (hp : ∀ K, r true K = K false) (hq : c = false → BO (r false) P) : BO (fun K => r c K) P := by
  cases c with
  | true => exact .no hp
  | false => exact hq rfl
end
def Dc.good (d : Dc) : Prop := (1 ≤ d.k ∧ d.k ≤ 5) ∧ (0 ≤ d.pa ∧ d.pa ≤ 1073741824) ∧ (0 ≤ d.ct ∧ d.ct ≤ 1073741824) ∧ (d.nm.size ≤ 24 ∧ d.fam.size ≤ 24) ∧ (d.ty.good 100 ∧ d.ty.parts ≤ 2000) ∧
  ((d.k = 2 ∧ d.val.good 100 ∧ d.val.parts ≤ 2000) ∨ (d.k ≠ 2 ∧ isZ d.val = true)) ∧ d.cs.length ≤ 5 ∧ ∀ c ∈ d.cs, c.1.size ≤ 24 ∧ c.2.good 100 ∧ c.2.parts ≤ 2000
theorem mayCts {ρ : Type} (fail : ρ) (fu : Nat) (hf : 5000 ≤ fu) (l : List (ByteArray × Tm)) (hl : l.length ≤ 5) : BO (fun K : Bool → ρ => p24_3 fail fu K (l.map ctRow) false) (∀ c ∈ l, c.1.size ≤ 24 ∧ c.2.good 100 ∧ c.2.parts ≤ 2000) := by
  have loop : ∀ (r i j : Nat), i + r = l.length → r < j → BO (fun K : Bool → ρ => p24_2L fail fu K (l.map ctRow) j ((i : Nat) : Int)) (∀ c ∈ l.drop i, c.1.size ≤ 24 ∧ c.2.good 100 ∧ c.2.parts ≤ 2000) := by
    intro r
    induction r with
    | zero =>
      intro i j hi hj
      obtain ⟨j, rfl⟩ : ∃ j', j = j' + 1 := ⟨j - 1, by omega⟩
      refine ⟨true, fun K => ?_, fun _ x hx => ?_⟩
      · dsimp only; rw [p24_2L, p24_2, List.length_map, lssF (by omega), cond_false]
      · rw [List.drop_eq_nil_of_le (by omega)] at hx; simp at hx
    | succ r ihr =>
      intro i j hi hj
      obtain ⟨j, rfl⟩ : ∃ j', j = j' + 1 := ⟨j - 1, by omega⟩
      have hlt : i < l.length := by omega
      have hdr : l.drop i = l[i] :: l.drop (i + 1) := List.drop_eq_getElem_cons hlt
      have h2 : ∀ K : Bool → ρ, p24_2L fail fu K (l.map ctRow) (j + 1) ((i : Nat) : Int) = bif cmpStd .gtr ((l[i].1.size : Nat) : Int) 24 then K false else p16 fail fu (fun y => bif (!y) then K false else p24_2L fail fu K (l.map ctRow) j ((i + 1 : Nat) : Int)) l[i].2.k l[i].2.n l[i].2.nm (Lv.rows l[i].2.ls) (Tm.rows l[i].2.args) := fun K => by
        rw [p24_2L, p24_2, List.length_map, lssT (by omega), cond_true, gd_y (by omega), gd_y (by omega), ct_row fail l i hlt]
        by_cases c : l[i].1.size ≤ 24
        · rw [gtrF (by omega), cond_false, cond_false, gd_y (by omega), gd_y (by omega), ct_row fail l i hlt]
          congr 1
          funext y
          rw [p24_1, addZ (by omega) (by omega)]; rfl
        · rw [gtrT (by omega), cond_true, cond_true, p24_1, cond_true]
      refine BO.eq h2 (BO.cond (fun _ => rfl) fun c => BO.call (c := fun K => p16 fail fu K l[i].2.k l[i].2.n l[i].2.nm (Lv.rows l[i].2.ls) (Tm.rows l[i].2.args)) (mayTerm_eq fail fu (by omega) l[i].2) (fun _ => rfl) fun ht => (ihr (i + 1) j (by omega) (by omega)).imp fun hr x hx => ?_)
      rw [hdr] at hx
      rcases List.mem_cons.1 hx with rfl | hx
      · rw [cmp_gtr] at c
        have := of_decide_eq_false c
        exact ⟨by omega, ht⟩
      · exact hr x hx
  refine BO.eq (fun K => ?_) ((loop l.length 0 fu (by omega) (by omega)).imp fun h => by rwa [List.drop_zero] at h)
  rw [p24_3, cond_false]; rfl
theorem mayDecl_eq {ρ : Type} (fail : ρ) (fu : Nat) (hf : 5000 ≤ fu) (d : Dc) : BO (fun K : Bool → ρ => p24 fail fu K d.k d.pa d.ct d.nm d.fam d.ty.k d.ty.n d.ty.nm (Lv.rows d.ty.ls) (Tm.rows d.ty.args) d.val.k d.val.n d.val.nm (Lv.rows d.val.ls) (Tm.rows d.val.args) (d.cs.map ctRow)) d.good := by
  have bad4 : ∀ K : Bool → ρ, p24_4 fail fu K d.k d.val.k d.val.n d.val.nm (Lv.rows d.val.ls) (Tm.rows d.val.args) (d.cs.map ctRow) true = K false := fun K => by rw [p24_4, cond_true]
  have bad3 : ∀ K : Bool → ρ, p24_3 fail fu K (d.cs.map ctRow) true = K false := fun K => by rw [p24_3, cond_true]
  have h4 : d.cs.length ≤ 5 → BO (fun K : Bool → ρ => p24_4 fail fu K d.k d.val.k d.val.n d.val.nm (Lv.rows d.val.ls) (Tm.rows d.val.args) (d.cs.map ctRow) false) (((d.k = 2 ∧ d.val.good 100 ∧ d.val.parts ≤ 2000) ∨ (d.k ≠ 2 ∧ isZ d.val = true)) ∧ ∀ c ∈ d.cs, c.1.size ≤ 24 ∧ c.2.good 100 ∧ c.2.parts ≤ 2000) := fun hl => by
    by_cases k2 : d.k = 2
    · refine BO.eq (q := fun K => p16 fail fu (fun y => bif (!y) then p24_3 fail fu K (d.cs.map ctRow) true else p24_3 fail fu K (d.cs.map ctRow) false) d.val.k d.val.n d.val.nm (Lv.rows d.val.ls) (Tm.rows d.val.args)) (fun K => by rw [p24_4, cond_false, eqlT k2, cond_true]) ?_
      exact BO.call (c := fun K => p16 fail fu K d.val.k d.val.n d.val.nm (Lv.rows d.val.ls) (Tm.rows d.val.args)) (mayTerm_eq fail fu (by omega) d.val) bad3 fun hv => (mayCts fail fu hf d.cs hl).imp fun h => ⟨.inl ⟨k2, hv⟩, h⟩
    · refine BO.eq (q := fun K => p24_3 fail fu K (d.cs.map ctRow) (!isZ d.val)) (fun K => by rw [p24_4, cond_false, eqlF k2, cond_false, rterm_isZ fail fu (by omega)]) ?_
      refine BO.app (r := fun c K => p24_3 fail fu K (d.cs.map ctRow) c) bad3 fun hz => (mayCts fail fu hf d.cs hl).imp fun h => ⟨.inr ⟨k2, by simpa using hz⟩, h⟩
  unfold p24
  refine BO.cond bad4 fun h1 => BO.cond bad4 fun h2 => BO.cond bad4 fun h3 => BO.cond bad4 fun h5 => BO.cond bad4 fun h6 => BO.cond bad4 fun h7 => BO.cond bad4 fun h8 => BO.cond bad4 fun h9 =>
    BO.call (c := fun K => p16 fail fu K d.ty.k d.ty.n d.ty.nm (Lv.rows d.ty.ls) (Tm.rows d.ty.args)) (mayTerm_eq fail fu (by omega) d.ty) bad4 fun ht =>
    BO.app (r := fun c K => p24_4 fail fu K d.k d.val.k d.val.n d.val.nm (Lv.rows d.val.ls) (Tm.rows d.val.args) (d.cs.map ctRow) c) bad4 fun hl => ?_
  rw [cmp_lss] at h1 h3 h6
  rw [cmp_gtr] at h2 h5 h7 h8 h9 hl
  rw [List.length_map] at hl
  have h1 := of_decide_eq_false h1
  have h2 := of_decide_eq_false h2
  have h3 := of_decide_eq_false h3
  have h5 := of_decide_eq_false h5
  have h6 := of_decide_eq_false h6
  have h7 := of_decide_eq_false h7
  have h8 := of_decide_eq_false h8
  have h9 := of_decide_eq_false h9
  have hl := of_decide_eq_false hl
  exact (h4 (by omega)).imp fun h => ⟨⟨by omega, by omega⟩, ⟨by omega, by omega⟩, ⟨by omega, by omega⟩, ⟨by omega, by omega⟩, ht, h.1, by omega, h.2⟩
theorem isZ_sz {t : Tm} (h : isZ t = true) : t.sz = 1 := by
  rw [isZ_iff] at h; subst h; rfl
theorem Dc.good_sz {d : Dc} (h : d.good) : d.sz ≤ 9000000 ∧ d.enc.length ≤ 500000000 := by
  obtain ⟨_, _, _, ⟨h1, h2⟩, ⟨h3, h4⟩, h5, h6, h7⟩ := h
  have hcts : ∀ l : List (ByteArray × Tm), (∀ c ∈ l, c.1.size ≤ 24 ∧ c.2.good 100 ∧ c.2.parts ≤ 2000) → ctsSz l ≤ 1200025 * l.length ∧ (ctsB l).length ≤ 48000034 * l.length := by
    intro l
    induction l with
    | nil => intro _; exact ⟨Nat.le_refl _, Nat.le_refl _⟩
    | cons c l ih =>
      intro hc
      obtain ⟨i1, i2⟩ := ih fun x hx => hc x (by simp [hx])
      obtain ⟨c1, c2, c3⟩ := hc c (by simp)
      have c4 := Go.Proofs.Ythncmjlcmlmnmaa.good_sz 100 c.2 c2
      have c5 := Tm.enc_sz c.2 (by omega)
      have c6 := varB_10 (show c.1.size < 2 ^ 64 by omega)
      simp only [ctsSz, ctsB, List.length_append, List.length_cons, txB, sz_data]; omega
  obtain ⟨g1, g2⟩ := hcts d.cs h7
  have t1 := Go.Proofs.Ythncmjlcmlmnmaa.good_sz 100 d.ty h3
  have t2 := Tm.enc_sz d.ty (by omega)
  have v1 : d.val.sz ≤ 1200000 := by
    rcases h5 with ⟨_, v2, v3⟩ | ⟨_, v2⟩
    · have := Go.Proofs.Ythncmjlcmlmnmaa.good_sz 100 d.val v2; omega
    · rw [isZ_sz v2]; omega
  have v2 := Tm.enc_sz d.val (by omega)
  have n3 : ((numsB [d.k, d.pa, d.ct]).length) ≤ 30 := numsB_len [d.k, d.pa, d.ct]
  have n4 := varB_10 (show d.nm.size < 2 ^ 64 by omega)
  have n5 := varB_10 (show d.fam.size < 2 ^ 64 by omega)
  have n6 := varB_10 (show d.cs.length < 2 ^ 64 by omega)
  have hv1 : (varB 1).length ≤ 10 := varB_10 (by omega)
  have hv0 : (varB 0).length ≤ 10 := varB_10 (by omega)
  have hif : (if d.k = 2 then varB 1 ++ d.val.enc else varB 0).length ≤ 10 + d.val.enc.length := by
    split
    · rw [List.length_append]; omega
    · omega
  constructor
  · simp only [Dc.sz]; omega
  · simp only [Dc.enc, List.length_append, txB, sz_data]; omega
-- ---------------------------------------------------------------- how the document writes one
theorem rcts_w {ρ : Type} (fail : ρ) (fu : Nat) (K : EL → ρ) (l : List (ByteArray × Tm)) (hok : ∀ c ∈ l, c.2.lvOk) (hfu : ctsSz l + 40 ≤ fu) (hsz : ctsSz l < 1099511627776) :
    ∀ (r i n : Nat) (z : EL), i + r = l.length → r < n → z.length + (ctsB (l.drop i)).length ≤ 35184372086900 → p30_1L fail fu K (l.map ctRow) n z ((i : Nat) : Int) = K (z ++ encB (ctsB (l.drop i))) := by
  have hl := ctsSz_len l
  intro r
  induction r with
  | zero =>
    intro i n z hi hn hz
    obtain ⟨n, rfl⟩ : ∃ m, n = m + 1 := ⟨n - 1, by omega⟩
    rw [p30_1L, p30_1, List.length_map, lssF (by omega), cond_false, List.drop_eq_nil_of_le (by omega)]
    simp [ctsB]
  | succ r ih =>
    intro i n z hi hn hz
    obtain ⟨n, rfl⟩ : ∃ m, n = m + 1 := ⟨n - 1, by omega⟩
    have hlt : i < l.length := by omega
    have hm := ctsSz_mem (List.getElem_mem hlt)
    have hd : l.drop i = l[i] :: l.drop (i + 1) := List.drop_eq_getElem_cons hlt
    rw [hd] at hz ⊢
    simp only [ctsB, List.length_append] at hz ⊢
    have htx : (txB l[i].1).length = (varB l[i].1.size).length + l[i].1.size := by simp [txB, sz_data]
    have h10 := varB_10 (show l[i].1.size < 2 ^ 64 by omega)
    rw [p30_1L, p30_1, List.length_map, lssT (by omega), cond_true, gd_y (by omega), gd_y (by omega), ct_row fail l i hlt, gd_y (by omega), gd_y (by omega), ct_row fail l i hlt, rtext_w fail fu (by omega) _ _ z (by omega) (by omega),
      rterm_w fail _ l[i].2 (Nat.le_refl _) (hok _ (List.getElem_mem hlt)) fu _ _ (by omega) (by omega) (by rw [List.length_append, encB_length]; omega), addZ (by omega) (by omega), show ((i : Nat) : Int) + 1 = ((i + 1 : Nat) : Int) by omega]
    rw [ih (i + 1) n _ (by omega) (by omega) (by simp only [List.length_append, encB_length]; omega)]
    simp [List.append_assoc]
theorem rdecl_w {ρ : Type} (fail : ρ) (fu : Nat) (K : EL → ρ) (d : Dc) (ho1 : d.ty.lvOk) (ho2 : d.k = 2 → d.val.lvOk) (ho3 : ∀ c ∈ d.cs, c.2.lvOk) (hf : d.sz + 60 ≤ fu) (hsz : d.sz < 1099511627776) (z : EL) (hz : z.length + d.enc.length ≤ 35184372086000) :
    p30 fail fu K z d.k d.pa d.ct d.nm d.fam d.ty.k d.ty.n d.ty.nm (Lv.rows d.ty.ls) (Tm.rows d.ty.args) d.val.k d.val.n d.val.nm (Lv.rows d.val.ls) (Tm.rows d.val.args) (d.cs.map ctRow) = K (z ++ encB d.enc) := by
  simp only [Dc.sz] at hf hsz
  have hcl := ctsSz_len d.cs
  have htx1 : (txB d.nm).length = (varB d.nm.size).length + d.nm.size := by simp [txB, sz_data]
  have htx2 : (txB d.fam).length = (varB d.fam.size).length + d.fam.size := by simp [txB, sz_data]
  have h101 := varB_10 (show d.nm.size < 2 ^ 64 by omega)
  have h102 := varB_10 (show d.fam.size < 2 ^ 64 by omega)
  have h103 := varB_10 (show d.cs.length < 2 ^ 64 by omega)
  have u1 := varB_10 (uv_lt d.k)
  have u2 := varB_10 (uv_lt d.pa)
  have u3 := varB_10 (uv_lt d.ct)
  have hv1 : (varB 1).length = 1 := by rw [varB_lt (by omega)]; rfl
  have hv0 : (varB 0).length = 1 := by rw [varB_lt (by omega)]; rfl
  simp only [Dc.enc, numsB_cons, show numsB [] = [] from rfl, List.append_nil, List.length_append] at hz
  have hcts : ∀ y : EL, y.length + (varB d.cs.length).length + (ctsB d.cs).length ≤ 35184372086800 → p30_2 fail fu K (d.cs.map ctRow) y = K (y ++ encB (varB d.cs.length ++ ctsB d.cs)) := fun y hy => by
    have hg : uv ((d.cs.length : Nat) : Int) = d.cs.length := uv_nat _ (by omega)
    have := rcts_w fail fu K d.cs ho3 (by omega) (by omega) d.cs.length 0 fu (y ++ encB (varB d.cs.length)) (by omega) (by omega) (by simp only [List.length_append, encB_length, List.drop_zero]; omega)
    rw [p30_2, List.length_map, rnum_w fail fu (by omega) _ _ _ (by omega), hg]
    rw [List.drop_zero] at this
    rw [encB_append, ← List.append_assoc]
    exact this
  rw [p30, rnum_w fail fu (by omega) _ _ _ (by omega), rnum_w fail fu (by omega) _ _ _ (by simp only [List.length_append, encB_length]; omega), rnum_w fail fu (by omega) _ _ _ (by simp only [List.length_append, encB_length]; omega),
    rtext_w fail fu (by omega) _ _ _ (by omega) (by simp only [List.length_append, encB_length]; omega), rtext_w fail fu (by omega) _ _ _ (by omega) (by simp only [List.length_append, encB_length]; omega),
    rterm_w fail _ d.ty (Nat.le_refl _) ho1 fu _ _ (by omega) (by omega) (by simp only [List.length_append, encB_length]; omega)]
  by_cases h2 : d.k = 2
  · rw [if_pos h2] at hz
    simp only [List.length_append] at hz
    rw [eqlT h2, cond_true, rnum_w fail fu (by omega) _ _ _ (by simp only [List.length_append, encB_length]; omega), show uv 1 = 1 from rfl,
      rterm_w fail _ d.val (Nat.le_refl _) (ho2 h2) fu _ _ (by omega) (by omega) (by simp only [List.length_append, encB_length]; omega), hcts _ (by simp only [List.length_append, encB_length]; omega)]
    simp only [Dc.enc, numsB_cons, show numsB [] = [] from rfl, List.append_nil, if_pos h2, encB_append, List.append_assoc]
  · rw [if_neg h2] at hz
    rw [eqlF h2, cond_false, rnum_w fail fu (by omega) _ _ _ (by simp only [List.length_append, encB_length]; omega), show uv 0 = 0 from rfl, hcts _ (by simp only [List.length_append, encB_length]; omega)]
    simp only [Dc.enc, numsB_cons, show numsB [] = [] from rfl, List.append_nil, if_neg h2, encB_append, List.append_assoc]
-- ---------------------------------------------------------------- the law
theorem begun6_10000000 (K : Bool → Prop) : p13 (ρ := Prop) False 10000000 K = K true := by kernel_rfl
theorem light_eq {ρ : Type} (fail : ρ) (fu : Nat) (hf : 300 ≤ fu) (l : Lv) : BO (fun K : Bool → ρ => p23 fail fu K (List.take 1 [[CV.v (.int .i64 l.k), CV.v (.int .i64 l.n), CV.sl 3 (Lv.rows l.args) none]])) (l.good 32 ∧ l.parts ≤ 64) := by
  obtain ⟨b, h1, h2⟩ := lmay fail fu (by omega) l
  dsimp only at h1
  obtain ⟨m, hm⟩ : ∃ m, fu = m + 2 := ⟨fu - 2, by omega⟩
  have hl : (List.take 1 [[CV.v (.int .i64 l.k), CV.v (.int .i64 l.n), CV.sl 3 (Lv.rows l.args) none]]) = Lv.rows [l] := by rw [Lv.rows, Lv.rows, Lv.row_eq]; rfl
  have h3 : ∀ K : Bool → ρ, p23 fail fu K (Lv.rows [l]) = bif (!b) then K false else K true := fun K => by
    have e : p23 fail fu K (Lv.rows [l]) = p23_1L fail fu K (Lv.rows [l]) (m + 2) 0 := by rw [p23, hm]
    have g0 : ∀ q : Int → Int → EL → ρ, rw_i64_i64_l3 fail (List.getD (Lv.rows [l]) (((0 : Nat) : Int)).toNat []) q = q l.k l.n (Lv.rows l.args) := fun q => lv_row fail [l] 0 (by simp) q
    rw [e, p23_1L, p23_1, Lv.rows_len, lssT (by simp), cond_true, gd_y (by omega), gd_y (by simp), show (0 : Int) = ((0 : Nat) : Int) from rfl, g0, h1]
    cases b with
    | false => rfl
    | true => rw [Bool.not_true, cond_false, cond_false, addZ (by omega) (by omega), p23_1L, p23_1, Lv.rows_len, lssF (by simp), cond_false]
  cases b with
  | true => exact ⟨true, fun K => by dsimp only; rw [hl, h3]; rfl, h2⟩
  | false => exact ⟨false, fun K => by dsimp only; rw [hl, h3]; rfl, fun h => by cases h⟩
theorem codecWrites_pure (b : List UInt8) (l : Lv) (t : Tm) (d : Dc) :
    p5 (ρ := Prop) False 10000000 (fun y => y = true) (encB b) l.k l.n (Lv.rows l.args) t.k t.n t.nm (Lv.rows t.ls) (Tm.rows t.args) d.k d.pa d.ct d.nm d.fam d.ty.k d.ty.n d.ty.nm (Lv.rows d.ty.ls) (Tm.rows d.ty.args) d.val.k d.val.n d.val.nm (Lv.rows d.val.ls) (Tm.rows d.val.args) (d.cs.map ctRow) := by
  rw [p5, begun6_10000000, Bool.not_true, cond_false, encB_length]
  by_cases h0 : 1000 < b.length
  · rw [gtrT (by omega), cond_true, p5_3, cond_true]
  rw [gtrF (by omega), cond_false, gd_y (by simp)]
  obtain ⟨b1, h1, k1⟩ := light_eq (ρ := Prop) False 10000000 (by omega) l
  dsimp only at h1
  rw [h1]
  cases b1 with
  | false => rw [Bool.not_false, cond_true, p5_3, cond_true]
  | true =>
  obtain ⟨b2, h2, k2⟩ := mayTerm_eq (ρ := Prop) False 10000000 (by omega) t
  dsimp only at h2
  rw [Bool.not_true, cond_false, h2]
  cases b2 with
  | false => rw [Bool.not_false, cond_true, p5_3, cond_true]
  | true =>
  obtain ⟨b3, h3, k3⟩ := mayDecl_eq (ρ := Prop) False 10000000 (by omega) d
  dsimp only at h3
  rw [Bool.not_true, cond_false, h3]
  cases b3 with
  | false => rw [Bool.not_false, p5_3, cond_true]
  | true =>
  obtain ⟨lg, lp⟩ := k1 rfl
  obtain ⟨tg, tp⟩ := k2 rfl
  have dg : d.good := k3 rfl
  obtain ⟨ds, de⟩ := Dc.good_sz dg
  obtain ⟨_, _, _, _, ⟨d1, _⟩, d2, _, d3⟩ := dg
  have ls := Lv.sz_parts l
  have le := Lv.enc_sz l
  have ts := good_sz 100 t tg
  have te := Tm.enc_sz t (by omega)
  have e1 := fun K => codecLevel_eq (ρ := Prop) False 10000000 K b l (by omega) (by omega) (by omega)
  have e2 := fun K => codecTerm_eq (ρ := Prop) False 10000000 K b t (by omega) (by omega) (by omega)
  have e3 := fun K => codecDecl_eq (ρ := Prop) False 10000000 K b d (by omega) (by omega) (by omega)
  have f1 := fun K => rlevel_w (ρ := Prop) False _ l (Nat.le_refl _) 10000000 K (encB b) (by omega) (by omega) (by rw [encB_length]; omega)
  have f2 := fun K => rterm_w (ρ := Prop) False _ t (Nat.le_refl _) (good_lv 100 t tg) 10000000 K (encB b) (by omega) (by omega) (by rw [encB_length]; omega)
  have f3 := fun K => rdecl_w (ρ := Prop) False 10000000 K d (good_lv 100 _ d1) (fun h => by
    rcases d2 with ⟨_, v, _⟩ | ⟨v, _⟩
    · exact good_lv 100 _ v
    · exact absurd h v) (fun c hc => good_lv 100 _ (d3 c hc).2.1) (by omega) (by omega) (encB b) (by rw [encB_length]; omega)
  rw [← encB_append] at f1 f2 f3
  generalize b ++ l.enc = E1 at e1 f1
  generalize b ++ t.enc = E2 at e2 f2
  generalize b ++ d.enc = E3 at e3 f3
  rw [Bool.not_true, p5_3, cond_false, twin_w _ _ (by omega) _ b (by omega), gd_y (by rw [twin_len]; omega), gd_y (u8E_enc _), twin_take, e1, gd_y (safeT_enc _), gd_y (by rw [twin_len]; omega), gd_y (u8E_enc _), e2, gd_y (safeT_enc _), gd_y (by rw [twin_len]; omega), gd_y (u8E_enc _), e3, gd_y (safeT_enc _),
    tobP_enc, f1, tobP_enc, scmp_refl, cond_true, tobP_enc, f2, tobP_enc, scmp_refl, cond_true, tobP_enc, f3, tobP_enc, scmp_refl, cond_true,
    gd_y (by rw [twin_len]; omega), gd_y (u8E_enc _), gd_y (by rw [twin_len]), gd_y (by rw [twin_len]; omega), twin_drop, kept_w _ _ (by omega) _ b (by omega), p5_2, cond_true,
    gd_y (by rw [twin_len]; omega), gd_y (u8E_enc _), gd_y (by rw [twin_len]), gd_y (by rw [twin_len]; omega), twin_take, twin_drop, kept_w _ _ (by omega) _ b (by omega), p5_1]
end Go.Proofs.Ythncmjlcmlmnmaa

namespace Go.Proofs.Ythncmjlcmlmnmaa.V
open Go Go.RowKit Go.ChangeShapes

/-- A row of types, one behind the other. -/
def contig (P : Program) : Nat → List Field → Nat → Bool
  | o, [], e => o == e
  | o, f :: fs, e => f.offset == o && contig P (o + P.cellsOf f.type) fs e
/-- A list of types that lean on each other alone. -/
def closedT (P : Program) (l : List TypeId) : Bool := l.all fun t => match P.underlying t with
  | some .bool | some (.int _) | some .string => true
  | some (.slice e) => l.contains e && decide (0 < P.cellsOf e)
  | some (.struct fs) => fs.toList.all (fun f => l.contains f.type) && contig P 0 fs.toList (P.cellsOf t)
  | _ => false

/-- What a type's row of closed values looks like. -/
def ShpL (shp : TypeId → List CV → Prop) : List TypeId → List CV → Prop
  | [], ys => ys = []
  | t :: ts, ys => ∃ a b, ys = a ++ b ∧ shp t a ∧ ShpL shp ts b
def Shp (P : Program) : Nat → TypeId → List CV → Prop
  | 0, _, _ => False
  | n + 1, t, ys => match P.underlying t with
    | some .bool => ∃ b, ys = [.v (.bool b)]
    | some (.int k) => ∃ z, ys = [.v (.int k z)] ∧ (Lit.int k z).wf = true
    | some .string => ∃ s : ByteArray, ys = [.v (.string s)] ∧ s.size ≤ maxLen
    | some (.slice e) => ∃ es : List (List CV), ys = [.sl (P.cellsOf e) es none] ∧ es.length ≤ maxLen ∧ ∀ r ∈ es, Shp P n e r
    | some (.struct fs) => ShpL (Shp P n) (fs.toList.map (·.type)) ys
    | _ => False

section
variable {H : Type} {enc : TypeId × Value → H} {P : Program} {w : World} {base : Nat} {spare : Nat → Bool} {held : Bool}

/-- A row of cells reads as a row of closed values. -/
def RowR (w : World) (ys : List CV) (cs : List Value) : Prop := ys.length = cs.length ∧ ∀ (i : Nat) y u, ys[i]? = some y → cs[i]? = some u → RelC (allS w) w y u

theorem RowR.append {w : World} {a b : List CV} {c d : List Value} (h : RowR w a c) (k : RowR w b d) : RowR w (a ++ b) (c ++ d) := by
  refine ⟨by simp [h.1, k.1], fun i y u hy hu => ?_⟩
  rw [List.getElem?_append] at hy hu
  rw [h.1] at hy
  split at hy
  · rename_i hi; rw [if_pos hi] at hu; exact h.2 i y u hy hu
  · rename_i hi; rw [if_neg hi] at hu; exact k.2 _ y u hy hu

theorem cell_in {w : World} {a : Addr} {v : Value} (h : w.cell? a = some v) : a.block < w.heap.size ∧ a.spot = none := by
  unfold World.cell? at h
  split at h
  · rename_i hh
    refine ⟨(Array.getElem?_eq_some_iff.1 hh).1, ?_⟩
    split at h
    · simp at h
    · rename_i hs; simpa using hs
  · simp at h

theorem fields_row {n : Nat} (cs : List Value) : ∀ (fs : List Field) (o : Nat), contig P o fs cs.length = true →
    (∀ f ∈ fs, ∃ ys, RowR w ys ((cs.drop f.offset).take (P.cellsOf f.type)) ∧ Shp P n f.type ys) → ∃ ys, RowR w ys (cs.drop o) ∧ ShpL (Shp P n) (fs.map (·.type)) ys
  | [], o, hc, _ => by
    simp [contig] at hc
    exact ⟨[], ⟨by simp [hc], by simp⟩, rfl⟩
  | f :: fs, o, hc, hf => by
    simp only [contig, Bool.and_eq_true, beq_iff_eq] at hc
    obtain ⟨ho, hc⟩ := hc
    obtain ⟨a, ha, sa⟩ := hf f (by simp)
    obtain ⟨b, hb, sb⟩ := fields_row cs fs _ hc (fun g hg => hf g (by simp [hg]))
    rw [ho] at ha
    refine ⟨a ++ b, ?_, a, b, rfl, sa, sb⟩
    have := ha.append hb
    rwa [← List.drop_drop, List.take_append_drop] at this

theorem trod_closed {l : List TypeId} (hl : closedT P l = true) : ∀ (n : Nat) (t : TypeId) (cs : List Value) (x : DataW H × List MemPlace), t ∈ l → DataW.trod enc P w base spare held n t cs = some x →
    ∃ ys, RowR w ys cs ∧ Shp P n t ys := by
  intro n
  induction n with
  | zero => intro t cs x _ h; simp [DataW.trod] at h
  | succ n ih =>
    intro t cs x ht h
    have hc := List.all_eq_true.1 hl t ht
    split at hc
    · rename_i hu
      obtain ⟨b, rfl, rfl⟩ := DataW.trod_bool hu h
      refine ⟨[.v (.bool b)], ⟨rfl, fun i y u hy hu => ?_⟩, ?_⟩
      · match i with
        | 0 => simp at hy hu; subst hy; subst hu; exact .v _ rfl
        | i + 1 => simp at hy
      · simp [Shp, hu]
    · rename_i k hu
      obtain ⟨z, rfl, rfl, hw⟩ := DataW.trod_int hu h
      refine ⟨[.v (.int k z)], ⟨rfl, fun i y u hy hu => ?_⟩, ?_⟩
      · match i with
        | 0 => simp at hy hu; subst hy; subst hu; exact .v _ rfl
        | i + 1 => simp at hy
      · simp [Shp, hu, hw]
    · rename_i hu
      obtain ⟨s, rfl, rfl, hw⟩ := DataW.trod_string hu h
      refine ⟨[.v (.string s)], ⟨rfl, fun i y u hy hu => ?_⟩, ?_⟩
      · match i with
        | 0 => simp at hy hu; subst hy; subst hu; exact .v _ rfl
        | i + 1 => simp at hy
      · simp [Shp, hu, hw]
    · rename_i e hu
      simp only [Bool.and_eq_true, List.contains_iff_mem, decide_eq_true_eq] at hc
      rcases DataW.trod_slice hu h with ⟨rfl, rfl⟩ | ⟨a, len, cap, elems, rest, n', hn, rfl, rfl, hb, hle, hm, hlen, hel, _, _⟩
      · refine ⟨[.sl (P.cellsOf e) [] none], ⟨rfl, fun i y u hy hu' => ?_⟩, ?_⟩
        · match i with
          | 0 => simp at hy hu'; subst hy; subst hu'; exact .sl _ [] none none 0 0 0 (fun _ => .nilIface) (by simp) (by simp) (by simp) (by simp) (by simp) (by simp) (by simp)
          | i + 1 => simp at hy
        · simp [Shp, hu]
      · injection hn with hn; subst hn
        have each : ∀ i, i < len → ∃ r cs', World.cells? w base (a.add (i * P.cellsOf e)) (P.cellsOf e) = some cs' ∧ RowR w r cs' ∧ Shp P n e r := fun i hi => by
          have h1 := hel i hi
          rw [List.getElem?_eq_getElem (by omega), Option.bind_eq_some_iff] at h1
          obtain ⟨cs', hcs, hy⟩ := h1
          obtain ⟨r, hr, hs⟩ := ih e cs' _ hc.1 hy
          exact ⟨r, cs', hcs, hr, hs⟩
        have hex : ∃ g : Nat → List CV, ∀ i, i < len → ∃ cs', World.cells? w base (a.add (i * P.cellsOf e)) (P.cellsOf e) = some cs' ∧ RowR w (g i) cs' ∧ Shp P n e (g i) := by
          refine ⟨fun i => if hi : i < len then (each i hi).choose else [], fun i hi => ?_⟩
          obtain ⟨cs', h1⟩ := (each i hi).choose_spec
          refine ⟨cs', ?_⟩
          simp only [hi, dif_pos]
          exact h1
        obtain ⟨g, hg⟩ := hex
        have hget : ∀ (i : Nat) r, ((List.range len).map g)[i]? = some r → i < len ∧ r = g i := fun i r hr => by
          have hi : i < len := by have := (List.getElem?_eq_some_iff.1 hr).1; simpa using this
          refine ⟨hi, ?_⟩
          simpa [List.getElem?_map, List.getElem?_range hi] using hr.symm
        have hrl : ∀ i, i < len → (g i).length = P.cellsOf e := fun i hi => by
          obtain ⟨cs', h1, h2, _⟩ := hg i hi
          rw [h2.1, (World.cells?_some h1).2.1]
        have hcell : ∀ i j, i < len → j < P.cellsOf e → ∃ u, w.cell? ((a.add (i * P.cellsOf e)).add j) = some u ∧ ∃ y, (g i)[j]? = some y ∧ RelC (allS w) w y u := fun i j hi hj => by
          obtain ⟨cs', h1, h2, _⟩ := hg i hi
          obtain ⟨_, h3, h4⟩ := World.cells?_some h1
          obtain ⟨y, hy⟩ : ∃ y, (g i)[j]? = some y := ⟨_, List.getElem?_eq_getElem (by rw [hrl i hi]; exact hj)⟩
          obtain ⟨v, hv⟩ : ∃ v, cs'[j]? = some v := ⟨_, List.getElem?_eq_getElem (by rw [h3]; exact hj)⟩
          exact ⟨_, (h4 j hj).trans hv, _, hy, h2.2 j _ _ hy hv⟩
        have hspot : 0 < len → a.spot = none := fun h0 => by
          obtain ⟨u, hu', _⟩ := hcell 0 0 h0 hc.2
          simpa [Addr.add] using (cell_in hu').2
        have hadd : 0 < len → ∀ i j, (a.add (i * P.cellsOf e)).add j = ⟨a.block, a.off + (i * P.cellsOf e + j), none⟩ := fun h0 i j => by
          have hs := hspot h0
          obtain ⟨ab, ao, asp⟩ := a
          simp only at hs; subst hs
          unfold Addr.add
          by_cases h1 : i * P.cellsOf e = 0 <;> by_cases h2 : j = 0 <;> simp [h1, h2] <;> omega
        have hdiv : ∀ k, k < len * P.cellsOf e → k / P.cellsOf e < len ∧ k % P.cellsOf e < P.cellsOf e ∧ k / P.cellsOf e * P.cellsOf e + k % P.cellsOf e = k := fun k hk =>
          ⟨(Nat.div_lt_iff_lt_mul hc.2).2 hk, Nat.mod_lt _ hc.2, by rw [Nat.mul_comm]; exact Nat.div_add_mod _ _⟩
        have hall : ∀ k, k < len * P.cellsOf e → ∃ u, cellAt w a.block (a.off + k) = some u := fun k hk => by
          obtain ⟨h1, h2, h3⟩ := hdiv k hk
          obtain ⟨u, h4, _⟩ := hcell _ _ h1 h2
          rw [hadd (Nat.lt_of_le_of_lt (Nat.zero_le _) h1), h3] at h4
          exact ⟨u, h4⟩
        refine ⟨[.sl (P.cellsOf e) ((List.range len).map g) none], ⟨rfl, fun i y u hy hu' => ?_⟩, ?_⟩
        · match i with
          | i + 1 => simp at hy
          | 0 =>
            simp only [List.getElem?_cons_zero, Option.some.injEq] at hy hu'
            subst hy; subst hu'
            have hlen' : ((List.range len).map g).length = len := by simp
            have hgoal : RelC (allS w) w (.sl (P.cellsOf e) ((List.range len).map g) none) (.slice (some a) ((List.range len).map g).length cap) := by
              refine .sl _ _ none (some a) cap a.block a.off (fun k => (cellAt w a.block (a.off + k)).getD .nilIface) (by rw [hlen']; exact hle) (by simp) ?_ ?_ ?_ ?_ ?_
              · intro hne
                have h0 : 0 < len := by
                  cases len with
                  | zero => simp at hne
                  | succ _ => omega
                refine ⟨?_, hc.2⟩
                have := hspot h0
                obtain ⟨ab, ao, asp⟩ := a
                simp only at this; subst this; rfl
              · intro i r hr
                simp only [Option.getD_none, List.append_nil] at hr
                obtain ⟨hi, rfl⟩ := hget i r hr
                exact hrl i hi
              · intro k hk
                simp only [Option.getD_none, List.append_nil, hlen'] at hk
                obtain ⟨u, hu'⟩ := hall k hk
                exact (cell_in hu').1
              · intro k hk
                simp only [Option.getD_none, List.append_nil, hlen'] at hk
                obtain ⟨u, hu'⟩ := hall k hk
                show cellAt w a.block (a.off + k) = some ((cellAt w a.block (a.off + k)).getD .nilIface)
                rw [hu']; rfl
              · intro i j r y hr hy
                simp only [Option.getD_none, List.append_nil] at hr
                obtain ⟨hi, rfl⟩ := hget i r hr
                have hj : j < P.cellsOf e := by rw [← hrl i hi]; exact (List.getElem?_eq_some_iff.1 hy).1
                obtain ⟨u, h4, y', h5, h6⟩ := hcell i j hi hj
                rw [hy] at h5; injection h5 with h5; subst h5
                rw [hadd (by omega)] at h4
                show RelC (allS w) w y ((cellAt w a.block (a.off + (i * P.cellsOf e + j))).getD .nilIface)
                rw [show cellAt w a.block (a.off + (i * P.cellsOf e + j)) = some u from h4]
                exact h6
            rwa [hlen'] at hgoal
        · simp only [Shp, hu]
          refine ⟨_, rfl, by simp; omega, fun r hr => ?_⟩
          obtain ⟨i, hi, rfl⟩ := List.mem_map.1 hr
          obtain ⟨_, _, _, h5⟩ := hg i (List.mem_range.1 hi)
          exact h5
    · rename_i fs hu
      simp only [Bool.and_eq_true, List.all_eq_true, List.contains_iff_mem] at hc
      obtain ⟨xs, n', hn, rfl, hlen, hxl, hf⟩ := DataW.trod_struct hu h
      injection hn with hn; subst hn
      obtain ⟨ys, h1, h2⟩ := fields_row (P := P) (w := w) (n := n) cs fs.toList 0 (by rw [hlen]; exact hc.2) (fun f hfm => by
        obtain ⟨i, hi⟩ := List.getElem?_of_mem hfm
        have h3 := hf i f (by simpa using hi)
        have hi' : i < xs.length := by rw [hxl]; simpa using (List.getElem?_eq_some_iff.1 hi).1
        rw [List.getElem?_eq_getElem hi'] at h3
        exact ih f.type _ _ (hc.1 f hfm) h3)
      refine ⟨ys, by simpa using h1, ?_⟩
      simp only [Shp, hu]
      exact h2
    · simp at hc

/-- One argument. -/
theorem trod_own {l : List TypeId} (hl : closedT P l = true) {t : TypeId} (ht : t ∈ l) {v : Value} {d : DataW H} {ps : List MemPlace} (h : DataW.Trod enc P w base spare held t v d ps) (h1 : v.cells = #[v]) :
    ∃ n y, RelC (allS w) w y v ∧ Shp P n t [y] := by
  obtain ⟨n, h⟩ := h
  rw [h1] at h
  obtain ⟨ys, hr, hs⟩ := trod_closed hl n t _ _ ht h
  have hlen := hr.1
  match ys, hlen with
  | [y], _ => exact ⟨n, y, hr.2 0 y v rfl rfl, hs⟩
/-- One argument, a struct. -/
theorem trod_own_agg {l : List TypeId} (hl : closedT P l = true) {t : TypeId} (ht : t ∈ l) {vs : Array Value} {d : DataW H} {ps : List MemPlace} (h : DataW.Trod enc P w base spare held t (.agg vs) d ps) :
    ∃ n ys, RowR w ys vs.toList ∧ Shp P n t ys := by
  obtain ⟨n, h⟩ := h
  obtain ⟨ys, hr, hs⟩ := trod_closed hl n t _ _ ht h
  exact ⟨n, ys, hr, hs⟩
end
/-- What a call that writes nothing old leaves below. -/
theorem Ext.below {w w' : World} (h : Ext (fun _ _ => False) w w') : Below w.heap.size w w' := ⟨h.os, h.tape, h.output, h.size, fun k hk => h.obj k hk (fun _ q => q)⟩
end Go.Proofs.Ythncmjlcmlmnmaa.V

namespace Go.Proofs.Ythncmjlcmlmnmaa
open Go V
open Go.ChangeShapes Go.WideShapes Go.ChangeAt Go.RowKit
theorem Try.own : ownKnob Try.prog.godebug = none := by kernel_rfl
theorem Try.laidOut : laidOutB Try.prog = true := by kernel_rfl
set_option maxRecDepth 100000
theorem u8_of {n : Int} (h : (Lit.int .u8 n).wf = true) : 0 ≤ n ∧ n ≤ 255 := by
  have h' : (decide (IntKind.u8.min ≤ n) && decide (n ≤ IntKind.u8.max)) = true := h
  have h1 : IntKind.u8.min = 0 := by decide
  have h2 : IntKind.u8.max = 255 := by decide
  rw [Bool.and_eq_true, h1, h2] at h'
  exact ⟨of_decide_eq_true h'.1, of_decide_eq_true h'.2⟩
theorem bytes_of : ∀ (es : List (List CV)), (∀ r ∈ es, ∃ z, r = [.v (.int .u8 z)] ∧ (Lit.int .u8 z).wf = true) → ∃ bs : List UInt8, es = encB bs
  | [], _ => ⟨[], rfl⟩
  | r :: es, h => by
    obtain ⟨z, hz, hw⟩ := h r (by simp)
    obtain ⟨bs, hbs⟩ := bytes_of es (fun r hr => h r (by simp [hr]))
    have h1 := u8_of hw
    refine ⟨UInt8.ofNat z.toNat :: bs, ?_⟩
    rw [hz, hbs, encB_cons]
    have : (UInt8.ofNat z.toNat).toNat = z.toNat := by simp; omega
    rw [this, show ((z.toNat : Nat) : Int) = z by omega]
section
variable {H : Type} {enc : TypeId × Value → H} {w : World} {base : Nat} {spare : Nat → Bool} {held : Bool}
theorem cells_slice {t e : TypeId} {v : Value} {r : Reach} (hu : Try.prog.underlying t = some (.slice e)) (hv : Value.okWide Try.prog w r base t v) : v.cells = #[v] := by
  unfold Value.okWide at hv
  rw [hu] at hv
  unfold Cell.okWide at hv
  rw [hu] at hv
  unfold Cell.ok at hv
  rw [hu] at hv
  cases v <;> first | rfl | exact hv.elim
theorem bytes_arg {v : Value} {r : Reach} {d : DataW H} {ps : List MemPlace} {base' : Nat} (hv : Value.okWide Try.prog w r base' 24 v) (h : DataW.Trod enc Try.prog w base spare held 24 v d ps) :
    ∃ bs : List UInt8, RelC (allS w) w (.sl 1 (encB bs) none) v ∧ bs.length ≤ maxLen := by
  have hu : Try.prog.underlying 24 = some (.slice 5) := by kernel_rfl
  have hu8 : Try.prog.underlying 5 = some (.int .u8) := by kernel_rfl
  have hc1 : Try.prog.cellsOf 5 = 1 := by kernel_rfl
  obtain ⟨n, y, hr, hs⟩ := trod_own (l := [5, 24]) (by kernel_rfl) (by simp) h (cells_slice hu hv)
  cases n with
  | zero => exact hs.elim
  | succ n =>
    simp only [Shp, hu] at hs
    obtain ⟨es, he, hl, hall⟩ := hs
    injection he with he _
    subst he
    obtain ⟨bs, rfl⟩ := bytes_of es (fun r hr => by
      have := hall r hr
      cases n with
      | zero => exact this.elim
      | succ n => simp only [Shp, hu8] at this; exact this)
    rw [hc1] at hr
    exact ⟨bs, hr, by simpa using hl⟩
end
end Go.Proofs.Ythncmjlcmlmnmaa

namespace Go.Proofs.Ythncmjlcmlmnmaa
open Go V
open Go.ChangeShapes Go.WideShapes Go.ChangeAt Go.RowKit
set_option maxRecDepth 100000
def fldOf (P : Program) (t : TypeId) : List TypeId := match P.underlying t with
  | some (.struct fs) => fs.toList.map (·.type)
  | _ => []
theorem shp_struct {n : Nat} {t : TypeId} {ys : List CV} {l : List TypeId} (h : Shp Try.prog (n + 1) t ys) (hk : (match Try.prog.underlying t with | some (.struct _) => true | _ => false) = true) (hl : fldOf Try.prog t = l) : ShpL (Shp Try.prog n) l ys := by
  subst hl
  unfold fldOf
  simp only [Shp] at h
  split at hk
  · rename_i fs hu
    rw [hu] at h
    exact h
  · cases hk
theorem shp_int {n : Nat} {t : TypeId} {ys : List CV} (hu : Try.prog.underlying t = some (.int .i64)) (h : Shp Try.prog n t ys) : ∃ z : Int, ys = [.v (.int .i64 z)] := by
  cases n with
  | zero => exact h.elim
  | succ n => simp only [Shp, hu] at h; obtain ⟨z, hz, _⟩ := h; exact ⟨z, hz⟩
theorem shp_string {n : Nat} {t : TypeId} {ys : List CV} (hu : Try.prog.underlying t = some .string) (h : Shp Try.prog n t ys) : ∃ z : ByteArray, ys = [.v (.string z)] := by
  cases n with
  | zero => exact h.elim
  | succ n => simp only [Shp, hu] at h; obtain ⟨z, hz, _⟩ := h; exact ⟨z, hz⟩
theorem shp_slice {n : Nat} {t e : TypeId} {c : Nat} {ys : List CV} (hu : Try.prog.underlying t = some (.slice e)) (hc : Try.prog.cellsOf e = c) (h : Shp Try.prog n t ys) : ∃ m es, n = m + 1 ∧ ys = [.sl c es none] ∧ ∀ r ∈ es, Shp Try.prog m e r := by
  cases n with
  | zero => exact h.elim
  | succ n => simp only [Shp, hu, hc] at h; obtain ⟨es, h1, _, h2⟩ := h; exact ⟨n, es, rfl, h1, h2⟩
theorem lv_rows_of : ∀ (es : EL), (∀ r ∈ es, ∃ l : Lv, r = l.row) → ∃ ls, es = Lv.rows ls
  | [], _ => ⟨[], rfl⟩
  | r :: es, h => by
    obtain ⟨l, hl⟩ := h r (by simp)
    obtain ⟨ls, hls⟩ := lv_rows_of es fun r hr => h r (by simp [hr])
    exact ⟨l :: ls, by rw [hl, hls, Lv.rows]⟩
theorem tm_rows_of : ∀ (es : EL), (∀ r ∈ es, ∃ l : Tm, r = l.row) → ∃ ls, es = Tm.rows ls
  | [], _ => ⟨[], rfl⟩
  | r :: es, h => by
    obtain ⟨l, hl⟩ := h r (by simp)
    obtain ⟨ls, hls⟩ := tm_rows_of es fun r hr => h r (by simp [hr])
    exact ⟨l :: ls, by rw [hl, hls, Tm.rows]⟩
theorem un_int : Try.prog.underlying 3 = some (.int .i64) := by kernel_rfl
theorem un_string : Try.prog.underlying 9 = some .string := by kernel_rfl
theorem un_levels : Try.prog.underlying 26 = some (.slice 40) := by kernel_rfl
theorem un_terms : Try.prog.underlying 25 = some (.slice 28) := by kernel_rfl
theorem ce_level : Try.prog.cellsOf 40 = 3 := by kernel_rfl
theorem ce_term : Try.prog.cellsOf 28 = 5 := by kernel_rfl
theorem fl_level : fldOf Try.prog 40 = [3, 3, 26] := by kernel_rfl
theorem fl_term : fldOf Try.prog 28 = [3, 3, 9, 26, 25] := by kernel_rfl
theorem shp_level : ∀ (n : Nat) (ys : List CV), Shp Try.prog n 40 ys → ∃ l : Lv, ys = l.row := by
  intro n
  induction n using Nat.strongRecOn with
  | ind n ih =>
    intro ys h
    cases n with
    | zero => exact h.elim
    | succ n =>
      obtain ⟨a, b, rfl, ha, c, d, rfl, hc, e, f, rfl, he, rfl⟩ := shp_struct h (by kernel_rfl) fl_level
      obtain ⟨k, rfl⟩ := shp_int un_int ha
      obtain ⟨m, rfl⟩ := shp_int un_int hc
      obtain ⟨q, es, rfl, rfl, hes⟩ := shp_slice un_levels ce_level he
      obtain ⟨ls, rfl⟩ := lv_rows_of es fun r hr => ih q (by omega) r (hes r hr)
      exact ⟨.mk k m ls, by rw [Lv.row]; rfl⟩
theorem shp_levels {n : Nat} {ys : List CV} (h : Shp Try.prog n 26 ys) : ∃ ls : List Lv, ys = [.sl 3 (Lv.rows ls) none] := by
  obtain ⟨q, es, rfl, rfl, hes⟩ := shp_slice un_levels ce_level h
  obtain ⟨ls, rfl⟩ := lv_rows_of es fun r hr => shp_level q r (hes r hr)
  exact ⟨ls, rfl⟩
theorem shp_term : ∀ (n : Nat) (ys : List CV), Shp Try.prog n 28 ys → ∃ t : Tm, ys = t.row := by
  intro n
  induction n using Nat.strongRecOn with
  | ind n ih =>
    intro ys h
    cases n with
    | zero => exact h.elim
    | succ n =>
      obtain ⟨a, b, rfl, ha, c, d, rfl, hc, e, f, rfl, he, g, i, rfl, hg, j, k, rfl, hj, rfl⟩ := shp_struct h (by kernel_rfl) fl_term
      obtain ⟨k, rfl⟩ := shp_int un_int ha
      obtain ⟨m, rfl⟩ := shp_int un_int hc
      obtain ⟨s, rfl⟩ := shp_string un_string he
      obtain ⟨ls, rfl⟩ := shp_levels hg
      obtain ⟨q, es, rfl, rfl, hes⟩ := shp_slice un_terms ce_term hj
      obtain ⟨ts, rfl⟩ := tm_rows_of es fun r hr => ih q (by omega) r (hes r hr)
      exact ⟨.mk k m s ls ts, by rw [Tm.row]; rfl⟩
end Go.Proofs.Ythncmjlcmlmnmaa

namespace Go.Proofs.Ythncmjlcmlmnmaa
open Go V
open Go.ChangeShapes Go.WideShapes Go.ChangeAt Go.RowKit
set_option maxRecDepth 100000
/-- The types that levels, terms, declarations lean on. -/
def dcTys : List TypeId := [3, 9, 25, 26, 46, 28, 40, 103, 48]
theorem dcTys_closed : closedT Try.prog dcTys = true := by kernel_rfl
theorem un_ctors : Try.prog.underlying 46 = some (.slice 103) := by kernel_rfl
theorem ce_ctor : Try.prog.cellsOf 103 = 6 := by kernel_rfl
theorem fl_ctor : fldOf Try.prog 103 = [9, 28] := by kernel_rfl
theorem fl_decl : fldOf Try.prog 48 = [3, 3, 3, 9, 9, 28, 28, 46] := by kernel_rfl
theorem shp_ctor {n : Nat} {ys : List CV} (h : Shp Try.prog n 103 ys) : ∃ c : ByteArray × Tm, ys = ctRow c := by
  cases n with
  | zero => exact h.elim
  | succ n =>
    obtain ⟨a, b, rfl, ha, c, d, rfl, hc, rfl⟩ := shp_struct h (by kernel_rfl) fl_ctor
    obtain ⟨s, rfl⟩ := shp_string un_string ha
    obtain ⟨t, rfl⟩ := shp_term _ _ hc
    exact ⟨(s, t), by rw [ctRow, Tm.row_eq]; rfl⟩
theorem ct_rows_of : ∀ (es : EL), (∀ r ∈ es, ∃ c : ByteArray × Tm, r = ctRow c) → ∃ ls : List (ByteArray × Tm), es = ls.map ctRow
  | [], _ => ⟨[], rfl⟩
  | r :: es, h => by
    obtain ⟨l, hl⟩ := h r (by simp)
    obtain ⟨ls, hls⟩ := ct_rows_of es fun r hr => h r (by simp [hr])
    exact ⟨l :: ls, by rw [hl, hls, List.map_cons]⟩
theorem shp_ctors {n : Nat} {ys : List CV} (h : Shp Try.prog n 46 ys) : ∃ ls : List (ByteArray × Tm), ys = [.sl 6 (ls.map ctRow) none] := by
  obtain ⟨q, es, rfl, rfl, hes⟩ := shp_slice un_ctors ce_ctor h
  obtain ⟨ls, rfl⟩ := ct_rows_of es fun r hr => shp_ctor (hes r hr)
  exact ⟨ls, rfl⟩
/-- A declaration's cells. -/
def Dc.row (d : Dc) : List CV := [.v (.int .i64 d.k), .v (.int .i64 d.pa), .v (.int .i64 d.ct), .v (.string d.nm), .v (.string d.fam), .v (.int .i64 d.ty.k), .v (.int .i64 d.ty.n), .v (.string d.ty.nm), .sl 3 (Lv.rows d.ty.ls) none, .sl 5 (Tm.rows d.ty.args) none, .v (.int .i64 d.val.k), .v (.int .i64 d.val.n), .v (.string d.val.nm), .sl 3 (Lv.rows d.val.ls) none, .sl 5 (Tm.rows d.val.args) none, .sl 6 (d.cs.map ctRow) none]
theorem shp_decl {n : Nat} {ys : List CV} (h : Shp Try.prog n 48 ys) : ∃ d : Dc, ys = d.row := by
  cases n with
  | zero => exact h.elim
  | succ n =>
    obtain ⟨a0, b0, rfl, h0, a1, b1, rfl, h1, a2, b2, rfl, h2, a3, b3, rfl, h3, a4, b4, rfl, h4, a5, b5, rfl, h5, a6, b6, rfl, h6, a7, b7, rfl, h7, rfl⟩ := shp_struct h (by kernel_rfl) fl_decl
    obtain ⟨k, rfl⟩ := shp_int un_int h0
    obtain ⟨pa, rfl⟩ := shp_int un_int h1
    obtain ⟨ct, rfl⟩ := shp_int un_int h2
    obtain ⟨nm, rfl⟩ := shp_string un_string h3
    obtain ⟨fam, rfl⟩ := shp_string un_string h4
    obtain ⟨ty, rfl⟩ := shp_term _ _ h5
    obtain ⟨val, rfl⟩ := shp_term _ _ h6
    obtain ⟨cs, rfl⟩ := shp_ctors h7
    exact ⟨⟨k, pa, ct, nm, fam, ty, val, cs⟩, by rw [Dc.row, Tm.row_eq, Tm.row_eq]; rfl⟩
theorem agg_of {t : TypeId} {v : Value} {r : Reach} {base : Nat} {w : World} (h : Value.okWide Try.prog w r base t v) (hk : (match Try.prog.underlying t with | some (.struct _) => true | _ => false) = true) : ∃ vs, v = .agg vs := by
  split at hk
  · rename_i fs hus
    obtain ⟨vs, h4, _⟩ := okWide_struct hus h
    exact ⟨vs, h4⟩
  · cases hk
theorem own_agg {W : World} {ys : List CV} {vs : Array Value} (hr : RowR W ys vs.toList) : ∃ F, Own (allS W) W F (.agg (ys.map .c)) (.agg vs) ∧ ∀ b o, ¬ F b o := by
  obtain ⟨F, hF, hno⟩ := own_closed (S := allS W) (w := W) (F := fun _ _ => False) _ vs.toList hr.1.symm hr.2
  have h1 := Own.agg _ _ _ hF
  rw [Array.toArray_toList] at h1
  exact ⟨F, h1, hno⟩
end Go.Proofs.Ythncmjlcmlmnmaa

