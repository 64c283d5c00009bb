/- Functions without memory, and that the Go functions are followed by them. Printed by gen.py. Conditions: none. -/
import Derived.Test.YthncmjlcmlmnmaaCR9
import Derived.Test.YthncmjlcmlmnmaaCR14
namespace Go.Proofs.Ythncmjlcmlmnmaa
open Go V
set_option maxRecDepth 100000
set_option maxHeartbeats 4000000
def p114_1 {ρ : Type} (fail : ρ) (fu : Nat) (s_p114 : (Int → Int → EL → EL → Int → Int → Int → ρ) → EL → Int → Int → Int → Int → ρ) (K0 : Int → Int → EL → EL → Int → Int → Int → ρ) (rec1 : EL → Int → Int → Int → EL → Int → ρ) (x3 : Int) (y7 : Int) (j15 : Int) (z17 : EL) (z18 : Int) (z19 : Int) (z20 : Int) (z21 : EL) (z22 : Int) (j23 : Bool) : ρ :=
  bif j23 then (s_p114 (fun y24 y25 y26 y27 y28 y29 y30 => gd (1 ≤ [[(CV.v (.int .i64 y24)), (CV.v (.int .i64 y25)), (CV.sl 3 y26 none)]].length) fail (gd ((z21.length + (List.take 1 [[(CV.v (.int .i64 y24)), (CV.v (.int .i64 y25)), (CV.sl 3 y26 none)]]).length) * 40 ≤ 35184372088832) fail (rec1 y27 y28 y29 y30 (z21 ++ (List.take 1 [[(CV.v (.int .i64 y24)), (CV.v (.int .i64 y25)), (CV.sl 3 y26 none)]])) (binStd .add .i64 z22 1)))) z17 z18 z19 (binStd .add .i64 x3 1) z20) else (K0 y7 j15 z21 z17 z18 z19 z20)
def p114_2 {ρ : Type} (fail : ρ) (fu : Nat) (s_p114 : (Int → Int → EL → EL → Int → Int → Int → ρ) → EL → Int → Int → Int → Int → ρ) (K0 : Int → Int → EL → EL → Int → Int → Int → ρ) (rec1 : EL → Int → Int → Int → EL → Int → ρ) (x3 : Int) (y7 : Int) (j15 : Int) (j16 : Int) (z17 : EL) (z18 : Int) (z19 : Int) (z20 : Int) (z21 : EL) (z22 : Int) : ρ :=
  bif (cmpStd .lss z22 j16) then (p114_1 fail fu s_p114 K0 rec1 x3 y7 j15 z17 z18 z19 z20 z21 z22 (cmpStd .eql z19 0)) else (p114_1 fail fu s_p114 K0 rec1 x3 y7 j15 z17 z18 z19 z20 z21 z22 false)
def p114_2L {ρ : Type} (fail : ρ) (fu : Nat) (s_p114 : (Int → Int → EL → EL → Int → Int → Int → ρ) → EL → Int → Int → Int → Int → ρ) (K0 : Int → Int → EL → EL → Int → Int → Int → ρ)  (x3 : Int) (y7 : Int) (j15 : Int) (j16 : Int) : Nat → EL → Int → Int → Int → EL → Int → ρ
  | 0, _, _, _, _, _, _ => fail
  | n + 1, z17, z18, z19, z20, z21, z22 => p114_2 fail fu s_p114 K0 (p114_2L fail fu s_p114 K0  x3 y7 j15 j16 n) x3 y7 j15 j16 z17 z18 z19 z20 z21 z22
def p114_3 {ρ : Type} (fail : ρ) (fu : Nat) (s_p114 : (Int → Int → EL → EL → Int → Int → Int → ρ) → EL → Int → Int → Int → Int → ρ) (K0 : Int → Int → EL → EL → Int → Int → Int → ρ)  (x3 : Int) (y7 : Int) (j11 : EL) (j12 : Int) (j13 : Int) (j14 : Int) (j15 : Int) (j16 : Int) : ρ :=
  p114_2L fail fu s_p114 K0 x3 y7 j15 j16 fu j11 j12 j13 j14 nilE 0
def p114_4 {ρ : Type} (fail : ρ) (fu : Nat) (s_p114 : (Int → Int → EL → EL → Int → Int → Int → ρ) → EL → Int → Int → Int → Int → ρ) (K0 : Int → Int → EL → EL → Int → Int → Int → ρ)  (x3 : Int) (y7 : Int) (j31 : Int) (j33 : EL) (j34 : Int) (j35 : Int) (j36 : Int) (j37 : Int) : ρ :=
  p114_3 fail fu s_p114 K0 x3 y7 j33 j34 j35 j31 j36 j37
def p114_5 {ρ : Type} (fail : ρ) (fu : Nat) (s_p114 : (Int → Int → EL → EL → Int → Int → Int → ρ) → EL → Int → Int → Int → Int → ρ) (K0 : Int → Int → EL → EL → Int → Int → Int → ρ)  (x3 : Int) (y7 : Int) (j31 : Int) (j38 : EL) (j39 : Int) (j40 : Int) (j41 : Int) : ρ :=
  p114_4 fail fu s_p114 K0 x3 y7 j31 j38 j39 j40 j41 0
def p114_6 {ρ : Type} (fail : ρ) (fu : Nat) (s_p114 : (Int → Int → EL → EL → Int → Int → Int → ρ) → EL → Int → Int → Int → Int → ρ) (K0 : Int → Int → EL → EL → Int → Int → Int → ρ)  (x3 : Int) (y7 : Int) (j31 : Int) (y42 : Int) (j46 : EL) (j47 : Int) (j48 : Int) : ρ :=
  p114_5 fail fu s_p114 K0 x3 y7 j31 j46 j47 j48 y42
def p114_7 {ρ : Type} (fail : ρ) (fu : Nat) (s_p114 : (Int → Int → EL → EL → Int → Int → Int → ρ) → EL → Int → Int → Int → Int → ρ) (K0 : Int → Int → EL → EL → Int → Int → Int → ρ)  (x3 : Int) (y7 : Int) (y8 : EL) (y9 : Int) (y10 : Int) (j31 : Int) (j32 : Bool) : ρ :=
  bif j32 then (p114_4 fail fu s_p114 K0 x3 y7 j31 y8 y9 y10 0 2) else (bif (cmpStd .eql y7 4) then (p96 fail fu (fun y42 y43 y44 y45 => bif (cmpStd .geq y42 4) then (p118 fail fu (fun y49 y50 y51 => p114_6 fail fu s_p114 K0 x3 y7 j31 y42 y49 y50 y51) y43 y44 y45 7) else (p114_6 fail fu s_p114 K0 x3 y7 j31 y42 y43 y44 y45)) y8 y9 y10) else (p114_5 fail fu s_p114 K0 x3 y7 j31 y8 y9 y10 0))
def p114_8 {ρ : Type} (fail : ρ) (fu : Nat) (s_p114 : (Int → Int → EL → EL → Int → Int → Int → ρ) → EL → Int → Int → Int → Int → ρ) (K0 : Int → Int → EL → EL → Int → Int → Int → ρ)  (x3 : Int) (x4 : Int) (j4 : EL) (j5 : Int) (j6 : Int) : ρ :=
  p117 fail fu (fun y7 y8 y9 y10 => bif (cmpStd .eql y7 1) then (p114_3 fail fu s_p114 K0 x3 y7 y8 y9 y10 (binStd .sub .i64 x4 1) 0 1) else (bif (cmpStd .eql y7 2) then (p114_7 fail fu s_p114 K0 x3 y7 y8 y9 y10 (binStd .sub .i64 x4 1) (cmpStd .eql y7 2)) else (p114_7 fail fu s_p114 K0 x3 y7 y8 y9 y10 (binStd .sub .i64 x4 1) (cmpStd .eql y7 3)))) j4 j5 j6 0 4
def p114_9 {ρ : Type} (fail : ρ) (fu : Nat) (s_p114 : (Int → Int → EL → EL → Int → Int → Int → ρ) → EL → Int → Int → Int → Int → ρ) (K0 : Int → Int → EL → EL → Int → Int → Int → ρ)  (x3 : Int) (x4 : Int) (j1 : EL) (j2 : Int) (j3 : Int) : ρ :=
  bif (cmpStd .gtr x3 32) then (p118 fail fu (fun y52 y53 y54 => p114_8 fail fu s_p114 K0 x3 x4 y52 y53 y54) j1 j2 j3 6) else (p114_8 fail fu s_p114 K0 x3 x4 j1 j2 j3)
/-- (*ref6.Reader).level -/
def p114_b {ρ : Type} (fail : ρ) (fu : Nat) (s_p114 : (Int → Int → EL → EL → Int → Int → Int → ρ) → EL → Int → Int → Int → Int → ρ) (K0 : Int → Int → EL → EL → Int → Int → Int → ρ) (x0 : EL) (x1 : Int) (x2 : Int) (x3 : Int) (x4 : Int) : ρ :=
  bif (cmpStd .eql x4 0) then (p118 fail fu (fun y55 y56 y57 => p114_9 fail fu s_p114 K0 x3 x4 y55 y56 y57) x0 x1 x2 3) else (p114_9 fail fu s_p114 K0 x3 x4 x0 x1 x2)
def p114 {ρ : Type} (fail : ρ) : Nat → (Int → Int → EL → EL → Int → Int → Int → ρ) → EL → Int → Int → Int → Int → ρ
  | 0, _, _, _, _, _, _ => fail
  | n + 1, K0, x0, x1, x2, x3, x4 => p114_b fail n (p114 fail n) K0 x0 x1 x2 x3 x4
def D_p114 (fu : Nat) : Prop := ∀ {K0 : Int → Int → EL → EL → Int → Int → Int → Prop} (L : EL → Nat) (_ : L = List.length) {x0 : EL} {x1 : Int} {x2 : Int} {x3 : Int} {x4 : Int} (_ : p114 False fu K0 x0 x1 x2 x3 x4), Den Try.prog G0 114 [.ptr [.c (.sl 1 x0 none), .c (.v (.int .i64 x1)), .c (.v (.int .i64 x2))], .c (.v (.int .i64 x3)), .ptr [.c (.v (.int .i64 x4))]] (fun r bs => (∃ (y0 : Int) (y1 : Int) (y2 : EL) (y3 : EL) (y4 : Int) (y5 : Int) (y6 : Int) (o1 : OV), (r = .agg [.c (.v (.int .i64 y0)), .c (.v (.int .i64 y1)), .c (.sl 3 y2 none)] ∧ bs = [.ptr [.c (.sl 1 y3 none), .c (.v (.int .i64 y4)), .c (.v (.int .i64 y5))], o1, .ptr [.c (.v (.int .i64 y6))]]) ∧ K0 y0 y1 y2 y3 y4 y5 y6))
theorem b_p114 (fu : Nat) (ih_p114 : D_p114 fu) {K0 : Int → Int → EL → EL → Int → Int → Int → Prop} (L : EL → Nat) (hN : L = List.length) {x0 : EL} {x1 : Int} {x2 : Int} {x3 : Int} {x4 : Int} (h : p114_b False fu (p114 False fu) K0 x0 x1 x2 x3 x4) : Den Try.prog G0 114 [.ptr [.c (.sl 1 x0 none), .c (.v (.int .i64 x1)), .c (.v (.int .i64 x2))], .c (.v (.int .i64 x3)), .ptr [.c (.v (.int .i64 x4))]] (fun r bs => (∃ (y0 : Int) (y1 : Int) (y2 : EL) (y3 : EL) (y4 : Int) (y5 : Int) (y6 : Int) (o1 : OV), (r = .agg [.c (.v (.int .i64 y0)), .c (.v (.int .i64 y1)), .c (.sl 3 y2 none)] ∧ bs = [.ptr [.c (.sl 1 y3 none), .c (.v (.int .i64 y4)), .c (.v (.int .i64 y5))], o1, .ptr [.c (.v (.int .i64 y6))]]) ∧ K0 y0 y1 y2 y3 y4 y5 y6)) := by
  obtain ⟨O, hO⟩ : ∃ O, O = std 2 T G0 (Den Try.prog G0) := ⟨_, rfl⟩
  have hLO : L = O.len := by rw [hN, hO]; rfl
  subst hLO
  refine den_h hO tiA mixed tabOk (fn := Try.f114) (sh := true) (by kernel_rfl) rfl rfl rfl rfl ?_
  intro Q hQ
  unfold p114_b at h
  conv => cbv
  refine br_join_h hO tiA h (by subst hO; rfl) [0, 1, 2, 6] [0, 1, 7000] [] (fun tm m => ∃ (j1 : EL) (j2 : Int) (j3 : Int), ((tm = frame 0 69 [(0, .p 0 0 0), (1, .c (.v (.int .i64 x3))), (2, .p 1 1 0), (6, .p 7000 2 0)] ∧ m = ⟨[(0, .blk 0 [.c (.sl 1 j1 none), .c (.v (.int .i64 j2)), .c (.v (.int .i64 j3))]), (1, .blk 1 [.c (.v (.int .i64 x4))]), (7000, .blk 2 [.c (.v (.int .i64 0)), .c (.v (.int .i64 0)), .c (.sl 3 [] (some []))])], 3⟩)) ∧ p114_9 False fu (p114 False fu) K0 x3 x4 j1 j2 j3) (fun hc9 h L hL_9 => ?_) (fun hc9 h L hL_9 => ?_) ?_
  · conv => cbv
    refine call_h hO [.ref 3, .shut] (d_p118 fu O.len hN h) ?_
    intro os Q hos hQ
    conv => cbv
    refine ⟨(by (rw [hos]) <;> (subst hO; rfl)), ?_⟩
    intro r bs hq
    rw [hQ] at hq
    clear hos hQ h
    obtain ⟨y55, y56, y57, _, ⟨rfl, rfl⟩, h⟩ := hq
    conv => cbv
    exact hL_9 _ _ ⟨y55, y56, y57, ⟨(by (conv => lhs; cbv) <;> (subst hO; rfl)), (by (conv => lhs; cbv) <;> (subst hO; rfl))⟩, h⟩
  · conv => cbv
    exact hL_9 _ _ ⟨x0, x1, x2, ⟨(by (conv => lhs; cbv) <;> (subst hO; rfl)), (by (conv => lhs; cbv) <;> (subst hO; rfl))⟩, h⟩
  · rintro tm m ⟨j1, j2, j3, hs, h⟩
    unfold p114_9 at h
    obtain ⟨rfl, rfl⟩ := hs
    conv => cbv
    refine br_join_h hO tiA h (by subst hO; rfl) [0, 1, 2, 6] [0, 1, 7000] [] (fun tm m => ∃ (j4 : EL) (j5 : Int) (j6 : Int), ((tm = frame 0 69 [(0, .p 0 0 0), (1, .c (.v (.int .i64 x3))), (2, .p 1 1 0), (6, .p 7000 2 0)] ∧ m = ⟨[(0, .blk 0 [.c (.sl 1 j4 none), .c (.v (.int .i64 j5)), .c (.v (.int .i64 j6))]), (1, .blk 1 [.c (.v (.int .i64 x4))]), (7000, .blk 2 [.c (.v (.int .i64 0)), .c (.v (.int .i64 0)), .c (.sl 3 [] (some []))])], 3⟩)) ∧ p114_8 False fu (p114 False fu) K0 x3 x4 j4 j5 j6) (fun hc8 h L hL_8 => ?_) (fun hc8 h L hL_8 => ?_) ?_
    · conv => cbv
      refine call_h hO [.ref 3, .shut] (d_p118 fu O.len hN h) ?_
      intro os Q hos hQ
      conv => cbv
      refine ⟨(by (rw [hos]) <;> (subst hO; rfl)), ?_⟩
      intro r bs hq
      rw [hQ] at hq
      clear hos hQ h
      obtain ⟨y52, y53, y54, _, ⟨rfl, rfl⟩, h⟩ := hq
      conv => cbv
      exact hL_8 _ _ ⟨y52, y53, y54, ⟨(by (conv => lhs; cbv) <;> (subst hO; rfl)), (by (conv => lhs; cbv) <;> (subst hO; rfl))⟩, h⟩
    · conv => cbv
      exact hL_8 _ _ ⟨j1, j2, j3, ⟨(by (conv => lhs; cbv) <;> (subst hO; rfl)), (by (conv => lhs; cbv) <;> (subst hO; rfl))⟩, h⟩
    · rintro tm m ⟨j4, j5, j6, hs, h⟩
      unfold p114_8 at h
      obtain ⟨rfl, rfl⟩ := hs
      conv => cbv
      refine call_h hO [.ref 3, .shut, .shut] (d_p117 fu O.len hN h) ?_
      intro os Q hos hQ
      conv => cbv
      refine ⟨(by (rw [hos]) <;> (subst hO; rfl)), ?_⟩
      intro r bs hq
      rw [hQ] at hq
      clear hos hQ h
      obtain ⟨y7, y8, y9, y10, _, _, ⟨rfl, rfl⟩, h⟩ := hq
      conv => cbv
      refine br_join_h hO tiA h (by subst hO; rfl) [0, 1, 2, 6, 7, 8] [0, 1, 7000, 8000] [] (fun tm m => ∃ (j11 : EL) (j12 : Int) (j13 : Int) (j14 : Int) (j15 : Int) (j16 : Int), ((tm = frame 0 69 [(0, .p 0 0 0), (1, .c (.v (.int .i64 x3))), (2, .p 1 1 0), (6, .p 7000 2 0), (7, .p 8000 2 0), (8, .c (.v (.int .i64 j16)))] ∧ m = ⟨[(0, .blk 0 [.c (.sl 1 j11 none), .c (.v (.int .i64 j12)), .c (.v (.int .i64 j13))]), (1, .blk 1 [.c (.v (.int .i64 j14))]), (7000, .blk 2 [.c (.v (.int .i64 0)), .c (.v (.int .i64 0)), .c (.sl 3 [] (some []))]), (8000, .blk 2 [.c (.v (.int .i64 y7)), .c (.v (.int .i64 j15)), .c (.sl 3 [] (some []))])], 3⟩)) ∧ p114_3 False fu (p114 False fu) K0 x3 y7 j11 j12 j13 j14 j15 j16) (fun hc3 h L hL_3 => ?_) (fun hc3 h L hL_3 => ?_) ?_
      · conv => cbv
        exact hL_3 _ _ ⟨y8, y9, y10, binStd .sub .i64 x4 1, 0, 1, ⟨(by (conv => lhs; cbv) <;> (subst hO; rfl)), (by (conv => lhs; cbv) <;> (subst hO; rfl))⟩, h⟩
      · conv => cbv
        refine br_join_h hO tiA h (by subst hO; rfl) [0, 1, 2, 6, 7, 8, 30, 33] [0, 1, 7000, 8000] [] (fun tm m => ∃ (j31 : Int) (j32 : Bool), ((tm = frame 0 69 [(0, .p 0 0 0), (1, .c (.v (.int .i64 x3))), (2, .p 1 1 0), (6, .p 7000 2 0), (7, .p 8000 2 0), (8, .c (.v (.int .i64 0))), (30, .c (.v (.int .i64 y7))), (33, .c (.v (.bool j32)))] ∧ m = ⟨[(0, .blk 0 [.c (.sl 1 y8 none), .c (.v (.int .i64 y9)), .c (.v (.int .i64 y10))]), (1, .blk 1 [.c (.v (.int .i64 j31))]), (7000, .blk 2 [.c (.v (.int .i64 0)), .c (.v (.int .i64 0)), .c (.sl 3 [] (some []))]), (8000, .blk 2 [.c (.v (.int .i64 y7)), .c (.v (.int .i64 0)), .c (.sl 3 [] (some []))])], 3⟩)) ∧ p114_7 False fu (p114 False fu) K0 x3 y7 y8 y9 y10 j31 j32) (fun hc7 h L hL_7 => ?_) (fun hc7 h L hL_7 => ?_) ?_
        · conv => cbv
          exact hL_7 _ _ ⟨binStd .sub .i64 x4 1, (cmpStd .eql y7 2), ⟨(by (conv => lhs; cbv) <;> (subst hO; rfl)), (by (conv => lhs; cbv) <;> (subst hO; rfl))⟩, h⟩
        · conv => cbv
          exact hL_7 _ _ ⟨binStd .sub .i64 x4 1, (cmpStd .eql y7 3), ⟨(by (conv => lhs; cbv) <;> (subst hO; rfl)), (by (conv => lhs; cbv) <;> (subst hO; rfl))⟩, h⟩
        · rintro tm m ⟨j31, j32, hs, h⟩
          unfold p114_7 at h
          obtain ⟨rfl, rfl⟩ := hs
          conv => cbv
          refine br_join_h hO tiA h (by subst hO; rfl) [0, 1, 2, 6, 7, 8] [0, 1, 7000, 8000] [] (fun tm m => ∃ (j33 : EL) (j34 : Int) (j35 : Int) (j36 : Int) (j37 : Int), ((tm = frame 0 69 [(0, .p 0 0 0), (1, .c (.v (.int .i64 x3))), (2, .p 1 1 0), (6, .p 7000 2 0), (7, .p 8000 2 0), (8, .c (.v (.int .i64 j37)))] ∧ m = ⟨[(0, .blk 0 [.c (.sl 1 j33 none), .c (.v (.int .i64 j34)), .c (.v (.int .i64 j35))]), (1, .blk 1 [.c (.v (.int .i64 j31))]), (7000, .blk 2 [.c (.v (.int .i64 0)), .c (.v (.int .i64 0)), .c (.sl 3 [] (some []))]), (8000, .blk 2 [.c (.v (.int .i64 y7)), .c (.v (.int .i64 j36)), .c (.sl 3 [] (some []))])], 3⟩)) ∧ p114_4 False fu (p114 False fu) K0 x3 y7 j31 j33 j34 j35 j36 j37) (fun hc4 h L hL_4 => ?_) (fun hc4 h L hL_4 => ?_) ?_
          · conv => cbv
            exact hL_4 _ _ ⟨y8, y9, y10, 0, 2, ⟨(by (conv => lhs; cbv) <;> (subst hO; rfl)), (by (conv => lhs; cbv) <;> (subst hO; rfl))⟩, h⟩
          · conv => cbv
            refine br_join_h hO tiA h (by subst hO; rfl) [0, 1, 2, 6, 7, 8] [0, 1, 7000, 8000] [] (fun tm m => ∃ (j38 : EL) (j39 : Int) (j40 : Int) (j41 : Int), ((tm = frame 0 69 [(0, .p 0 0 0), (1, .c (.v (.int .i64 x3))), (2, .p 1 1 0), (6, .p 7000 2 0), (7, .p 8000 2 0), (8, .c (.v (.int .i64 0)))] ∧ m = ⟨[(0, .blk 0 [.c (.sl 1 j38 none), .c (.v (.int .i64 j39)), .c (.v (.int .i64 j40))]), (1, .blk 1 [.c (.v (.int .i64 j31))]), (7000, .blk 2 [.c (.v (.int .i64 0)), .c (.v (.int .i64 0)), .c (.sl 3 [] (some []))]), (8000, .blk 2 [.c (.v (.int .i64 y7)), .c (.v (.int .i64 j41)), .c (.sl 3 [] (some []))])], 3⟩)) ∧ p114_5 False fu (p114 False fu) K0 x3 y7 j31 j38 j39 j40 j41) (fun hc5 h L hL_5 => ?_) (fun hc5 h L hL_5 => ?_) ?_
            · conv => cbv
              refine call_h hO [.ref 3] (d_p96 fu O.len hN h) ?_
              intro os Q hos hQ
              conv => cbv
              refine ⟨(by (rw [hos]) <;> (subst hO; rfl)), ?_⟩
              intro r bs hq
              rw [hQ] at hq
              clear hos hQ h
              obtain ⟨y42, y43, y44, y45, ⟨rfl, rfl⟩, h⟩ := hq
              conv => cbv
              refine br_join_h hO tiA h (by subst hO; rfl) [0, 1, 2, 6, 7, 8] [0, 1, 7000, 8000] [] (fun tm m => ∃ (j46 : EL) (j47 : Int) (j48 : Int), ((tm = frame 0 69 [(0, .p 0 0 0), (1, .c (.v (.int .i64 x3))), (2, .p 1 1 0), (6, .p 7000 2 0), (7, .p 8000 2 0), (8, .c (.v (.int .i64 0)))] ∧ m = ⟨[(0, .blk 0 [.c (.sl 1 j46 none), .c (.v (.int .i64 j47)), .c (.v (.int .i64 j48))]), (1, .blk 1 [.c (.v (.int .i64 j31))]), (7000, .blk 2 [.c (.v (.int .i64 0)), .c (.v (.int .i64 0)), .c (.sl 3 [] (some []))]), (8000, .blk 2 [.c (.v (.int .i64 y7)), .c (.v (.int .i64 y42)), .c (.sl 3 [] (some []))])], 3⟩)) ∧ p114_6 False fu (p114 False fu) K0 x3 y7 j31 y42 j46 j47 j48) (fun hc6 h L hL_6 => ?_) (fun hc6 h L hL_6 => ?_) ?_
              · conv => cbv
                refine call_h hO [.ref 3, .shut] (d_p118 fu O.len hN h) ?_
                intro os Q hos hQ
                conv => cbv
                refine ⟨(by (rw [hos]) <;> (subst hO; rfl)), ?_⟩
                intro r bs hq
                rw [hQ] at hq
                clear hos hQ h
                obtain ⟨y49, y50, y51, _, ⟨rfl, rfl⟩, h⟩ := hq
                conv => cbv
                exact hL_6 _ _ ⟨y49, y50, y51, ⟨(by (conv => lhs; cbv) <;> (subst hO; rfl)), (by (conv => lhs; cbv) <;> (subst hO; rfl))⟩, h⟩
              · conv => cbv
                exact hL_6 _ _ ⟨y43, y44, y45, ⟨(by (conv => lhs; cbv) <;> (subst hO; rfl)), (by (conv => lhs; cbv) <;> (subst hO; rfl))⟩, h⟩
              · rintro tm m ⟨j46, j47, j48, hs, h⟩
                unfold p114_6 at h
                obtain ⟨rfl, rfl⟩ := hs
                conv => cbv
                exact hL_5 _ _ ⟨j46, j47, j48, y42, ⟨(by (conv => lhs; cbv) <;> (subst hO; rfl)), (by (conv => lhs; cbv) <;> (subst hO; rfl))⟩, h⟩
            · conv => cbv
              exact hL_5 _ _ ⟨y8, y9, y10, 0, ⟨(by (conv => lhs; cbv) <;> (subst hO; rfl)), (by (conv => lhs; cbv) <;> (subst hO; rfl))⟩, h⟩
            · rintro tm m ⟨j38, j39, j40, j41, hs, h⟩
              unfold p114_5 at h
              obtain ⟨rfl, rfl⟩ := hs
              conv => cbv
              exact hL_4 _ _ ⟨j38, j39, j40, j41, 0, ⟨(by (conv => lhs; cbv) <;> (subst hO; rfl)), (by (conv => lhs; cbv) <;> (subst hO; rfl))⟩, h⟩
          · rintro tm m ⟨j33, j34, j35, j36, j37, hs, h⟩
            unfold p114_4 at h
            obtain ⟨rfl, rfl⟩ := hs
            conv => cbv
            exact hL_3 _ _ ⟨j33, j34, j35, j31, j36, j37, ⟨(by (conv => lhs; cbv) <;> (subst hO; rfl)), (by (conv => lhs; cbv) <;> (subst hO; rfl))⟩, h⟩
      · rintro tm m ⟨j11, j12, j13, j14, j15, j16, hs, h⟩
        unfold p114_3 at h
        obtain ⟨rfl, rfl⟩ := hs
        conv => cbv
        refine loop_of hO tiA [0, 1, 2, 6, 7, 8, 9] [0, 1, 7000, 8000, 67000] [] (fun (n : Nat) tm m => ∃ (z17 : EL) (z18 : Int) (z19 : Int) (z20 : Int) (z21 : EL) (z22 : Int), ((z21 = [] ∧ tm = frame 0 69 [(0, .p 0 0 0), (1, .c (.v (.int .i64 x3))), (2, .p 1 1 0), (6, .p 7000 2 0), (7, .p 8000 2 0), (8, .c (.v (.int .i64 j16))), (9, .c (.v (.int .i64 z22)))] ∧ m = ⟨[(0, .blk 0 [.c (.sl 1 z17 none), .c (.v (.int .i64 z18)), .c (.v (.int .i64 z19))]), (1, .blk 1 [.c (.v (.int .i64 z20))]), (7000, .blk 2 [.c (.v (.int .i64 0)), .c (.v (.int .i64 0)), .c (.sl 3 [] (some []))]), (8000, .blk 2 [.c (.v (.int .i64 y7)), .c (.v (.int .i64 j15)), .c (.sl 3 [] (some []))])], 3⟩) ∨ (tm = frame 0 69 [(0, .p 0 0 0), (1, .c (.v (.int .i64 x3))), (2, .p 1 1 0), (6, .p 7000 2 0), (7, .p 8000 2 0), (8, .c (.v (.int .i64 j16))), (9, .c (.v (.int .i64 z22)))] ∧ m = ⟨[(0, .blk 0 [.c (.sl 1 z17 none), .c (.v (.int .i64 z18)), .c (.v (.int .i64 z19))]), (1, .blk 1 [.c (.v (.int .i64 z20))]), (7000, .blk 2 [.c (.v (.int .i64 0)), .c (.v (.int .i64 0)), .c (.sl 3 [] (some []))]), (8000, .blk 2 [.c (.v (.int .i64 y7)), .c (.v (.int .i64 j15)), .t 67000 2 (O.len z21)]), (67000, .arr 2 3 z21 none false)], 3⟩)) ∧ p114_2L False fu (p114 False fu) K0 x3 y7 j15 j16 n z17 z18 z19 z20 z21 z22) (fun n => n) fu ⟨j11, j12, j13, j14, nilE, 0, (.inl ⟨rfl, (by (conv => lhs; cbv) <;> (subst hO; rfl)), (by (conv => lhs; cbv) <;> (subst hO; rfl))⟩), h⟩ ?_
        rintro n1 tm m L ⟨z17, z18, z19, z20, z21, z22, hs, h⟩ hLn1
        cases n1 with
        | zero => rw [p114_2L] at h; exact h.elim
        | succ n1 =>
          rw [p114_2L] at h
          unfold p114_2 at h
          rcases hs with hs | hs
          · obtain ⟨rfl, rfl, rfl⟩ := hs
            conv => cbv
            refine reg_join hO tiA [0, 1, 2, 6, 7, 8, 9, 55] [0, 1, 7000, 8000] [] (fun tm m => ∃ (j23 : Bool), ((tm = frame 0 69 [(0, .p 0 0 0), (1, .c (.v (.int .i64 x3))), (2, .p 1 1 0), (6, .p 7000 2 0), (7, .p 8000 2 0), (8, .c (.v (.int .i64 j16))), (9, .c (.v (.int .i64 z22))), (55, .c (.v (.bool j23)))] ∧ m = ⟨[(0, .blk 0 [.c (.sl 1 z17 none), .c (.v (.int .i64 z18)), .c (.v (.int .i64 z19))]), (1, .blk 1 [.c (.v (.int .i64 z20))]), (7000, .blk 2 [.c (.v (.int .i64 0)), .c (.v (.int .i64 0)), .c (.sl 3 [] (some []))]), (8000, .blk 2 [.c (.v (.int .i64 y7)), .c (.v (.int .i64 j15)), .c (.sl 3 [] (some []))])], 3⟩)) ∧ p114_1 False fu (p114 False fu) K0 (p114_2L False fu (p114 False fu) K0  x3 y7 j15 j16 n1) x3 y7 j15 z17 z18 z19 z20 nilE z22 j23) (fun L hL_1 => ?_) ?_
            · conv => cbv
              refine br_h hO h (by subst hO; rfl) (fun hc2 h => ?_) (fun hc2 h => ?_)
              · conv => cbv
                refine br_t hO hc2 ?_
                conv => cbv
                refine br_t hO hc2 ?_
                conv => cbv
                refine br_t hO hc2 ?_
                conv => cbv
                refine br_t hO hc2 ?_
                conv => cbv
                refine br_t hO hc2 ?_
                conv => cbv
                exact hL_1 _ _ ⟨(cmpStd .eql z19 0), ⟨(by (conv => lhs; cbv) <;> (subst hO; rfl)), (by (conv => lhs; cbv) <;> (subst hO; rfl))⟩, h⟩
              · conv => cbv
                refine br_f hO hc2 ?_
                conv => cbv
                refine br_f hO hc2 ?_
                conv => cbv
                refine br_f hO hc2 ?_
                conv => cbv
                refine br_f hO hc2 ?_
                conv => cbv
                refine br_f hO hc2 ?_
                conv => cbv
                exact hL_1 _ _ ⟨false, ⟨(by (conv => lhs; cbv) <;> (subst hO; rfl)), (by (conv => lhs; cbv) <;> (subst hO; rfl))⟩, h⟩
            · rintro tm m ⟨j23, hs, h⟩
              unfold p114_1 at h
              obtain ⟨rfl, rfl⟩ := hs
              conv => cbv
              refine br_h hO h (by subst hO; rfl) (fun hc1 h => ?_) (fun hc1 h => ?_)
              · conv => cbv
                refine join_all hO ?_
                conv => cbv
                refine drawn_of hO tiA [[0, 1], [], [], [], []] [(0, true, false), (1, true, false), (2, true, false), (3, true, false), (4, true, false), (5, true, false), (6, false, false), (7, false, false), (8, false, true), (9, true, true), (10, false, true)] (by kernel_rfl) ?_
                conv => cbv
                refine call_h hO [.ref 3, .shut, .ref 1] (ih_p114 O.len hN h) ?_
                intro os Q hos hQ
                conv => cbv
                refine ⟨(by (rw [hos]) <;> (subst hO; rfl)), ?_⟩
                intro r bs hq
                rw [hQ] at hq
                clear hos hQ h
                obtain ⟨y24, y25, y26, y27, y28, y29, y30, _, ⟨rfl, rfl⟩, h⟩ := hq
                conv => cbv
                refine ⟨agree_of hO (Nat.le_of_ble_eq_true rfl) rfl, ?_⟩
                refine ⟨agree_of hO (Nat.le_of_ble_eq_true rfl) rfl, ?_⟩
                refine view_h hO h (fun g => (by subst hO; exact g)) (fun h => ?_)
                conv => cbv
                refine and_h h (fun g => (by subst hO; exact g)) (fun h => ?_)
                refine emp_no hO (by subst hO; exact List.cons_ne_nil _ _) ?_
                conv => cbv
                refine join_all hO ?_
                conv => cbv
                exact hLn1 n1 _ _ (Nat.lt_succ_self n1) ⟨y27, y28, y29, y30, (nilE ++ (List.take 1 [[(CV.v (.int .i64 y24)), (CV.v (.int .i64 y25)), (CV.sl 3 y26 none)]])), binStd .add .i64 z22 1, (.inr ⟨(by (conv => lhs; cbv) <;> (subst hO; rfl)), (by (conv => lhs; cbv) <;> (subst hO; rfl))⟩), h⟩
              · conv => cbv
                rw [hQ]
                exact ⟨y7, j15, nilE, z17, z18, z19, z20, _, ⟨(by subst hO; rfl), (by subst hO; rfl)⟩, h⟩
          · obtain ⟨rfl, rfl⟩ := hs
            conv => cbv
            refine reg_join hO tiA [0, 1, 2, 6, 7, 8, 9, 55] [0, 1, 7000, 8000, 67000] [] (fun tm m => ∃ (j23 : Bool), ((tm = frame 0 69 [(0, .p 0 0 0), (1, .c (.v (.int .i64 x3))), (2, .p 1 1 0), (6, .p 7000 2 0), (7, .p 8000 2 0), (8, .c (.v (.int .i64 j16))), (9, .c (.v (.int .i64 z22))), (55, .c (.v (.bool j23)))] ∧ m = ⟨[(0, .blk 0 [.c (.sl 1 z17 none), .c (.v (.int .i64 z18)), .c (.v (.int .i64 z19))]), (1, .blk 1 [.c (.v (.int .i64 z20))]), (7000, .blk 2 [.c (.v (.int .i64 0)), .c (.v (.int .i64 0)), .c (.sl 3 [] (some []))]), (8000, .blk 2 [.c (.v (.int .i64 y7)), .c (.v (.int .i64 j15)), .t 67000 2 (O.len z21)]), (67000, .arr 2 3 z21 none false)], 3⟩)) ∧ p114_1 False fu (p114 False fu) K0 (p114_2L False fu (p114 False fu) K0  x3 y7 j15 j16 n1) x3 y7 j15 z17 z18 z19 z20 z21 z22 j23) (fun L hL_1 => ?_) ?_
            · conv => cbv
              refine br_h hO h (by subst hO; rfl) (fun hc2 h => ?_) (fun hc2 h => ?_)
              · conv => cbv
                refine br_t hO hc2 ?_
                conv => cbv
                refine br_t hO hc2 ?_
                conv => cbv
                refine br_t hO hc2 ?_
                conv => cbv
                refine br_t hO hc2 ?_
                conv => cbv
                refine br_t hO hc2 ?_
                conv => cbv
                exact hL_1 _ _ ⟨(cmpStd .eql z19 0), ⟨(by (conv => lhs; cbv) <;> (subst hO; rfl)), (by (conv => lhs; cbv) <;> (subst hO; rfl))⟩, h⟩
              · conv => cbv
                refine br_f hO hc2 ?_
                conv => cbv
                refine br_f hO hc2 ?_
                conv => cbv
                refine br_f hO hc2 ?_
                conv => cbv
                refine br_f hO hc2 ?_
                conv => cbv
                refine br_f hO hc2 ?_
                conv => cbv
                exact hL_1 _ _ ⟨false, ⟨(by (conv => lhs; cbv) <;> (subst hO; rfl)), (by (conv => lhs; cbv) <;> (subst hO; rfl))⟩, h⟩
            · rintro tm m ⟨j23, hs, h⟩
              unfold p114_1 at h
              obtain ⟨rfl, rfl⟩ := hs
              conv => cbv
              refine br_h hO h (by subst hO; rfl) (fun hc1 h => ?_) (fun hc1 h => ?_)
              · conv => cbv
                refine join_all hO ?_
                conv => cbv
                refine drawn_of hO tiA [[0, 1], [], [], [], []] [(0, true, false), (1, true, false), (2, true, false), (3, true, false), (4, true, false), (5, true, false), (6, false, false), (7, false, false), (8, false, true), (9, true, true), (10, false, true)] (by kernel_rfl) ?_
                conv => cbv
                refine call_h hO [.ref 3, .shut, .ref 1] (ih_p114 O.len hN h) ?_
                intro os Q hos hQ
                conv => cbv
                refine ⟨(by (rw [hos]) <;> (subst hO; rfl)), ?_⟩
                intro r bs hq
                rw [hQ] at hq
                clear hos hQ h
                obtain ⟨y24, y25, y26, y27, y28, y29, y30, _, ⟨rfl, rfl⟩, h⟩ := hq
                conv => cbv
                refine ⟨agree_of hO (Nat.le_of_ble_eq_true rfl) rfl, ?_⟩
                refine ⟨agree_of hO (Nat.le_of_ble_eq_true rfl) rfl, ?_⟩
                refine view_h hO h (fun g => (by subst hO; exact g)) (fun h => ?_)
                conv => cbv
                refine ⟨(by subst hO; rfl), ?_⟩
                refine and_h h (fun g => (by subst hO; exact g)) (fun h => ?_)
                refine join_all hO ?_
                conv => cbv
                exact hLn1 n1 _ _ (Nat.lt_succ_self n1) ⟨y27, y28, y29, y30, (z21 ++ (List.take 1 [[(CV.v (.int .i64 y24)), (CV.v (.int .i64 y25)), (CV.sl 3 y26 none)]])), binStd .add .i64 z22 1, (.inr ⟨(by (conv => lhs; cbv) <;> (subst hO; rfl)), (by (conv => lhs; cbv) <;> (subst hO; rfl))⟩), h⟩
              · conv => cbv
                refine view_full hO ?_
                conv => cbv
                rw [hQ]
                exact ⟨y7, j15, z21, z17, z18, z19, z20, _, ⟨(by subst hO; rfl), (by subst hO; rfl)⟩, h⟩
theorem dd_p114 (fu : Nat) : D_p114 fu := by
  induction fu with
  | zero => unfold D_p114; intros; rename_i h; rw [p114] at h; exact h.elim
  | succ n ih =>
    exact (by unfold D_p114; intro K0 L hN x0 x1 x2 x3 x4 h; exact b_p114 n ih L hN (by rw [p114] at h; exact h))
theorem d_p114 (fu : Nat) {K0 : Int → Int → EL → EL → Int → Int → Int → Prop} (L : EL → Nat) (hL : L = List.length) {x0 : EL} {x1 : Int} {x2 : Int} {x3 : Int} {x4 : Int} (h : p114 False fu K0 x0 x1 x2 x3 x4) : Den Try.prog G0 114 [.ptr [.c (.sl 1 x0 none), .c (.v (.int .i64 x1)), .c (.v (.int .i64 x2))], .c (.v (.int .i64 x3)), .ptr [.c (.v (.int .i64 x4))]] (fun r bs => (∃ (y0 : Int) (y1 : Int) (y2 : EL) (y3 : EL) (y4 : Int) (y5 : Int) (y6 : Int) (o1 : OV), (r = .agg [.c (.v (.int .i64 y0)), .c (.v (.int .i64 y1)), .c (.sl 3 y2 none)] ∧ bs = [.ptr [.c (.sl 1 y3 none), .c (.v (.int .i64 y4)), .c (.v (.int .i64 y5))], o1, .ptr [.c (.v (.int .i64 y6))]]) ∧ K0 y0 y1 y2 y3 y4 y5 y6)) := dd_p114 fu L hL h
end Go.Proofs.Ythncmjlcmlmnmaa

namespace Go.Proofs.Ythncmjlcmlmnmaa
open Go V
set_option maxRecDepth 100000
set_option maxHeartbeats 4000000
/-- (*ref6.Reader).Level -/
def p74 {ρ : Type} (fail : ρ) (fu : Nat)  (K0 : Int → Int → EL → EL → Int → Int → ρ) (x0 : EL) (x1 : Int) (x2 : Int) : ρ :=
  p114 fail fu (fun y1 y2 y3 y4 y5 y6 y7 => K0 y1 y2 y3 y4 y5 y6) x0 x1 x2 1 64
theorem d_p74 (fu : Nat)  {K0 : Int → Int → EL → EL → Int → Int → Prop} (L : EL → Nat) (hN : L = List.length) {x0 : EL} {x1 : Int} {x2 : Int} (h : p74 False fu K0 x0 x1 x2) : Den Try.prog G0 74 [.ptr [.c (.sl 1 x0 none), .c (.v (.int .i64 x1)), .c (.v (.int .i64 x2))]] (fun r bs => (∃ (y0 : Int) (y1 : Int) (y2 : EL) (y3 : EL) (y4 : Int) (y5 : Int), (r = .agg [.c (.v (.int .i64 y0)), .c (.v (.int .i64 y1)), .c (.sl 3 y2 none)] ∧ bs = [.ptr [.c (.sl 1 y3 none), .c (.v (.int .i64 y4)), .c (.v (.int .i64 y5))]]) ∧ K0 y0 y1 y2 y3 y4 y5)) := by
  obtain ⟨O, hO⟩ : ∃ O, O = std 1 T G0 (Den Try.prog G0) := ⟨_, rfl⟩
  have hLO : L = O.len := by rw [hN, hO]; rfl
  subst hLO
  refine den_h hO tiA mixed tabOk (fn := Try.f74) (sh := true) (by kernel_rfl) rfl rfl rfl rfl ?_
  intro Q hQ
  unfold p74 at h
  conv => cbv
  refine call_h hO [.ref 3, .shut, .ref 1] (d_p114 fu O.len hN h) ?_
  intro os Q hos hQ
  conv => cbv
  refine ⟨(by (rw [hos]) <;> (subst hO; rfl)), ?_⟩
  intro r bs hq
  rw [hQ] at hq
  clear hos hQ h
  obtain ⟨y1, y2, y3, y4, y5, y6, y7, _, ⟨rfl, rfl⟩, h⟩ := hq
  conv => cbv
  rw [hQ]
  exact ⟨y1, y2, y3, y4, y5, y6, ⟨(by subst hO; rfl), (by subst hO; rfl)⟩, h⟩
end Go.Proofs.Ythncmjlcmlmnmaa

namespace Go.Proofs.Ythncmjlcmlmnmaa
open Go V
set_option maxRecDepth 100000
set_option maxHeartbeats 4000000
/-- ref1.TakeText -/
def p129 {ρ : Type} (fail : ρ) (fu : Nat)  (K0 : EL → Int → Int → ρ) (x0 : EL) (x1 : Int) : ρ :=
  p141 fail fu (fun y1 y2 y3 => bif (cmpStd .neq y3 0) then (K0 nilE 0 y3) else (bif (cmpStd .gtr y1 (IntKind.u64.wrap (if 0 > x1 then 0 else x1))) then (K0 nilE 0 3) else (bif (cmpStd .lss (IntKind.u64.wrap (binStd .sub .i64 ((x0.length : Nat) : Int) y2)) y1) then (K0 nilE 0 2) else (gd ((0 : Int) ≤ y2) fail (gd ((y2 : Int) ≤ (binStd .add .i64 y2 (IntKind.i64.wrap y1))) fail (gd ((binStd .add .i64 y2 (IntKind.i64.wrap y1) : Int) ≤ (x0.length : Nat)) fail (gd (0 = nilE.length) fail (gd ((nilE.length + (List.drop ((y2 : Int).toNat) (List.take ((binStd .add .i64 y2 (IntKind.i64.wrap y1) : Int).toNat) x0)).length) * 1 ≤ 35184372088832) fail (K0 (nilE ++ (List.drop ((y2 : Int).toNat) (List.take ((binStd .add .i64 y2 (IntKind.i64.wrap y1) : Int).toNat) x0))) (binStd .add .i64 y2 (IntKind.i64.wrap y1)) 0))))))))) x0
theorem d_p129 (fu : Nat)  {K0 : EL → Int → Int → Prop} (L : EL → Nat) (hN : L = List.length) {x0 : EL} {x1 : Int} (h : p129 False fu K0 x0 x1) : Den Try.prog G0 129 [.c (.sl 1 x0 none), .c (.v (.int .i64 x1))] (fun r bs => (∃ (y0 : EL) (y1 : Int) (y2 : Int) (o0 : OV) (o1 : OV), (r = .tup [.c (.sl 1 y0 none), .c (.v (.int .i64 y1)), .c (.v (.int .i64 y2))] ∧ bs = [o0, o1]) ∧ K0 y0 y1 y2)) := by
  obtain ⟨O, hO⟩ : ∃ O, O = std 0 T G0 (Den Try.prog G0) := ⟨_, rfl⟩
  have hLO : L = O.len := by rw [hN, hO]; rfl
  subst hLO
  refine den_h hO tiA mixed tabOk (fn := Try.f129) (sh := true) (by kernel_rfl) rfl rfl rfl rfl ?_
  intro Q hQ
  unfold p129 at h
  conv => cbv
  refine call_h hO [.shut] (d_p141 fu O.len hN h) ?_
  intro os Q hos hQ
  conv => cbv
  refine ⟨(by (rw [hos]) <;> (subst hO; rfl)), ?_⟩
  intro r bs hq
  rw [hQ] at hq
  clear hos hQ h
  obtain ⟨y1, y2, y3, _, ⟨rfl, rfl⟩, h⟩ := hq
  conv => cbv
  refine br_h hO h (by subst hO; rfl) (fun hc1 h => ?_) (fun hc1 h => ?_)
  · conv => cbv
    rw [hQ]
    exact ⟨nilE, 0, y3, _, _, ⟨(by subst hO; rfl), (by subst hO; rfl)⟩, h⟩
  · conv => cbv
    refine join_all hO ?_
    conv => cbv
    refine br_h hO h (by subst hO; rfl) (fun hc2 h => ?_) (fun hc2 h => ?_)
    · conv => cbv
      rw [hQ]
      exact ⟨nilE, 0, 3, _, _, ⟨(by subst hO; rfl), (by subst hO; rfl)⟩, h⟩
    · conv => cbv
      refine join_all hO ?_
      conv => cbv
      refine br_h hO h (by subst hO; rfl) (fun hc3 h => ?_) (fun hc3 h => ?_)
      · conv => cbv
        rw [hQ]
        exact ⟨nilE, 0, 2, _, _, ⟨(by subst hO; rfl), (by subst hO; rfl)⟩, h⟩
      · conv => cbv
        refine join_all hO ?_
        conv => cbv
        refine and_h h (fun g => (by subst hO; exact g)) (fun h => ?_)
        refine and_h h (fun g => (by subst hO; exact g)) (fun h => ?_)
        refine and_h h (fun g => (by subst hO; exact g)) (fun h => ?_)
        refine and_h h (fun g => (by subst hO; exact g)) (fun h => ?_)
        refine and_h h (fun g => (by subst hO; exact g)) (fun h => ?_)
        refine view_full hO ?_
        conv => cbv
        rw [hQ]
        exact ⟨(nilE ++ (List.drop ((y2 : Int).toNat) (List.take ((binStd .add .i64 y2 (IntKind.i64.wrap y1) : Int).toNat) x0))), binStd .add .i64 y2 (IntKind.i64.wrap y1), 0, _, _, ⟨(by subst hO; rfl), (by subst hO; rfl)⟩, h⟩
end Go.Proofs.Ythncmjlcmlmnmaa

namespace Go.Proofs.Ythncmjlcmlmnmaa
open Go V
set_option maxRecDepth 100000
set_option maxHeartbeats 4000000
/-- (*ref6.Reader).Name -/
def p98 {ρ : Type} (fail : ρ) (fu : Nat)  (K0 : ByteArray → EL → Int → Int → ρ) (x0 : EL) (x1 : Int) (x2 : Int) : ρ :=
  bif (cmpStd .neq x2 0) then (K0 ⟨#[]⟩ x0 x1 x2) else (gd ((0 : Int) ≤ x1) fail (gd ((x1 : Int) ≤ (x0.length : Nat)) fail (gd (((x0.length : Nat) : Int) ≤ (x0.length : Nat)) fail (p129 fail fu (fun y1 y2 y3 => bif (cmpStd .neq y3 0) then (p118 fail fu (fun y4 y5 y6 => K0 ⟨#[]⟩ y4 y5 y6) x0 x1 x2 y3) else (tobP fail y1 (fun s7 => K0 s7 x0 (binStd .add .i64 x1 y2) x2))) (List.drop ((x1 : Int).toNat) (List.take (((x0.length : Nat) : Int).toNat) x0)) 24))))
theorem d_p98 (fu : Nat)  {K0 : ByteArray → EL → Int → Int → Prop} (L : EL → Nat) (hN : L = List.length) {x0 : EL} {x1 : Int} {x2 : Int} (h : p98 False fu K0 x0 x1 x2) : Den Try.prog G0 98 [.ptr [.c (.sl 1 x0 none), .c (.v (.int .i64 x1)), .c (.v (.int .i64 x2))]] (fun r bs => (∃ (y0 : ByteArray) (y1 : EL) (y2 : Int) (y3 : Int), (r = .c (.v (.string y0)) ∧ bs = [.ptr [.c (.sl 1 y1 none), .c (.v (.int .i64 y2)), .c (.v (.int .i64 y3))]]) ∧ K0 y0 y1 y2 y3)) := by
  obtain ⟨O, hO⟩ : ∃ O, O = std 1 T G0 (Den Try.prog G0) := ⟨_, rfl⟩
  have hLO : L = O.len := by rw [hN, hO]; rfl
  subst hLO
  refine den_h hO tiA mixed tabOk (fn := Try.f98) (sh := true) (by kernel_rfl) rfl rfl rfl rfl ?_
  intro Q hQ
  unfold p98 at h
  conv => cbv
  refine br_h hO h (by subst hO; rfl) (fun hc1 h => ?_) (fun hc1 h => ?_)
  · conv => cbv
    rw [hQ]
    exact ⟨⟨#[]⟩, x0, x1, x2, ⟨(by subst hO; rfl), (by subst hO; rfl)⟩, h⟩
  · conv => cbv
    refine join_all hO ?_
    conv => cbv
    refine drawn_of hO tiA [[], []] [(0, true, false), (1, true, false), (2, true, false), (3, true, false), (4, true, false), (5, true, false), (6, true, false), (7, true, false), (8, true, false), (9, false, true), (10, true, true), (11, true, true), (12, true, true), (13, true, true), (14, true, true), (15, true, true), (16, true, true)] (by kernel_rfl) ?_
    conv => cbv
    refine and_h h (fun g => (by subst hO; exact g)) (fun h => ?_)
    refine and_h h (fun g => (by subst hO; exact g)) (fun h => ?_)
    refine and_h h (fun g => (by subst hO; exact g)) (fun h => ?_)
    refine call_h hO [.shut, .shut] (d_p129 fu O.len hN h) ?_
    intro os Q hos hQ
    conv => cbv
    refine ⟨(by (rw [hos]) <;> (subst hO; rfl)), ?_⟩
    intro r bs hq
    rw [hQ] at hq
    clear hos hQ h
    obtain ⟨y1, y2, y3, _, _, ⟨rfl, rfl⟩, h⟩ := hq
    conv => cbv
    refine join_all hO ?_
    conv => cbv
    refine br_h hO h (by subst hO; rfl) (fun hc2 h => ?_) (fun hc2 h => ?_)
    · conv => cbv
      refine call_h hO [.ref 3, .shut] (d_p118 fu O.len hN h) ?_
      intro os Q hos hQ
      conv => cbv
      refine ⟨(by (rw [hos]) <;> (subst hO; rfl)), ?_⟩
      intro r bs hq
      rw [hQ] at hq
      clear hos hQ h
      obtain ⟨y4, y5, y6, _, ⟨rfl, rfl⟩, h⟩ := hq
      conv => cbv
      rw [hQ]
      exact ⟨⟨#[]⟩, y4, y5, y6, ⟨(by subst hO; rfl), (by subst hO; rfl)⟩, h⟩
    · conv => cbv
      refine join_all hO ?_
      conv => cbv
      refine tob_h hO h (by subst hO; rfl) (fun s7 h => ?_)
      conv => cbv
      rw [hQ]
      exact ⟨s7, x0, binStd .add .i64 x1 y2, x2, ⟨(by subst hO; rfl), (by subst hO; rfl)⟩, h⟩
end Go.Proofs.Ythncmjlcmlmnmaa

