/- Functions without memory, and that the Go functions are followed by them. Printed by gen.py. Conditions: none. -/
import Derived.Test.YthncmjlcmlmnmaaCW9
namespace Go.Proofs.Ythncmjlcmlmnmaa
open Go V
set_option maxRecDepth 100000
set_option maxHeartbeats 4000000
def p110_1 {ρ : Type} (fail : ρ) (fu : Nat) (s_p110 : (Int → Int → EL → EL → Int → Int → ρ) → EL → Int → Int → Int → ρ) (K0 : Int → Int → EL → EL → Int → Int → ρ) (rec1 : EL → Int → Int → EL → Int → ρ) (z15 : Int) (j16 : EL) (j17 : Int) (j18 : Int) (j19 : EL) : ρ :=
  rec1 j16 j17 j18 j19 (binStd .add .i64 z15 1)
def p110_2 {ρ : Type} (fail : ρ) (fu : Nat) (s_p110 : (Int → Int → EL → EL → Int → Int → ρ) → EL → Int → Int → Int → ρ) (K0 : Int → Int → EL → EL → Int → Int → ρ) (rec1 : EL → Int → Int → EL → Int → ρ) (x2 : Int) (y4 : Int) (j9 : Int) (j10 : Int) (z11 : EL) (z12 : Int) (z13 : Int) (z14 : EL) (z15 : Int) : ρ :=
  bif (cmpStd .lss z15 j10) then (bif (cmpStd .eql z12 0) then (s_p110 (fun y20 y21 y22 y23 y24 y25 => gd (1 ≤ [[(CV.v (.int .i64 y20)), (CV.v (.int .i64 y21)), (CV.sl 3 y22 none)]].length) fail (gd ((z14.length + (List.take 1 [[(CV.v (.int .i64 y20)), (CV.v (.int .i64 y21)), (CV.sl 3 y22 none)]]).length) * 40 ≤ 35184372088832) fail (p110_1 fail fu s_p110 K0 rec1 z15 y23 y24 y25 (z14 ++ (List.take 1 [[(CV.v (.int .i64 y20)), (CV.v (.int .i64 y21)), (CV.sl 3 y22 none)]]))))) z11 z12 (binStd .add .i64 x2 1) z13) else (p110_1 fail fu s_p110 K0 rec1 z15 z11 z12 z13 z14)) else (K0 y4 j9 z14 z11 z12 z13)
def p110_2L {ρ : Type} (fail : ρ) (fu : Nat) (s_p110 : (Int → Int → EL → EL → Int → Int → ρ) → EL → Int → Int → Int → ρ) (K0 : Int → Int → EL → EL → Int → Int → ρ)  (x2 : Int) (y4 : Int) (j9 : Int) (j10 : Int) : Nat → EL → Int → Int → EL → Int → ρ
  | 0, _, _, _, _, _ => fail
  | n + 1, z11, z12, z13, z14, z15 => p110_2 fail fu s_p110 K0 (p110_2L fail fu s_p110 K0  x2 y4 j9 j10 n) x2 y4 j9 j10 z11 z12 z13 z14 z15
def p110_3 {ρ : Type} (fail : ρ) (fu : Nat) (s_p110 : (Int → Int → EL → EL → Int → Int → ρ) → EL → Int → Int → Int → ρ) (K0 : Int → Int → EL → EL → Int → Int → ρ)  (x2 : Int) (y3 : Int) (y4 : Int) (j7 : EL) (j8 : Int) (j9 : Int) (j10 : Int) : ρ :=
  p110_2L fail fu s_p110 K0 x2 y4 j9 j10 fu j7 j8 y3 nilE 0
def p110_4 {ρ : Type} (fail : ρ) (fu : Nat) (s_p110 : (Int → Int → EL → EL → Int → Int → ρ) → EL → Int → Int → Int → ρ) (K0 : Int → Int → EL → EL → Int → Int → ρ)  (x2 : Int) (y3 : Int) (y4 : Int) (j27 : EL) (j28 : Int) (j29 : Int) (j30 : Int) : ρ :=
  p110_3 fail fu s_p110 K0 x2 y3 y4 j27 j28 j29 j30
def p110_5 {ρ : Type} (fail : ρ) (fu : Nat) (s_p110 : (Int → Int → EL → EL → Int → Int → ρ) → EL → Int → Int → Int → ρ) (K0 : Int → Int → EL → EL → Int → Int → ρ)  (x2 : Int) (y3 : Int) (y4 : Int) (j31 : EL) (j32 : Int) (j33 : Int) : ρ :=
  p110_4 fail fu s_p110 K0 x2 y3 y4 j31 j32 j33 0
def p110_6 {ρ : Type} (fail : ρ) (fu : Nat) (s_p110 : (Int → Int → EL → EL → Int → Int → ρ) → EL → Int → Int → Int → ρ) (K0 : Int → Int → EL → EL → Int → Int → ρ)  (x2 : Int) (y3 : Int) (y4 : Int) (y34 : Int) (j37 : EL) (j38 : Int) : ρ :=
  p110_5 fail fu s_p110 K0 x2 y3 y4 j37 j38 y34
def p110_7 {ρ : Type} (fail : ρ) (fu : Nat) (s_p110 : (Int → Int → EL → EL → Int → Int → ρ) → EL → Int → Int → Int → ρ) (K0 : Int → Int → EL → EL → Int → Int → ρ)  (x2 : Int) (y3 : Int) (y4 : Int) (y5 : EL) (y6 : Int) (j26 : Bool) : ρ :=
  bif j26 then (p110_4 fail fu s_p110 K0 x2 y3 y4 y5 y6 0 2) else (bif (cmpStd .eql y4 4) then (p91 fail fu (fun y34 y35 y36 => bif (cmpStd .geq y34 4) then (p94 fail fu (fun y39 y40 => p110_6 fail fu s_p110 K0 x2 y3 y4 y34 y39 y40) y35 y36 7) else (p110_6 fail fu s_p110 K0 x2 y3 y4 y34 y35 y36)) y5 y6) else (p110_5 fail fu s_p110 K0 x2 y3 y4 y5 y6 0))
/-- (*codec.Reader).level -/
def p110_b {ρ : Type} (fail : ρ) (fu : Nat) (s_p110 : (Int → Int → EL → EL → Int → Int → ρ) → EL → Int → Int → Int → ρ) (K0 : Int → Int → EL → EL → Int → Int → ρ) (x0 : EL) (x1 : Int) (x2 : Int) (x3 : Int) : ρ :=
  p137 fail fu (fun y1 y2 y3 => bif (cmpStd .neq y2 0) then (K0 0 0 nilE y1 y2 y3) else (p93 fail fu (fun y4 y5 y6 => bif (cmpStd .eql y4 1) then (p110_3 fail fu s_p110 K0 x2 y3 y4 y5 y6 0 1) else (bif (cmpStd .eql y4 2) then (p110_7 fail fu s_p110 K0 x2 y3 y4 y5 y6 (cmpStd .eql y4 2)) else (p110_7 fail fu s_p110 K0 x2 y3 y4 y5 y6 (cmpStd .eql y4 3)))) y1 y2 0 4)) x0 x1 x3 64 x2 32
def p110 {ρ : Type} (fail : ρ) : Nat → (Int → Int → EL → EL → Int → Int → ρ) → EL → Int → Int → Int → ρ
  | 0, _, _, _, _, _ => fail
  | n + 1, K0, x0, x1, x2, x3 => p110_b fail n (p110 fail n) K0 x0 x1 x2 x3
def D_p110 (fu : Nat) : Prop := ∀ {K0 : Int → Int → EL → EL → Int → Int → Prop} (L : EL → Nat) (_ : L = List.length) {x0 : EL} {x1 : Int} {x2 : Int} {x3 : Int} (_ : p110 False fu K0 x0 x1 x2 x3), Den Try.prog G0 110 [.ptr [.c (.sl 1 x0 none), .c (.v (.int .i64 x1))], .c (.v (.int .i64 x2)), .ptr [.c (.v (.int .i64 x3))]] (fun r bs => (∃ (y0 : Int) (y1 : Int) (y2 : EL) (y3 : EL) (y4 : Int) (y5 : Int) (o1 : OV), (r = .agg [.c (.v (.int .i64 y0)), .c (.v (.int .i64 y1)), .c (.sl 3 y2 none)] ∧ bs = [.ptr [.c (.sl 1 y3 none), .c (.v (.int .i64 y4))], o1, .ptr [.c (.v (.int .i64 y5))]]) ∧ K0 y0 y1 y2 y3 y4 y5))
theorem b_p110 (fu : Nat) (ih_p110 : D_p110 fu) {K0 : Int → Int → EL → EL → Int → Int → Prop} (L : EL → Nat) (hN : L = List.length) {x0 : EL} {x1 : Int} {x2 : Int} {x3 : Int} (h : p110_b False fu (p110 False fu) K0 x0 x1 x2 x3) : Den Try.prog G0 110 [.ptr [.c (.sl 1 x0 none), .c (.v (.int .i64 x1))], .c (.v (.int .i64 x2)), .ptr [.c (.v (.int .i64 x3))]] (fun r bs => (∃ (y0 : Int) (y1 : Int) (y2 : EL) (y3 : EL) (y4 : Int) (y5 : Int) (o1 : OV), (r = .agg [.c (.v (.int .i64 y0)), .c (.v (.int .i64 y1)), .c (.sl 3 y2 none)] ∧ bs = [.ptr [.c (.sl 1 y3 none), .c (.v (.int .i64 y4))], o1, .ptr [.c (.v (.int .i64 y5))]]) ∧ K0 y0 y1 y2 y3 y4 y5)) := by
  obtain ⟨O, hO⟩ : ∃ O, O = std 2 T G0 (Den Try.prog G0) := ⟨_, rfl⟩
  have hLO : L = O.len := by rw [hN, hO]; rfl
  subst hLO
  refine den_h hO tiA mixed tabOk (fn := Try.f110) (sh := true) (by kernel_rfl) rfl rfl rfl rfl ?_
  intro Q hQ
  unfold p110_b at h
  conv => cbv
  refine call_h hO [.ref 2, .ref 1, .shut, .shut, .shut] (d_p137 fu O.len hN h) ?_
  intro os Q hos hQ
  conv => cbv
  refine ⟨(by (rw [hos]) <;> (subst hO; rfl)), ?_⟩
  intro r bs hq
  rw [hQ] at hq
  clear hos hQ h
  obtain ⟨y1, y2, y3, _, _, _, ⟨rfl, rfl⟩, h⟩ := hq
  conv => cbv
  refine br_h hO h (by subst hO; rfl) (fun hc1 h => ?_) (fun hc1 h => ?_)
  · conv => cbv
    rw [hQ]
    exact ⟨0, 0, nilE, y1, y2, y3, _, ⟨(by subst hO; rfl), (by subst hO; rfl)⟩, h⟩
  · conv => cbv
    refine join_all hO ?_
    conv => cbv
    refine call_h hO [.ref 2, .shut, .shut] (d_p93 fu O.len hN h) ?_
    intro os Q hos hQ
    conv => cbv
    refine ⟨(by (rw [hos]) <;> (subst hO; rfl)), ?_⟩
    intro r bs hq
    rw [hQ] at hq
    clear hos hQ h
    obtain ⟨y4, y5, y6, _, _, ⟨rfl, rfl⟩, h⟩ := hq
    conv => cbv
    refine br_join_h hO tiA h (by subst hO; rfl) [0, 1, 2, 6, 7, 8] [0, 1, 7000, 8000] [] (fun tm m => ∃ (j7 : EL) (j8 : Int) (j9 : Int) (j10 : Int), ((tm = frame 0 59 [(0, .p 0 0 0), (1, .c (.v (.int .i64 x2))), (2, .p 1 1 0), (6, .p 7000 2 0), (7, .p 8000 2 0), (8, .c (.v (.int .i64 j10)))] ∧ m = ⟨[(0, .blk 0 [.c (.sl 1 j7 none), .c (.v (.int .i64 j8))]), (1, .blk 1 [.c (.v (.int .i64 y3))]), (7000, .blk 2 [.c (.v (.int .i64 0)), .c (.v (.int .i64 0)), .c (.sl 3 [] (some []))]), (8000, .blk 2 [.c (.v (.int .i64 y4)), .c (.v (.int .i64 j9)), .c (.sl 3 [] (some []))])], 3⟩)) ∧ p110_3 False fu (p110 False fu) K0 x2 y3 y4 j7 j8 j9 j10) (fun hc4 h L hL_3 => ?_) (fun hc4 h L hL_3 => ?_) ?_
    · conv => cbv
      exact hL_3 _ _ ⟨y5, y6, 0, 1, ⟨(by (conv => lhs; cbv) <;> (subst hO; rfl)), (by (conv => lhs; cbv) <;> (subst hO; rfl))⟩, h⟩
    · conv => cbv
      refine br_join_h hO tiA h (by subst hO; rfl) [0, 1, 2, 6, 7, 8, 23, 26] [0, 1, 7000, 8000] [] (fun tm m => ∃ (j26 : Bool), ((tm = frame 0 59 [(0, .p 0 0 0), (1, .c (.v (.int .i64 x2))), (2, .p 1 1 0), (6, .p 7000 2 0), (7, .p 8000 2 0), (8, .c (.v (.int .i64 0))), (23, .c (.v (.int .i64 y4))), (26, .c (.v (.bool j26)))] ∧ m = ⟨[(0, .blk 0 [.c (.sl 1 y5 none), .c (.v (.int .i64 y6))]), (1, .blk 1 [.c (.v (.int .i64 y3))]), (7000, .blk 2 [.c (.v (.int .i64 0)), .c (.v (.int .i64 0)), .c (.sl 3 [] (some []))]), (8000, .blk 2 [.c (.v (.int .i64 y4)), .c (.v (.int .i64 0)), .c (.sl 3 [] (some []))])], 3⟩)) ∧ p110_7 False fu (p110 False fu) K0 x2 y3 y4 y5 y6 j26) (fun hc8 h L hL_7 => ?_) (fun hc8 h L hL_7 => ?_) ?_
      · conv => cbv
        exact hL_7 _ _ ⟨(cmpStd .eql y4 2), ⟨(by (conv => lhs; cbv) <;> (subst hO; rfl)), (by (conv => lhs; cbv) <;> (subst hO; rfl))⟩, h⟩
      · conv => cbv
        exact hL_7 _ _ ⟨(cmpStd .eql y4 3), ⟨(by (conv => lhs; cbv) <;> (subst hO; rfl)), (by (conv => lhs; cbv) <;> (subst hO; rfl))⟩, h⟩
      · rintro tm m ⟨j26, hs, h⟩
        unfold p110_7 at h
        obtain ⟨rfl, rfl⟩ := hs
        conv => cbv
        refine br_join_h hO tiA h (by subst hO; rfl) [0, 1, 2, 6, 7, 8] [0, 1, 7000, 8000] [] (fun tm m => ∃ (j27 : EL) (j28 : Int) (j29 : Int) (j30 : Int), ((tm = frame 0 59 [(0, .p 0 0 0), (1, .c (.v (.int .i64 x2))), (2, .p 1 1 0), (6, .p 7000 2 0), (7, .p 8000 2 0), (8, .c (.v (.int .i64 j30)))] ∧ m = ⟨[(0, .blk 0 [.c (.sl 1 j27 none), .c (.v (.int .i64 j28))]), (1, .blk 1 [.c (.v (.int .i64 y3))]), (7000, .blk 2 [.c (.v (.int .i64 0)), .c (.v (.int .i64 0)), .c (.sl 3 [] (some []))]), (8000, .blk 2 [.c (.v (.int .i64 y4)), .c (.v (.int .i64 j29)), .c (.sl 3 [] (some []))])], 3⟩)) ∧ p110_4 False fu (p110 False fu) K0 x2 y3 y4 j27 j28 j29 j30) (fun hc5 h L hL_4 => ?_) (fun hc5 h L hL_4 => ?_) ?_
        · conv => cbv
          exact hL_4 _ _ ⟨y5, y6, 0, 2, ⟨(by (conv => lhs; cbv) <;> (subst hO; rfl)), (by (conv => lhs; cbv) <;> (subst hO; rfl))⟩, h⟩
        · conv => cbv
          refine br_join_h hO tiA h (by subst hO; rfl) [0, 1, 2, 6, 7, 8] [0, 1, 7000, 8000] [] (fun tm m => ∃ (j31 : EL) (j32 : Int) (j33 : Int), ((tm = frame 0 59 [(0, .p 0 0 0), (1, .c (.v (.int .i64 x2))), (2, .p 1 1 0), (6, .p 7000 2 0), (7, .p 8000 2 0), (8, .c (.v (.int .i64 0)))] ∧ m = ⟨[(0, .blk 0 [.c (.sl 1 j31 none), .c (.v (.int .i64 j32))]), (1, .blk 1 [.c (.v (.int .i64 y3))]), (7000, .blk 2 [.c (.v (.int .i64 0)), .c (.v (.int .i64 0)), .c (.sl 3 [] (some []))]), (8000, .blk 2 [.c (.v (.int .i64 y4)), .c (.v (.int .i64 j33)), .c (.sl 3 [] (some []))])], 3⟩)) ∧ p110_5 False fu (p110 False fu) K0 x2 y3 y4 j31 j32 j33) (fun hc6 h L hL_5 => ?_) (fun hc6 h L hL_5 => ?_) ?_
          · conv => cbv
            refine call_h hO [.ref 2] (d_p91 fu O.len hN h) ?_
            intro os Q hos hQ
            conv => cbv
            refine ⟨(by (rw [hos]) <;> (subst hO; rfl)), ?_⟩
            intro r bs hq
            rw [hQ] at hq
            clear hos hQ h
            obtain ⟨y34, y35, y36, ⟨rfl, rfl⟩, h⟩ := hq
            conv => cbv
            refine br_join_h hO tiA h (by subst hO; rfl) [0, 1, 2, 6, 7, 8] [0, 1, 7000, 8000] [] (fun tm m => ∃ (j37 : EL) (j38 : Int), ((tm = frame 0 59 [(0, .p 0 0 0), (1, .c (.v (.int .i64 x2))), (2, .p 1 1 0), (6, .p 7000 2 0), (7, .p 8000 2 0), (8, .c (.v (.int .i64 0)))] ∧ m = ⟨[(0, .blk 0 [.c (.sl 1 j37 none), .c (.v (.int .i64 j38))]), (1, .blk 1 [.c (.v (.int .i64 y3))]), (7000, .blk 2 [.c (.v (.int .i64 0)), .c (.v (.int .i64 0)), .c (.sl 3 [] (some []))]), (8000, .blk 2 [.c (.v (.int .i64 y4)), .c (.v (.int .i64 y34)), .c (.sl 3 [] (some []))])], 3⟩)) ∧ p110_6 False fu (p110 False fu) K0 x2 y3 y4 y34 j37 j38) (fun hc7 h L hL_6 => ?_) (fun hc7 h L hL_6 => ?_) ?_
            · conv => cbv
              refine call_h hO [.ref 2, .shut] (d_p94 fu O.len hN h) ?_
              intro os Q hos hQ
              conv => cbv
              refine ⟨(by (rw [hos]) <;> (subst hO; rfl)), ?_⟩
              intro r bs hq
              rw [hQ] at hq
              clear hos hQ h
              obtain ⟨y39, y40, _, ⟨rfl, rfl⟩, h⟩ := hq
              conv => cbv
              exact hL_6 _ _ ⟨y39, y40, ⟨(by (conv => lhs; cbv) <;> (subst hO; rfl)), (by (conv => lhs; cbv) <;> (subst hO; rfl))⟩, h⟩
            · conv => cbv
              exact hL_6 _ _ ⟨y35, y36, ⟨(by (conv => lhs; cbv) <;> (subst hO; rfl)), (by (conv => lhs; cbv) <;> (subst hO; rfl))⟩, h⟩
            · rintro tm m ⟨j37, j38, hs, h⟩
              unfold p110_6 at h
              obtain ⟨rfl, rfl⟩ := hs
              conv => cbv
              exact hL_5 _ _ ⟨j37, j38, y34, ⟨(by (conv => lhs; cbv) <;> (subst hO; rfl)), (by (conv => lhs; cbv) <;> (subst hO; rfl))⟩, h⟩
          · conv => cbv
            exact hL_5 _ _ ⟨y5, y6, 0, ⟨(by (conv => lhs; cbv) <;> (subst hO; rfl)), (by (conv => lhs; cbv) <;> (subst hO; rfl))⟩, h⟩
          · rintro tm m ⟨j31, j32, j33, hs, h⟩
            unfold p110_5 at h
            obtain ⟨rfl, rfl⟩ := hs
            conv => cbv
            exact hL_4 _ _ ⟨j31, j32, j33, 0, ⟨(by (conv => lhs; cbv) <;> (subst hO; rfl)), (by (conv => lhs; cbv) <;> (subst hO; rfl))⟩, h⟩
        · rintro tm m ⟨j27, j28, j29, j30, hs, h⟩
          unfold p110_4 at h
          obtain ⟨rfl, rfl⟩ := hs
          conv => cbv
          exact hL_3 _ _ ⟨j27, j28, j29, j30, ⟨(by (conv => lhs; cbv) <;> (subst hO; rfl)), (by (conv => lhs; cbv) <;> (subst hO; rfl))⟩, h⟩
    · rintro tm m ⟨j7, j8, j9, j10, hs, h⟩
      unfold p110_3 at h
      obtain ⟨rfl, rfl⟩ := hs
      conv => cbv
      refine loop_of hO tiA [0, 1, 2, 6, 7, 39, 40] [0, 1, 7000, 8000, 56000] [] (fun (n : Nat) tm m => ∃ (z11 : EL) (z12 : Int) (z13 : Int) (z14 : EL) (z15 : Int), ((z14 = [] ∧ tm = frame 0 59 [(0, .p 0 0 0), (1, .c (.v (.int .i64 x2))), (2, .p 1 1 0), (6, .p 7000 2 0), (7, .p 8000 2 0), (39, .c (.v (.int .i64 j10))), (40, .c (.v (.int .i64 z15)))] ∧ m = ⟨[(0, .blk 0 [.c (.sl 1 z11 none), .c (.v (.int .i64 z12))]), (1, .blk 1 [.c (.v (.int .i64 z13))]), (7000, .blk 2 [.c (.v (.int .i64 0)), .c (.v (.int .i64 0)), .c (.sl 3 [] (some []))]), (8000, .blk 2 [.c (.v (.int .i64 y4)), .c (.v (.int .i64 j9)), .c (.sl 3 [] (some []))])], 3⟩) ∨ (tm = frame 0 59 [(0, .p 0 0 0), (1, .c (.v (.int .i64 x2))), (2, .p 1 1 0), (6, .p 7000 2 0), (7, .p 8000 2 0), (39, .c (.v (.int .i64 j10))), (40, .c (.v (.int .i64 z15)))] ∧ m = ⟨[(0, .blk 0 [.c (.sl 1 z11 none), .c (.v (.int .i64 z12))]), (1, .blk 1 [.c (.v (.int .i64 z13))]), (7000, .blk 2 [.c (.v (.int .i64 0)), .c (.v (.int .i64 0)), .c (.sl 3 [] (some []))]), (8000, .blk 2 [.c (.v (.int .i64 y4)), .c (.v (.int .i64 j9)), .t 56000 2 (O.len z14)]), (56000, .arr 2 3 z14 none false)], 3⟩)) ∧ p110_2L False fu (p110 False fu) K0 x2 y4 j9 j10 n z11 z12 z13 z14 z15) (fun n => n) fu ⟨j7, j8, y3, nilE, 0, (.inl ⟨rfl, (by (conv => lhs; cbv) <;> (subst hO; rfl)), (by (conv => lhs; cbv) <;> (subst hO; rfl))⟩), h⟩ ?_
      rintro n1 tm m L ⟨z11, z12, z13, z14, z15, hs, h⟩ hLn1
      cases n1 with
      | zero => rw [p110_2L] at h; exact h.elim
      | succ n1 =>
        rw [p110_2L] at h
        unfold p110_2 at h
        rcases hs with hs | hs
        · obtain ⟨rfl, rfl, rfl⟩ := hs
          conv => cbv
          refine br_h hO h (by subst hO; rfl) (fun hc2 h => ?_) (fun hc2 h => ?_)
          · conv => cbv
            refine join_all hO ?_
            conv => cbv
            refine br_join_h hO tiA h (by subst hO; rfl) [0, 1, 2, 6, 7, 39, 40] [0, 1, 7000, 8000, 56000] [] (fun tm m => ∃ (j16 : EL) (j17 : Int) (j18 : Int) (j19 : EL), ((tm = frame 0 59 [(0, .p 0 0 0), (1, .c (.v (.int .i64 x2))), (2, .p 1 1 0), (6, .p 7000 2 0), (7, .p 8000 2 0), (39, .c (.v (.int .i64 j10))), (40, .c (.v (.int .i64 z15)))] ∧ m = ⟨[(0, .blk 0 [.c (.sl 1 j16 none), .c (.v (.int .i64 j17))]), (1, .blk 1 [.c (.v (.int .i64 j18))]), (7000, .blk 2 [.c (.v (.int .i64 0)), .c (.v (.int .i64 0)), .c (.sl 3 [] (some []))]), (8000, .blk 2 [.c (.v (.int .i64 y4)), .c (.v (.int .i64 j9)), .t 56000 2 (O.len j19)]), (56000, .arr 2 3 j19 none false)], 3⟩) ∨ (j19 = [] ∧ tm = frame 0 59 [(0, .p 0 0 0), (1, .c (.v (.int .i64 x2))), (2, .p 1 1 0), (6, .p 7000 2 0), (7, .p 8000 2 0), (39, .c (.v (.int .i64 j10))), (40, .c (.v (.int .i64 z15)))] ∧ m = ⟨[(0, .blk 0 [.c (.sl 1 j16 none), .c (.v (.int .i64 j17))]), (1, .blk 1 [.c (.v (.int .i64 j18))]), (7000, .blk 2 [.c (.v (.int .i64 0)), .c (.v (.int .i64 0)), .c (.sl 3 [] (some []))]), (8000, .blk 2 [.c (.v (.int .i64 y4)), .c (.v (.int .i64 j9)), .c (.sl 3 [] (some []))])], 3⟩)) ∧ p110_1 False fu (p110 False fu) K0 (p110_2L False fu (p110 False fu) K0  x2 y4 j9 j10 n1) z15 j16 j17 j18 j19) (fun hc3 h L hL_1 => ?_) (fun hc3 h L hL_1 => ?_) ?_
            · conv => cbv
              refine drawn_of hO tiA [[0, 1], [], [], [], []] [(0, true, false), (1, true, false), (2, true, false), (3, true, false), (4, true, false), (5, true, false), (6, false, false), (7, false, false), (8, false, true), (9, true, true), (10, false, true)] (by kernel_rfl) ?_
              conv => cbv
              refine call_h hO [.ref 2, .shut, .ref 1] (ih_p110 O.len hN h) ?_
              intro os Q hos hQ
              conv => cbv
              refine ⟨(by (rw [hos]) <;> (subst hO; rfl)), ?_⟩
              intro r bs hq
              rw [hQ] at hq
              clear hos hQ h
              obtain ⟨y20, y21, y22, y23, y24, y25, _, ⟨rfl, rfl⟩, h⟩ := hq
              conv => cbv
              refine ⟨agree_of hO (Nat.le_of_ble_eq_true rfl) rfl, ?_⟩
              refine ⟨agree_of hO (Nat.le_of_ble_eq_true rfl) rfl, ?_⟩
              refine view_h hO h (fun g => (by subst hO; exact g)) (fun h => ?_)
              conv => cbv
              refine and_h h (fun g => (by subst hO; exact g)) (fun h => ?_)
              refine emp_no hO (by subst hO; exact List.cons_ne_nil _ _) ?_
              conv => cbv
              refine join_all hO ?_
              conv => cbv
              exact hL_1 _ _ ⟨y23, y24, y25, (nilE ++ (List.take 1 [[(CV.v (.int .i64 y20)), (CV.v (.int .i64 y21)), (CV.sl 3 y22 none)]])), (.inl ⟨(by (conv => lhs; cbv) <;> (subst hO; rfl)), (by (conv => lhs; cbv) <;> (subst hO; rfl))⟩), h⟩
            · conv => cbv
              exact hL_1 _ _ ⟨z11, z12, z13, nilE, (.inr ⟨rfl, (by (conv => lhs; cbv) <;> (subst hO; rfl)), (by (conv => lhs; cbv) <;> (subst hO; rfl))⟩), h⟩
            · rintro tm m ⟨j16, j17, j18, j19, hs, h⟩
              unfold p110_1 at h
              rcases hs with hs | hs
              · obtain ⟨rfl, rfl⟩ := hs
                conv => cbv
                exact hLn1 n1 _ _ (Nat.lt_succ_self n1) ⟨j16, j17, j18, j19, binStd .add .i64 z15 1, (.inr ⟨(by (conv => lhs; cbv) <;> (subst hO; rfl)), (by (conv => lhs; cbv) <;> (subst hO; rfl))⟩), h⟩
              · obtain ⟨rfl, rfl, rfl⟩ := hs
                conv => cbv
                exact hLn1 n1 _ _ (Nat.lt_succ_self n1) ⟨j16, j17, j18, nilE, binStd .add .i64 z15 1, (.inl ⟨rfl, (by (conv => lhs; cbv) <;> (subst hO; rfl)), (by (conv => lhs; cbv) <;> (subst hO; rfl))⟩), h⟩
          · conv => cbv
            rw [hQ]
            exact ⟨y4, j9, nilE, z11, z12, z13, _, ⟨(by subst hO; rfl), (by subst hO; rfl)⟩, h⟩
        · obtain ⟨rfl, rfl⟩ := hs
          conv => cbv
          refine br_h hO h (by subst hO; rfl) (fun hc2 h => ?_) (fun hc2 h => ?_)
          · conv => cbv
            refine join_all hO ?_
            conv => cbv
            refine br_join_h hO tiA h (by subst hO; rfl) [0, 1, 2, 6, 7, 39, 40] [0, 1, 7000, 8000, 56000] [] (fun tm m => ∃ (j16 : EL) (j17 : Int) (j18 : Int) (j19 : EL), ((tm = frame 0 59 [(0, .p 0 0 0), (1, .c (.v (.int .i64 x2))), (2, .p 1 1 0), (6, .p 7000 2 0), (7, .p 8000 2 0), (39, .c (.v (.int .i64 j10))), (40, .c (.v (.int .i64 z15)))] ∧ m = ⟨[(0, .blk 0 [.c (.sl 1 j16 none), .c (.v (.int .i64 j17))]), (1, .blk 1 [.c (.v (.int .i64 j18))]), (7000, .blk 2 [.c (.v (.int .i64 0)), .c (.v (.int .i64 0)), .c (.sl 3 [] (some []))]), (8000, .blk 2 [.c (.v (.int .i64 y4)), .c (.v (.int .i64 j9)), .t 56000 2 (O.len j19)]), (56000, .arr 2 3 j19 none false)], 3⟩)) ∧ p110_1 False fu (p110 False fu) K0 (p110_2L False fu (p110 False fu) K0  x2 y4 j9 j10 n1) z15 j16 j17 j18 j19) (fun hc3 h L hL_1 => ?_) (fun hc3 h L hL_1 => ?_) ?_
            · conv => cbv
              refine drawn_of hO tiA [[0, 1], [], [], [], []] [(0, true, false), (1, true, false), (2, true, false), (3, true, false), (4, true, false), (5, true, false), (6, false, false), (7, false, false), (8, false, true), (9, true, true), (10, false, true)] (by kernel_rfl) ?_
              conv => cbv
              refine call_h hO [.ref 2, .shut, .ref 1] (ih_p110 O.len hN h) ?_
              intro os Q hos hQ
              conv => cbv
              refine ⟨(by (rw [hos]) <;> (subst hO; rfl)), ?_⟩
              intro r bs hq
              rw [hQ] at hq
              clear hos hQ h
              obtain ⟨y20, y21, y22, y23, y24, y25, _, ⟨rfl, rfl⟩, h⟩ := hq
              conv => cbv
              refine ⟨agree_of hO (Nat.le_of_ble_eq_true rfl) rfl, ?_⟩
              refine ⟨agree_of hO (Nat.le_of_ble_eq_true rfl) rfl, ?_⟩
              refine view_h hO h (fun g => (by subst hO; exact g)) (fun h => ?_)
              conv => cbv
              refine ⟨(by subst hO; rfl), ?_⟩
              refine and_h h (fun g => (by subst hO; exact g)) (fun h => ?_)
              refine join_all hO ?_
              conv => cbv
              exact hL_1 _ _ ⟨y23, y24, y25, (z14 ++ (List.take 1 [[(CV.v (.int .i64 y20)), (CV.v (.int .i64 y21)), (CV.sl 3 y22 none)]])), ⟨(by (conv => lhs; cbv) <;> (subst hO; rfl)), (by (conv => lhs; cbv) <;> (subst hO; rfl))⟩, h⟩
            · conv => cbv
              exact hL_1 _ _ ⟨z11, z12, z13, z14, ⟨(by (conv => lhs; cbv) <;> (subst hO; rfl)), (by (conv => lhs; cbv) <;> (subst hO; rfl))⟩, h⟩
            · rintro tm m ⟨j16, j17, j18, j19, hs, h⟩
              unfold p110_1 at h
              obtain ⟨rfl, rfl⟩ := hs
              conv => cbv
              exact hLn1 n1 _ _ (Nat.lt_succ_self n1) ⟨j16, j17, j18, j19, binStd .add .i64 z15 1, (.inr ⟨(by (conv => lhs; cbv) <;> (subst hO; rfl)), (by (conv => lhs; cbv) <;> (subst hO; rfl))⟩), h⟩
          · conv => cbv
            refine view_full hO ?_
            conv => cbv
            rw [hQ]
            exact ⟨y4, j9, z14, z11, z12, z13, _, ⟨(by subst hO; rfl), (by subst hO; rfl)⟩, h⟩
theorem dd_p110 (fu : Nat) : D_p110 fu := by
  induction fu with
  | zero => unfold D_p110; intros; rename_i h; rw [p110] at h; exact h.elim
  | succ n ih =>
    exact (by unfold D_p110; intro K0 L hN x0 x1 x2 x3 h; exact b_p110 n ih L hN (by rw [p110] at h; exact h))
theorem d_p110 (fu : Nat) {K0 : Int → Int → EL → EL → Int → Int → Prop} (L : EL → Nat) (hL : L = List.length) {x0 : EL} {x1 : Int} {x2 : Int} {x3 : Int} (h : p110 False fu K0 x0 x1 x2 x3) : Den Try.prog G0 110 [.ptr [.c (.sl 1 x0 none), .c (.v (.int .i64 x1))], .c (.v (.int .i64 x2)), .ptr [.c (.v (.int .i64 x3))]] (fun r bs => (∃ (y0 : Int) (y1 : Int) (y2 : EL) (y3 : EL) (y4 : Int) (y5 : Int) (o1 : OV), (r = .agg [.c (.v (.int .i64 y0)), .c (.v (.int .i64 y1)), .c (.sl 3 y2 none)] ∧ bs = [.ptr [.c (.sl 1 y3 none), .c (.v (.int .i64 y4))], o1, .ptr [.c (.v (.int .i64 y5))]]) ∧ K0 y0 y1 y2 y3 y4 y5)) := dd_p110 fu L hL h
end Go.Proofs.Ythncmjlcmlmnmaa

namespace Go.Proofs.Ythncmjlcmlmnmaa
open Go V
set_option maxRecDepth 100000
set_option maxHeartbeats 4000000
/-- (*codec.Reader).Level -/
def p67 {ρ : Type} (fail : ρ) (fu : Nat)  (K0 : Int → Int → EL → EL → Int → ρ) (x0 : EL) (x1 : Int) : ρ :=
  p110 fail fu (fun y1 y2 y3 y4 y5 y6 => K0 y1 y2 y3 y4 y5) x0 x1 1 0
theorem d_p67 (fu : Nat)  {K0 : Int → Int → EL → EL → Int → Prop} (L : EL → Nat) (hN : L = List.length) {x0 : EL} {x1 : Int} (h : p67 False fu K0 x0 x1) : Den Try.prog G0 67 [.ptr [.c (.sl 1 x0 none), .c (.v (.int .i64 x1))]] (fun r bs => (∃ (y0 : Int) (y1 : Int) (y2 : EL) (y3 : EL) (y4 : Int), (r = .agg [.c (.v (.int .i64 y0)), .c (.v (.int .i64 y1)), .c (.sl 3 y2 none)] ∧ bs = [.ptr [.c (.sl 1 y3 none), .c (.v (.int .i64 y4))]]) ∧ K0 y0 y1 y2 y3 y4)) := by
  obtain ⟨O, hO⟩ : ∃ O, O = std 1 T G0 (Den Try.prog G0) := ⟨_, rfl⟩
  have hLO : L = O.len := by rw [hN, hO]; rfl
  subst hLO
  refine den_h hO tiA mixed tabOk (fn := Try.f67) (sh := true) (by kernel_rfl) rfl rfl rfl rfl ?_
  intro Q hQ
  unfold p67 at h
  conv => cbv
  refine call_h hO [.ref 2, .shut, .ref 1] (d_p110 fu O.len hN h) ?_
  intro os Q hos hQ
  conv => cbv
  refine ⟨(by (rw [hos]) <;> (subst hO; rfl)), ?_⟩
  intro r bs hq
  rw [hQ] at hq
  clear hos hQ h
  obtain ⟨y1, y2, y3, y4, y5, y6, _, ⟨rfl, rfl⟩, h⟩ := hq
  conv => cbv
  rw [hQ]
  exact ⟨y1, y2, y3, y4, y5, ⟨(by subst hO; rfl), (by subst hO; rfl)⟩, h⟩
end Go.Proofs.Ythncmjlcmlmnmaa

namespace Go.Proofs.Ythncmjlcmlmnmaa
open Go V
set_option maxRecDepth 100000
set_option maxHeartbeats 2000000
inductive Lv where
  | mk (k n : Int) (args : List Lv)
def Lv.k : Lv → Int
  | .mk k _ _ => k
def Lv.n : Lv → Int
  | .mk _ n _ => n
def Lv.args : Lv → List Lv
  | .mk _ _ l => l
mutual
def Lv.row : Lv → List CV
  | .mk k n l => [.v (.int .i64 k), .v (.int .i64 n), .sl 3 (Lv.rows l) none]
def Lv.rows : List Lv → EL
  | [] => []
  | a :: l => Lv.row a :: Lv.rows l
end
theorem Lv.row_eq (l : Lv) : l.row = [.v (.int .i64 l.k), .v (.int .i64 l.n), .sl 3 (Lv.rows l.args) none] := by cases l; rfl
theorem Lv.rows_len : ∀ l : List Lv, (Lv.rows l).length = l.length
  | [] => rfl
  | _ :: l => by simp [Lv.rows, Lv.rows_len l]
theorem Lv.rows_get {l : List Lv} {i : Nat} (h : i < l.length) : (Lv.rows l).getD i [] = l[i].row := by
  induction l generalizing i with
  | nil => simp at h
  | cons a l ih => cases i with
    | zero => rfl
    | succ i => simpa [Lv.rows] using ih (by simpa using h)
/-- So many, one behind the other; the second number goes through. -/
def many {α : Type} (f : Nat → List UInt8 → Except Int (α × List UInt8 × Nat)) : Nat → Nat → List UInt8 → Except Int (List α × List UInt8 × Nat)
  | 0, p, bs => .ok ([], bs, p)
  | n + 1, p, bs => match f p bs with
    | .error e => .error e
    | .ok (a, bs, p) => match many f n p bs with
      | .error e => .error e
      | .ok (l, bs, p) => .ok (a :: l, bs, p)
/-- How many Args a level's kind has. -/
def lvN (k : Nat) : Nat := if k = 1 then 1 else if k = 2 then 2 else if k = 3 then 2 else 0
end Go.Proofs.Ythncmjlcmlmnmaa

namespace Go.Proofs.Ythncmjlcmlmnmaa
open Go V
set_option maxRecDepth 100000
set_option maxHeartbeats 4000000
def p109_1 {ρ : Type} (fail : ρ) (fu : Nat) (s_p109 : (Int → Int → ByteArray → EL → EL → EL → Int → Int → ρ) → EL → Int → Int → Int → ρ) (K0 : Int → Int → ByteArray → EL → EL → EL → Int → Int → ρ) (rec2 : EL → Int → Int → EL → Int → ρ) (x2 : Int) (y4 : Int) (j9 : Int) (j10 : ByteArray) (j11 : Int) (z15 : EL) (z22 : EL) (z23 : Int) (z24 : Int) (z25 : EL) (z26 : Int) : ρ :=
  bif (cmpStd .lss z26 j11) then (bif (cmpStd .neq z23 0) then (K0 y4 j9 j10 z15 z25 z22 z23 z24) else (s_p109 (fun y27 y28 y29 y30 y31 y32 y33 y34 => gd (1 ≤ [[(CV.v (.int .i64 y27)), (CV.v (.int .i64 y28)), (CV.v (.string y29)), (CV.sl 3 y30 none), (CV.sl 5 y31 none)]].length) fail (gd ((z25.length + (List.take 1 [[(CV.v (.int .i64 y27)), (CV.v (.int .i64 y28)), (CV.v (.string y29)), (CV.sl 3 y30 none), (CV.sl 5 y31 none)]]).length) * 80 ≤ 35184372088832) fail (rec2 y32 y33 y34 (z25 ++ (List.take 1 [[(CV.v (.int .i64 y27)), (CV.v (.int .i64 y28)), (CV.v (.string y29)), (CV.sl 3 y30 none), (CV.sl 5 y31 none)]])) (binStd .add .i64 z26 1)))) z22 z23 (binStd .add .i64 x2 1) z24)) else (K0 y4 j9 j10 z15 z25 z22 z23 z24)
def p109_1L {ρ : Type} (fail : ρ) (fu : Nat) (s_p109 : (Int → Int → ByteArray → EL → EL → EL → Int → Int → ρ) → EL → Int → Int → Int → ρ) (K0 : Int → Int → ByteArray → EL → EL → EL → Int → Int → ρ)  (x2 : Int) (y4 : Int) (j9 : Int) (j10 : ByteArray) (j11 : Int) (z15 : EL) : Nat → EL → Int → Int → EL → Int → ρ
  | 0, _, _, _, _, _ => fail
  | n + 1, z22, z23, z24, z25, z26 => p109_1 fail fu s_p109 K0 (p109_1L fail fu s_p109 K0  x2 y4 j9 j10 j11 z15 n) x2 y4 j9 j10 j11 z15 z22 z23 z24 z25 z26
def p109_2 {ρ : Type} (fail : ρ) (fu : Nat) (s_p109 : (Int → Int → ByteArray → EL → EL → EL → Int → Int → ρ) → EL → Int → Int → Int → ρ) (K0 : Int → Int → ByteArray → EL → EL → EL → Int → Int → ρ) (rec1 : EL → Int → EL → Int → ρ) (x2 : Int) (y3 : Int) (y4 : Int) (j9 : Int) (j10 : ByteArray) (j11 : Int) (j12 : Int) (z13 : EL) (z14 : Int) (z15 : EL) (z16 : Int) : ρ :=
  bif (cmpStd .lss z16 j12) then (bif (cmpStd .neq z14 0) then (K0 y4 j9 j10 z15 nilE z13 z14 y3) else (p67 fail fu (fun y17 y18 y19 y20 y21 => gd (1 ≤ [[(CV.v (.int .i64 y17)), (CV.v (.int .i64 y18)), (CV.sl 3 y19 none)]].length) fail (gd ((z15.length + (List.take 1 [[(CV.v (.int .i64 y17)), (CV.v (.int .i64 y18)), (CV.sl 3 y19 none)]]).length) * 40 ≤ 35184372088832) fail (rec1 y20 y21 (z15 ++ (List.take 1 [[(CV.v (.int .i64 y17)), (CV.v (.int .i64 y18)), (CV.sl 3 y19 none)]])) (binStd .add .i64 z16 1)))) z13 z14)) else (p109_1L fail fu s_p109 K0 x2 y4 j9 j10 j11 z15 fu z13 z14 y3 nilE 0)
def p109_2L {ρ : Type} (fail : ρ) (fu : Nat) (s_p109 : (Int → Int → ByteArray → EL → EL → EL → Int → Int → ρ) → EL → Int → Int → Int → ρ) (K0 : Int → Int → ByteArray → EL → EL → EL → Int → Int → ρ)  (x2 : Int) (y3 : Int) (y4 : Int) (j9 : Int) (j10 : ByteArray) (j11 : Int) (j12 : Int) : Nat → EL → Int → EL → Int → ρ
  | 0, _, _, _, _ => fail
  | n + 1, z13, z14, z15, z16 => p109_2 fail fu s_p109 K0 (p109_2L fail fu s_p109 K0  x2 y3 y4 j9 j10 j11 j12 n) x2 y3 y4 j9 j10 j11 j12 z13 z14 z15 z16
def p109_3 {ρ : Type} (fail : ρ) (fu : Nat) (s_p109 : (Int → Int → ByteArray → EL → EL → EL → Int → Int → ρ) → EL → Int → Int → Int → ρ) (K0 : Int → Int → ByteArray → EL → EL → EL → Int → Int → ρ)  (x2 : Int) (y3 : Int) (y4 : Int) (j7 : EL) (j8 : Int) (j9 : Int) (j10 : ByteArray) (j11 : Int) (j12 : Int) : ρ :=
  p109_2L fail fu s_p109 K0 x2 y3 y4 j9 j10 j11 j12 fu j7 j8 nilE 0
def p109_4 {ρ : Type} (fail : ρ) (fu : Nat) (s_p109 : (Int → Int → ByteArray → EL → EL → EL → Int → Int → ρ) → EL → Int → Int → Int → ρ) (K0 : Int → Int → ByteArray → EL → EL → EL → Int → Int → ρ)  (x2 : Int) (y3 : Int) (y4 : Int) (j38 : EL) (j39 : Int) (j40 : ByteArray) (j41 : Int) (j42 : Int) : ρ :=
  p109_3 fail fu s_p109 K0 x2 y3 y4 j38 j39 0 j40 j41 j42
def p109_5 {ρ : Type} (fail : ρ) (fu : Nat) (s_p109 : (Int → Int → ByteArray → EL → EL → EL → Int → Int → ρ) → EL → Int → Int → Int → ρ) (K0 : Int → Int → ByteArray → EL → EL → EL → Int → Int → ρ)  (x2 : Int) (y3 : Int) (y4 : Int) (j43 : EL) (j44 : Int) (j45 : ByteArray) (j46 : Int) (j47 : Int) : ρ :=
  p109_4 fail fu s_p109 K0 x2 y3 y4 j43 j44 j45 j46 j47
def p109_6 {ρ : Type} (fail : ρ) (fu : Nat) (s_p109 : (Int → Int → ByteArray → EL → EL → EL → Int → Int → ρ) → EL → Int → Int → Int → ρ) (K0 : Int → Int → ByteArray → EL → EL → EL → Int → Int → ρ)  (x2 : Int) (y3 : Int) (y4 : Int) (s51 : ByteArray) (y52 : Int) (j55 : EL) (j56 : Int) : ρ :=
  p109_5 fail fu s_p109 K0 x2 y3 y4 j55 j56 s51 0 y52
def p109_7 {ρ : Type} (fail : ρ) (fu : Nat) (s_p109 : (Int → Int → ByteArray → EL → EL → EL → Int → Int → ρ) → EL → Int → Int → Int → ρ) (K0 : Int → Int → ByteArray → EL → EL → EL → Int → Int → ρ)  (x2 : Int) (y3 : Int) (y4 : Int) (y5 : EL) (y6 : Int) (j59 : Int) : ρ :=
  p109_5 fail fu s_p109 K0 x2 y3 y4 y5 y6 ⟨#[]⟩ j59 0
/-- (*codec.Reader).term -/
def p109_b {ρ : Type} (fail : ρ) (fu : Nat) (s_p109 : (Int → Int → ByteArray → EL → EL → EL → Int → Int → ρ) → EL → Int → Int → Int → ρ) (K0 : Int → Int → ByteArray → EL → EL → EL → Int → Int → ρ) (x0 : EL) (x1 : Int) (x2 : Int) (x3 : Int) : ρ :=
  p137 fail fu (fun y1 y2 y3 => bif (cmpStd .neq y2 0) then (K0 0 0 ⟨#[]⟩ nilE nilE y1 y2 y3) else (p93 fail fu (fun y4 y5 y6 => bif (cmpStd .eql y4 0) then (p91 fail fu (fun y35 y36 y37 => p109_3 fail fu s_p109 K0 x2 y3 y4 y36 y37 y35 ⟨#[]⟩ 0 0) y5 y6) else (bif (cmpStd .eql y4 1) then (p109_4 fail fu s_p109 K0 x2 y3 y4 y5 y6 ⟨#[]⟩ 0 1) else (bif (cmpStd .eql y4 2) then (p95 fail fu (fun y48 y49 y50 => tobP fail y48 (fun s51 => p91 fail fu (fun y52 y53 y54 => bif (cmpStd .gtr y52 4) then (p94 fail fu (fun y57 y58 => p109_6 fail fu s_p109 K0 x2 y3 y4 s51 y52 y57 y58) y53 y54 7) else (p109_6 fail fu s_p109 K0 x2 y3 y4 s51 y52 y53 y54)) y49 y50)) y5 y6 24) else (bif (cmpStd .eql y4 6) then (p109_7 fail fu s_p109 K0 x2 y3 y4 y5 y6 3) else (p109_7 fail fu s_p109 K0 x2 y3 y4 y5 y6 2))))) y1 y2 0 6)) x0 x1 x3 2000 x2 100
def p109 {ρ : Type} (fail : ρ) : Nat → (Int → Int → ByteArray → EL → EL → EL → Int → Int → ρ) → EL → Int → Int → Int → ρ
  | 0, _, _, _, _, _ => fail
  | n + 1, K0, x0, x1, x2, x3 => p109_b fail n (p109 fail n) K0 x0 x1 x2 x3
def D_p109 (fu : Nat) : Prop := ∀ {K0 : Int → Int → ByteArray → EL → EL → EL → Int → Int → Prop} (L : EL → Nat) (_ : L = List.length) {x0 : EL} {x1 : Int} {x2 : Int} {x3 : Int} (_ : p109 False fu K0 x0 x1 x2 x3), Den Try.prog G0 109 [.ptr [.c (.sl 1 x0 none), .c (.v (.int .i64 x1))], .c (.v (.int .i64 x2)), .ptr [.c (.v (.int .i64 x3))]] (fun r bs => (∃ (y0 : Int) (y1 : Int) (y2 : ByteArray) (y3 : EL) (y4 : EL) (y5 : EL) (y6 : Int) (y7 : Int) (o1 : OV), (r = .agg [.c (.v (.int .i64 y0)), .c (.v (.int .i64 y1)), .c (.v (.string y2)), .c (.sl 3 y3 none), .c (.sl 5 y4 none)] ∧ bs = [.ptr [.c (.sl 1 y5 none), .c (.v (.int .i64 y6))], o1, .ptr [.c (.v (.int .i64 y7))]]) ∧ K0 y0 y1 y2 y3 y4 y5 y6 y7))
theorem b_p109 (fu : Nat) (ih_p109 : D_p109 fu) {K0 : Int → Int → ByteArray → EL → EL → EL → Int → Int → Prop} (L : EL → Nat) (hN : L = List.length) {x0 : EL} {x1 : Int} {x2 : Int} {x3 : Int} (h : p109_b False fu (p109 False fu) K0 x0 x1 x2 x3) : Den Try.prog G0 109 [.ptr [.c (.sl 1 x0 none), .c (.v (.int .i64 x1))], .c (.v (.int .i64 x2)), .ptr [.c (.v (.int .i64 x3))]] (fun r bs => (∃ (y0 : Int) (y1 : Int) (y2 : ByteArray) (y3 : EL) (y4 : EL) (y5 : EL) (y6 : Int) (y7 : Int) (o1 : OV), (r = .agg [.c (.v (.int .i64 y0)), .c (.v (.int .i64 y1)), .c (.v (.string y2)), .c (.sl 3 y3 none), .c (.sl 5 y4 none)] ∧ bs = [.ptr [.c (.sl 1 y5 none), .c (.v (.int .i64 y6))], o1, .ptr [.c (.v (.int .i64 y7))]]) ∧ K0 y0 y1 y2 y3 y4 y5 y6 y7)) := by
  obtain ⟨O, hO⟩ : ∃ O, O = std 2 T G0 (Den Try.prog G0) := ⟨_, rfl⟩
  have hLO : L = O.len := by rw [hN, hO]; rfl
  subst hLO
  refine den_h hO tiA mixed tabOk (fn := Try.f109) (sh := true) (by kernel_rfl) rfl rfl rfl rfl ?_
  intro Q hQ
  unfold p109_b at h
  conv => cbv
  refine call_h hO [.ref 2, .ref 1, .shut, .shut, .shut] (d_p137 fu O.len hN h) ?_
  intro os Q hos hQ
  conv => cbv
  refine ⟨(by (rw [hos]) <;> (subst hO; rfl)), ?_⟩
  intro r bs hq
  rw [hQ] at hq
  clear hos hQ h
  obtain ⟨y1, y2, y3, _, _, _, ⟨rfl, rfl⟩, h⟩ := hq
  conv => cbv
  refine br_h hO h (by subst hO; rfl) (fun hc1 h => ?_) (fun hc1 h => ?_)
  · conv => cbv
    rw [hQ]
    exact ⟨0, 0, ⟨#[]⟩, nilE, nilE, y1, y2, y3, _, ⟨(by subst hO; rfl), (by subst hO; rfl)⟩, h⟩
  · conv => cbv
    refine join_all hO ?_
    conv => cbv
    refine call_h hO [.ref 2, .shut, .shut] (d_p93 fu O.len hN h) ?_
    intro os Q hos hQ
    conv => cbv
    refine ⟨(by (rw [hos]) <;> (subst hO; rfl)), ?_⟩
    intro r bs hq
    rw [hQ] at hq
    clear hos hQ h
    obtain ⟨y4, y5, y6, _, _, ⟨rfl, rfl⟩, h⟩ := hq
    conv => cbv
    refine br_join_h hO tiA h (by subst hO; rfl) [0, 1, 2, 6, 7, 8, 9] [0, 1, 7000, 8000] [] (fun tm m => ∃ (j7 : EL) (j8 : Int) (j9 : Int) (j10 : ByteArray) (j11 : Int) (j12 : Int), ((tm = frame 0 84 [(0, .p 0 0 0), (1, .c (.v (.int .i64 x2))), (2, .p 1 1 0), (6, .p 7000 2 0), (7, .p 8000 2 0), (8, .c (.v (.int .i64 j11))), (9, .c (.v (.int .i64 j12)))] ∧ m = ⟨[(0, .blk 0 [.c (.sl 1 j7 none), .c (.v (.int .i64 j8))]), (1, .blk 1 [.c (.v (.int .i64 y3))]), (7000, .blk 2 [.c (.v (.int .i64 0)), .c (.v (.int .i64 0)), .c (.v (.string ⟨#[]⟩)), .c (.sl 3 [] (some [])), .c (.sl 5 [] (some []))]), (8000, .blk 2 [.c (.v (.int .i64 y4)), .c (.v (.int .i64 j9)), .c (.v (.string j10)), .c (.sl 3 [] (some [])), .c (.sl 5 [] (some []))])], 3⟩)) ∧ p109_3 False fu (p109 False fu) K0 x2 y3 y4 j7 j8 j9 j10 j11 j12) (fun hc6 h L hL_3 => ?_) (fun hc6 h L hL_3 => ?_) ?_
    · conv => cbv
      refine call_h hO [.ref 2] (d_p91 fu O.len hN h) ?_
      intro os Q hos hQ
      conv => cbv
      refine ⟨(by (rw [hos]) <;> (subst hO; rfl)), ?_⟩
      intro r bs hq
      rw [hQ] at hq
      clear hos hQ h
      obtain ⟨y35, y36, y37, ⟨rfl, rfl⟩, h⟩ := hq
      conv => cbv
      exact hL_3 _ _ ⟨y36, y37, y35, ⟨#[]⟩, 0, 0, ⟨(by (conv => lhs; cbv) <;> (subst hO; rfl)), (by (conv => lhs; cbv) <;> (subst hO; rfl))⟩, h⟩
    · conv => cbv
      refine br_join_h hO tiA h (by subst hO; rfl) [0, 1, 2, 6, 7, 8, 9] [0, 1, 7000, 8000] [] (fun tm m => ∃ (j38 : EL) (j39 : Int) (j40 : ByteArray) (j41 : Int) (j42 : Int), ((tm = frame 0 84 [(0, .p 0 0 0), (1, .c (.v (.int .i64 x2))), (2, .p 1 1 0), (6, .p 7000 2 0), (7, .p 8000 2 0), (8, .c (.v (.int .i64 j41))), (9, .c (.v (.int .i64 j42)))] ∧ m = ⟨[(0, .blk 0 [.c (.sl 1 j38 none), .c (.v (.int .i64 j39))]), (1, .blk 1 [.c (.v (.int .i64 y3))]), (7000, .blk 2 [.c (.v (.int .i64 0)), .c (.v (.int .i64 0)), .c (.v (.string ⟨#[]⟩)), .c (.sl 3 [] (some [])), .c (.sl 5 [] (some []))]), (8000, .blk 2 [.c (.v (.int .i64 y4)), .c (.v (.int .i64 0)), .c (.v (.string j40)), .c (.sl 3 [] (some [])), .c (.sl 5 [] (some []))])], 3⟩)) ∧ p109_4 False fu (p109 False fu) K0 x2 y3 y4 j38 j39 j40 j41 j42) (fun hc7 h L hL_4 => ?_) (fun hc7 h L hL_4 => ?_) ?_
      · conv => cbv
        exact hL_4 _ _ ⟨y5, y6, ⟨#[]⟩, 0, 1, ⟨(by (conv => lhs; cbv) <;> (subst hO; rfl)), (by (conv => lhs; cbv) <;> (subst hO; rfl))⟩, h⟩
      · conv => cbv
        refine br_join_h hO tiA h (by subst hO; rfl) [0, 1, 2, 6, 7, 8, 9] [0, 1, 7000, 8000] [] (fun tm m => ∃ (j43 : EL) (j44 : Int) (j45 : ByteArray) (j46 : Int) (j47 : Int), ((tm = frame 0 84 [(0, .p 0 0 0), (1, .c (.v (.int .i64 x2))), (2, .p 1 1 0), (6, .p 7000 2 0), (7, .p 8000 2 0), (8, .c (.v (.int .i64 j46))), (9, .c (.v (.int .i64 j47)))] ∧ m = ⟨[(0, .blk 0 [.c (.sl 1 j43 none), .c (.v (.int .i64 j44))]), (1, .blk 1 [.c (.v (.int .i64 y3))]), (7000, .blk 2 [.c (.v (.int .i64 0)), .c (.v (.int .i64 0)), .c (.v (.string ⟨#[]⟩)), .c (.sl 3 [] (some [])), .c (.sl 5 [] (some []))]), (8000, .blk 2 [.c (.v (.int .i64 y4)), .c (.v (.int .i64 0)), .c (.v (.string j45)), .c (.sl 3 [] (some [])), .c (.sl 5 [] (some []))])], 3⟩)) ∧ p109_5 False fu (p109 False fu) K0 x2 y3 y4 j43 j44 j45 j46 j47) (fun hc8 h L hL_5 => ?_) (fun hc8 h L hL_5 => ?_) ?_
        · conv => cbv
          refine call_h hO [.ref 2, .shut] (d_p95 fu O.len hN h) ?_
          intro os Q hos hQ
          conv => cbv
          refine ⟨(by (rw [hos]) <;> (subst hO; rfl)), ?_⟩
          intro r bs hq
          rw [hQ] at hq
          clear hos hQ h
          obtain ⟨y48, y49, y50, _, ⟨rfl, rfl⟩, h⟩ := hq
          conv => cbv
          refine tob_h hO h (by subst hO; rfl) (fun s51 h => ?_)
          conv => cbv
          refine call_h hO [.ref 2] (d_p91 fu O.len hN h) ?_
          intro os Q hos hQ
          conv => cbv
          refine ⟨(by (rw [hos]) <;> (subst hO; rfl)), ?_⟩
          intro r bs hq
          rw [hQ] at hq
          clear hos hQ h
          obtain ⟨y52, y53, y54, ⟨rfl, rfl⟩, h⟩ := hq
          conv => cbv
          refine br_join_h hO tiA h (by subst hO; rfl) [0, 1, 2, 6, 7, 8, 9] [0, 1, 7000, 8000] [] (fun tm m => ∃ (j55 : EL) (j56 : Int), ((tm = frame 0 84 [(0, .p 0 0 0), (1, .c (.v (.int .i64 x2))), (2, .p 1 1 0), (6, .p 7000 2 0), (7, .p 8000 2 0), (8, .c (.v (.int .i64 0))), (9, .c (.v (.int .i64 y52)))] ∧ m = ⟨[(0, .blk 0 [.c (.sl 1 j55 none), .c (.v (.int .i64 j56))]), (1, .blk 1 [.c (.v (.int .i64 y3))]), (7000, .blk 2 [.c (.v (.int .i64 0)), .c (.v (.int .i64 0)), .c (.v (.string ⟨#[]⟩)), .c (.sl 3 [] (some [])), .c (.sl 5 [] (some []))]), (8000, .blk 2 [.c (.v (.int .i64 y4)), .c (.v (.int .i64 0)), .c (.v (.string s51)), .c (.sl 3 [] (some [])), .c (.sl 5 [] (some []))])], 3⟩)) ∧ p109_6 False fu (p109 False fu) K0 x2 y3 y4 s51 y52 j55 j56) (fun hc9 h L hL_6 => ?_) (fun hc9 h L hL_6 => ?_) ?_
          · conv => cbv
            refine call_h hO [.ref 2, .shut] (d_p94 fu O.len hN h) ?_
            intro os Q hos hQ
            conv => cbv
            refine ⟨(by (rw [hos]) <;> (subst hO; rfl)), ?_⟩
            intro r bs hq
            rw [hQ] at hq
            clear hos hQ h
            obtain ⟨y57, y58, _, ⟨rfl, rfl⟩, h⟩ := hq
            conv => cbv
            exact hL_6 _ _ ⟨y57, y58, ⟨(by (conv => lhs; cbv) <;> (subst hO; rfl)), (by (conv => lhs; cbv) <;> (subst hO; rfl))⟩, h⟩
          · conv => cbv
            exact hL_6 _ _ ⟨y53, y54, ⟨(by (conv => lhs; cbv) <;> (subst hO; rfl)), (by (conv => lhs; cbv) <;> (subst hO; rfl))⟩, h⟩
          · rintro tm m ⟨j55, j56, hs, h⟩
            unfold p109_6 at h
            obtain ⟨rfl, rfl⟩ := hs
            conv => cbv
            exact hL_5 _ _ ⟨j55, j56, s51, 0, y52, ⟨(by (conv => lhs; cbv) <;> (subst hO; rfl)), (by (conv => lhs; cbv) <;> (subst hO; rfl))⟩, h⟩
        · conv => cbv
          refine br_join_h hO tiA h (by subst hO; rfl) [0, 1, 2, 6, 7, 8, 9] [0, 1, 7000, 8000] [] (fun tm m => ∃ (j59 : Int), ((tm = frame 0 84 [(0, .p 0 0 0), (1, .c (.v (.int .i64 x2))), (2, .p 1 1 0), (6, .p 7000 2 0), (7, .p 8000 2 0), (8, .c (.v (.int .i64 j59))), (9, .c (.v (.int .i64 0)))] ∧ m = ⟨[(0, .blk 0 [.c (.sl 1 y5 none), .c (.v (.int .i64 y6))]), (1, .blk 1 [.c (.v (.int .i64 y3))]), (7000, .blk 2 [.c (.v (.int .i64 0)), .c (.v (.int .i64 0)), .c (.v (.string ⟨#[]⟩)), .c (.sl 3 [] (some [])), .c (.sl 5 [] (some []))]), (8000, .blk 2 [.c (.v (.int .i64 y4)), .c (.v (.int .i64 0)), .c (.v (.string ⟨#[]⟩)), .c (.sl 3 [] (some [])), .c (.sl 5 [] (some []))])], 3⟩)) ∧ p109_7 False fu (p109 False fu) K0 x2 y3 y4 y5 y6 j59) (fun hc10 h L hL_7 => ?_) (fun hc10 h L hL_7 => ?_) ?_
          · conv => cbv
            exact hL_7 _ _ ⟨3, ⟨(by (conv => lhs; cbv) <;> (subst hO; rfl)), (by (conv => lhs; cbv) <;> (subst hO; rfl))⟩, h⟩
          · conv => cbv
            exact hL_7 _ _ ⟨2, ⟨(by (conv => lhs; cbv) <;> (subst hO; rfl)), (by (conv => lhs; cbv) <;> (subst hO; rfl))⟩, h⟩
          · rintro tm m ⟨j59, hs, h⟩
            unfold p109_7 at h
            obtain ⟨rfl, rfl⟩ := hs
            conv => cbv
            exact hL_5 _ _ ⟨y5, y6, ⟨#[]⟩, j59, 0, ⟨(by (conv => lhs; cbv) <;> (subst hO; rfl)), (by (conv => lhs; cbv) <;> (subst hO; rfl))⟩, h⟩
        · rintro tm m ⟨j43, j44, j45, j46, j47, hs, h⟩
          unfold p109_5 at h
          obtain ⟨rfl, rfl⟩ := hs
          conv => cbv
          exact hL_4 _ _ ⟨j43, j44, j45, j46, j47, ⟨(by (conv => lhs; cbv) <;> (subst hO; rfl)), (by (conv => lhs; cbv) <;> (subst hO; rfl))⟩, h⟩
      · rintro tm m ⟨j38, j39, j40, j41, j42, hs, h⟩
        unfold p109_4 at h
        obtain ⟨rfl, rfl⟩ := hs
        conv => cbv
        exact hL_3 _ _ ⟨j38, j39, 0, j40, j41, j42, ⟨(by (conv => lhs; cbv) <;> (subst hO; rfl)), (by (conv => lhs; cbv) <;> (subst hO; rfl))⟩, h⟩
    · rintro tm m ⟨j7, j8, j9, j10, j11, j12, hs, h⟩
      unfold p109_3 at h
      obtain ⟨rfl, rfl⟩ := hs
      conv => cbv
      refine loop_of hO tiA [0, 1, 2, 6, 7, 8, 46, 47] [0, 1, 7000, 8000, 61000] [] (fun (n : Nat) tm m => ∃ (z13 : EL) (z14 : Int) (z15 : EL) (z16 : Int), ((z15 = [] ∧ tm = frame 0 84 [(0, .p 0 0 0), (1, .c (.v (.int .i64 x2))), (2, .p 1 1 0), (6, .p 7000 2 0), (7, .p 8000 2 0), (8, .c (.v (.int .i64 j11))), (46, .c (.v (.int .i64 j12))), (47, .c (.v (.int .i64 z16)))] ∧ m = ⟨[(0, .blk 0 [.c (.sl 1 z13 none), .c (.v (.int .i64 z14))]), (1, .blk 1 [.c (.v (.int .i64 y3))]), (7000, .blk 2 [.c (.v (.int .i64 0)), .c (.v (.int .i64 0)), .c (.v (.string ⟨#[]⟩)), .c (.sl 3 [] (some [])), .c (.sl 5 [] (some []))]), (8000, .blk 2 [.c (.v (.int .i64 y4)), .c (.v (.int .i64 j9)), .c (.v (.string j10)), .c (.sl 3 [] (some [])), .c (.sl 5 [] (some []))])], 3⟩) ∨ (tm = frame 0 84 [(0, .p 0 0 0), (1, .c (.v (.int .i64 x2))), (2, .p 1 1 0), (6, .p 7000 2 0), (7, .p 8000 2 0), (8, .c (.v (.int .i64 j11))), (46, .c (.v (.int .i64 j12))), (47, .c (.v (.int .i64 z16)))] ∧ m = ⟨[(0, .blk 0 [.c (.sl 1 z13 none), .c (.v (.int .i64 z14))]), (1, .blk 1 [.c (.v (.int .i64 y3))]), (7000, .blk 2 [.c (.v (.int .i64 0)), .c (.v (.int .i64 0)), .c (.v (.string ⟨#[]⟩)), .c (.sl 3 [] (some [])), .c (.sl 5 [] (some []))]), (8000, .blk 2 [.c (.v (.int .i64 y4)), .c (.v (.int .i64 j9)), .c (.v (.string j10)), .t 61000 2 (O.len z15), .c (.sl 5 [] (some []))]), (61000, .arr 2 3 z15 none false)], 3⟩)) ∧ p109_2L False fu (p109 False fu) K0 x2 y3 y4 j9 j10 j11 j12 n z13 z14 z15 z16) (fun n => n) fu ⟨j7, j8, nilE, 0, (.inl ⟨rfl, (by (conv => lhs; cbv) <;> (subst hO; rfl)), (by (conv => lhs; cbv) <;> (subst hO; rfl))⟩), h⟩ ?_
      rintro n1 tm m L ⟨z13, z14, z15, z16, hs, h⟩ hLn1
      cases n1 with
      | zero => rw [p109_2L] at h; exact h.elim
      | succ n1 =>
        rw [p109_2L] at h
        unfold p109_2 at h
        rcases hs with hs | hs
        · obtain ⟨rfl, rfl, rfl⟩ := hs
          conv => cbv
          refine br_h hO h (by subst hO; rfl) (fun hc2 h => ?_) (fun hc2 h => ?_)
          · conv => cbv
            refine join_all hO ?_
            conv => cbv
            refine br_h hO h (by subst hO; rfl) (fun hc3 h => ?_) (fun hc3 h => ?_)
            · conv => cbv
              rw [hQ]
              exact ⟨y4, j9, j10, nilE, nilE, z13, z14, y3, _, ⟨(by subst hO; rfl), (by subst hO; rfl)⟩, h⟩
            · conv => cbv
              refine join_all hO ?_
              conv => cbv
              refine drawn_of hO tiA [[0], [], [], [], []] [(0, true, false), (1, true, false), (2, true, false), (3, false, false), (4, false, false), (5, false, true), (6, true, true), (7, false, true)] (by kernel_rfl) ?_
              conv => cbv
              refine call_h hO [.ref 2] (d_p67 fu O.len hN h) ?_
              intro os Q hos hQ
              conv => cbv
              refine ⟨(by (rw [hos]) <;> (subst hO; rfl)), ?_⟩
              intro r bs hq
              rw [hQ] at hq
              clear hos hQ h
              obtain ⟨y17, y18, y19, y20, y21, ⟨rfl, rfl⟩, h⟩ := hq
              conv => cbv
              refine ⟨agree_of hO (Nat.le_of_ble_eq_true rfl) rfl, ?_⟩
              refine ⟨agree_of hO (Nat.le_of_ble_eq_true rfl) rfl, ?_⟩
              refine view_h hO h (fun g => (by subst hO; exact g)) (fun h => ?_)
              conv => cbv
              refine and_h h (fun g => (by subst hO; exact g)) (fun h => ?_)
              refine emp_no hO (by subst hO; exact List.cons_ne_nil _ _) ?_
              conv => cbv
              refine join_all hO ?_
              conv => cbv
              exact hLn1 n1 _ _ (Nat.lt_succ_self n1) ⟨y20, y21, (nilE ++ (List.take 1 [[(CV.v (.int .i64 y17)), (CV.v (.int .i64 y18)), (CV.sl 3 y19 none)]])), binStd .add .i64 z16 1, (.inr ⟨(by (conv => lhs; cbv) <;> (subst hO; rfl)), (by (conv => lhs; cbv) <;> (subst hO; rfl))⟩), h⟩
          · conv => cbv
            refine loop_of hO tiA [0, 1, 2, 6, 7, 63, 64] [0, 1, 7000, 8000, 81000] [] (fun (n : Nat) tm m => ∃ (z22 : EL) (z23 : Int) (z24 : Int) (z25 : EL) (z26 : Int), ((z25 = [] ∧ tm = frame 0 84 [(0, .p 0 0 0), (1, .c (.v (.int .i64 x2))), (2, .p 1 1 0), (6, .p 7000 2 0), (7, .p 8000 2 0), (63, .c (.v (.int .i64 j11))), (64, .c (.v (.int .i64 z26)))] ∧ m = ⟨[(0, .blk 0 [.c (.sl 1 z22 none), .c (.v (.int .i64 z23))]), (1, .blk 1 [.c (.v (.int .i64 z24))]), (7000, .blk 2 [.c (.v (.int .i64 0)), .c (.v (.int .i64 0)), .c (.v (.string ⟨#[]⟩)), .c (.sl 3 [] (some [])), .c (.sl 5 [] (some []))]), (8000, .blk 2 [.c (.v (.int .i64 y4)), .c (.v (.int .i64 j9)), .c (.v (.string j10)), .c (.sl 3 [] (some [])), .c (.sl 5 [] (some []))])], 3⟩) ∨ (tm = frame 0 84 [(0, .p 0 0 0), (1, .c (.v (.int .i64 x2))), (2, .p 1 1 0), (6, .p 7000 2 0), (7, .p 8000 2 0), (63, .c (.v (.int .i64 j11))), (64, .c (.v (.int .i64 z26)))] ∧ m = ⟨[(0, .blk 0 [.c (.sl 1 z22 none), .c (.v (.int .i64 z23))]), (1, .blk 1 [.c (.v (.int .i64 z24))]), (7000, .blk 2 [.c (.v (.int .i64 0)), .c (.v (.int .i64 0)), .c (.v (.string ⟨#[]⟩)), .c (.sl 3 [] (some [])), .c (.sl 5 [] (some []))]), (8000, .blk 2 [.c (.v (.int .i64 y4)), .c (.v (.int .i64 j9)), .c (.v (.string j10)), .c (.sl 3 [] (some [])), .t 81000 2 (O.len z25)]), (81000, .arr 2 5 z25 none false)], 3⟩)) ∧ p109_1L False fu (p109 False fu) K0 x2 y4 j9 j10 j11 nilE n z22 z23 z24 z25 z26) (fun n => n) fu ⟨z13, z14, y3, nilE, 0, (.inl ⟨rfl, (by (conv => lhs; cbv) <;> (subst hO; rfl)), (by (conv => lhs; cbv) <;> (subst hO; rfl))⟩), h⟩ ?_
            rintro n2 tm m L ⟨z22, z23, z24, z25, z26, hs, h⟩ hLn2
            cases n2 with
            | zero => rw [p109_1L] at h; exact h.elim
            | succ n2 =>
              rw [p109_1L] at h
              unfold p109_1 at h
              rcases hs with hs | hs
              · obtain ⟨rfl, rfl, rfl⟩ := hs
                conv => cbv
                refine br_h hO h (by subst hO; rfl) (fun hc4 h => ?_) (fun hc4 h => ?_)
                · conv => cbv
                  refine join_all hO ?_
                  conv => cbv
                  refine br_h hO h (by subst hO; rfl) (fun hc5 h => ?_) (fun hc5 h => ?_)
                  · conv => cbv
                    rw [hQ]
                    exact ⟨y4, j9, j10, nilE, nilE, z22, z23, z24, _, ⟨(by subst hO; rfl), (by subst hO; rfl)⟩, h⟩
                  · conv => cbv
                    refine join_all hO ?_
                    conv => cbv
                    refine drawn_of hO tiA [[0, 1], [], [], [], []] [(0, true, false), (1, true, false), (2, true, false), (3, true, false), (4, true, false), (5, true, false), (6, false, false), (7, false, false), (8, false, true), (9, true, true), (10, false, true)] (by kernel_rfl) ?_
                    conv => cbv
                    refine call_h hO [.ref 2, .shut, .ref 1] (ih_p109 O.len hN h) ?_
                    intro os Q hos hQ
                    conv => cbv
                    refine ⟨(by (rw [hos]) <;> (subst hO; rfl)), ?_⟩
                    intro r bs hq
                    rw [hQ] at hq
                    clear hos hQ h
                    obtain ⟨y27, y28, y29, y30, y31, y32, y33, y34, _, ⟨rfl, rfl⟩, h⟩ := hq
                    conv => cbv
                    refine ⟨agree_of hO (Nat.le_of_ble_eq_true rfl) rfl, ?_⟩
                    refine ⟨agree_of hO (Nat.le_of_ble_eq_true rfl) rfl, ?_⟩
                    refine view_h hO h (fun g => (by subst hO; exact g)) (fun h => ?_)
                    conv => cbv
                    refine and_h h (fun g => (by subst hO; exact g)) (fun h => ?_)
                    refine emp_no hO (by subst hO; exact List.cons_ne_nil _ _) ?_
                    conv => cbv
                    refine join_all hO ?_
                    conv => cbv
                    exact hLn2 n2 _ _ (Nat.lt_succ_self n2) ⟨y32, y33, y34, (nilE ++ (List.take 1 [[(CV.v (.int .i64 y27)), (CV.v (.int .i64 y28)), (CV.v (.string y29)), (CV.sl 3 y30 none), (CV.sl 5 y31 none)]])), binStd .add .i64 z26 1, (.inr ⟨(by (conv => lhs; cbv) <;> (subst hO; rfl)), (by (conv => lhs; cbv) <;> (subst hO; rfl))⟩), h⟩
                · conv => cbv
                  rw [hQ]
                  exact ⟨y4, j9, j10, nilE, nilE, z22, z23, z24, _, ⟨(by subst hO; rfl), (by subst hO; rfl)⟩, h⟩
              · obtain ⟨rfl, rfl⟩ := hs
                conv => cbv
                refine br_h hO h (by subst hO; rfl) (fun hc4 h => ?_) (fun hc4 h => ?_)
                · conv => cbv
                  refine join_all hO ?_
                  conv => cbv
                  refine br_h hO h (by subst hO; rfl) (fun hc5 h => ?_) (fun hc5 h => ?_)
                  · conv => cbv
                    refine view_full hO ?_
                    conv => cbv
                    rw [hQ]
                    exact ⟨y4, j9, j10, nilE, z25, z22, z23, z24, _, ⟨(by subst hO; rfl), (by subst hO; rfl)⟩, h⟩
                  · conv => cbv
                    refine join_all hO ?_
                    conv => cbv
                    refine drawn_of hO tiA [[0, 1], [], [], [], []] [(0, true, false), (1, true, false), (2, true, false), (3, true, false), (4, true, false), (5, true, false), (6, false, false), (7, false, false), (8, false, true), (9, true, true), (10, false, true)] (by kernel_rfl) ?_
                    conv => cbv
                    refine call_h hO [.ref 2, .shut, .ref 1] (ih_p109 O.len hN h) ?_
                    intro os Q hos hQ
                    conv => cbv
                    refine ⟨(by (rw [hos]) <;> (subst hO; rfl)), ?_⟩
                    intro r bs hq
                    rw [hQ] at hq
                    clear hos hQ h
                    obtain ⟨y27, y28, y29, y30, y31, y32, y33, y34, _, ⟨rfl, rfl⟩, h⟩ := hq
                    conv => cbv
                    refine ⟨agree_of hO (Nat.le_of_ble_eq_true rfl) rfl, ?_⟩
                    refine ⟨agree_of hO (Nat.le_of_ble_eq_true rfl) rfl, ?_⟩
                    refine view_h hO h (fun g => (by subst hO; exact g)) (fun h => ?_)
                    conv => cbv
                    refine ⟨(by subst hO; rfl), ?_⟩
                    refine and_h h (fun g => (by subst hO; exact g)) (fun h => ?_)
                    refine join_all hO ?_
                    conv => cbv
                    exact hLn2 n2 _ _ (Nat.lt_succ_self n2) ⟨y32, y33, y34, (z25 ++ (List.take 1 [[(CV.v (.int .i64 y27)), (CV.v (.int .i64 y28)), (CV.v (.string y29)), (CV.sl 3 y30 none), (CV.sl 5 y31 none)]])), binStd .add .i64 z26 1, (.inr ⟨(by (conv => lhs; cbv) <;> (subst hO; rfl)), (by (conv => lhs; cbv) <;> (subst hO; rfl))⟩), h⟩
                · conv => cbv
                  refine view_full hO ?_
                  conv => cbv
                  rw [hQ]
                  exact ⟨y4, j9, j10, nilE, z25, z22, z23, z24, _, ⟨(by subst hO; rfl), (by subst hO; rfl)⟩, h⟩
        · obtain ⟨rfl, rfl⟩ := hs
          conv => cbv
          refine br_h hO h (by subst hO; rfl) (fun hc2 h => ?_) (fun hc2 h => ?_)
          · conv => cbv
            refine join_all hO ?_
            conv => cbv
            refine br_h hO h (by subst hO; rfl) (fun hc3 h => ?_) (fun hc3 h => ?_)
            · conv => cbv
              refine view_full hO ?_
              conv => cbv
              rw [hQ]
              exact ⟨y4, j9, j10, z15, nilE, z13, z14, y3, _, ⟨(by subst hO; rfl), (by subst hO; rfl)⟩, h⟩
            · conv => cbv
              refine join_all hO ?_
              conv => cbv
              refine drawn_of hO tiA [[0], [], [], [], []] [(0, true, false), (1, true, false), (2, true, false), (3, false, false), (4, false, false), (5, false, true), (6, true, true), (7, false, true)] (by kernel_rfl) ?_
              conv => cbv
              refine call_h hO [.ref 2] (d_p67 fu O.len hN h) ?_
              intro os Q hos hQ
              conv => cbv
              refine ⟨(by (rw [hos]) <;> (subst hO; rfl)), ?_⟩
              intro r bs hq
              rw [hQ] at hq
              clear hos hQ h
              obtain ⟨y17, y18, y19, y20, y21, ⟨rfl, rfl⟩, h⟩ := hq
              conv => cbv
              refine ⟨agree_of hO (Nat.le_of_ble_eq_true rfl) rfl, ?_⟩
              refine ⟨agree_of hO (Nat.le_of_ble_eq_true rfl) rfl, ?_⟩
              refine view_h hO h (fun g => (by subst hO; exact g)) (fun h => ?_)
              conv => cbv
              refine ⟨(by subst hO; rfl), ?_⟩
              refine and_h h (fun g => (by subst hO; exact g)) (fun h => ?_)
              refine join_all hO ?_
              conv => cbv
              exact hLn1 n1 _ _ (Nat.lt_succ_self n1) ⟨y20, y21, (z15 ++ (List.take 1 [[(CV.v (.int .i64 y17)), (CV.v (.int .i64 y18)), (CV.sl 3 y19 none)]])), binStd .add .i64 z16 1, (.inr ⟨(by (conv => lhs; cbv) <;> (subst hO; rfl)), (by (conv => lhs; cbv) <;> (subst hO; rfl))⟩), h⟩
          · conv => cbv
            refine loop_of hO tiA [0, 1, 2, 6, 7, 63, 64] [0, 1, 7000, 8000, 61000, 81000] [] (fun (n : Nat) tm m => ∃ (z22 : EL) (z23 : Int) (z24 : Int) (z25 : EL) (z26 : Int), ((z25 = [] ∧ tm = frame 0 84 [(0, .p 0 0 0), (1, .c (.v (.int .i64 x2))), (2, .p 1 1 0), (6, .p 7000 2 0), (7, .p 8000 2 0), (63, .c (.v (.int .i64 j11))), (64, .c (.v (.int .i64 z26)))] ∧ m = ⟨[(0, .blk 0 [.c (.sl 1 z22 none), .c (.v (.int .i64 z23))]), (1, .blk 1 [.c (.v (.int .i64 z24))]), (7000, .blk 2 [.c (.v (.int .i64 0)), .c (.v (.int .i64 0)), .c (.v (.string ⟨#[]⟩)), .c (.sl 3 [] (some [])), .c (.sl 5 [] (some []))]), (8000, .blk 2 [.c (.v (.int .i64 y4)), .c (.v (.int .i64 j9)), .c (.v (.string j10)), .t 61000 2 (O.len z15), .c (.sl 5 [] (some []))]), (61000, .arr 2 3 z15 none false)], 3⟩) ∨ (tm = frame 0 84 [(0, .p 0 0 0), (1, .c (.v (.int .i64 x2))), (2, .p 1 1 0), (6, .p 7000 2 0), (7, .p 8000 2 0), (63, .c (.v (.int .i64 j11))), (64, .c (.v (.int .i64 z26)))] ∧ m = ⟨[(0, .blk 0 [.c (.sl 1 z22 none), .c (.v (.int .i64 z23))]), (1, .blk 1 [.c (.v (.int .i64 z24))]), (7000, .blk 2 [.c (.v (.int .i64 0)), .c (.v (.int .i64 0)), .c (.v (.string ⟨#[]⟩)), .c (.sl 3 [] (some [])), .c (.sl 5 [] (some []))]), (8000, .blk 2 [.c (.v (.int .i64 y4)), .c (.v (.int .i64 j9)), .c (.v (.string j10)), .t 61000 2 (O.len z15), .t 81000 2 (O.len z25)]), (61000, .arr 2 3 z15 none false), (81000, .arr 2 5 z25 none false)], 3⟩)) ∧ p109_1L False fu (p109 False fu) K0 x2 y4 j9 j10 j11 z15 n z22 z23 z24 z25 z26) (fun n => n) fu ⟨z13, z14, y3, nilE, 0, (.inl ⟨rfl, (by (conv => lhs; cbv) <;> (subst hO; rfl)), (by (conv => lhs; cbv) <;> (subst hO; rfl))⟩), h⟩ ?_
            rintro n2 tm m L ⟨z22, z23, z24, z25, z26, hs, h⟩ hLn2
            cases n2 with
            | zero => rw [p109_1L] at h; exact h.elim
            | succ n2 =>
              rw [p109_1L] at h
              unfold p109_1 at h
              rcases hs with hs | hs
              · obtain ⟨rfl, rfl, rfl⟩ := hs
                conv => cbv
                refine br_h hO h (by subst hO; rfl) (fun hc4 h => ?_) (fun hc4 h => ?_)
                · conv => cbv
                  refine join_all hO ?_
                  conv => cbv
                  refine br_h hO h (by subst hO; rfl) (fun hc5 h => ?_) (fun hc5 h => ?_)
                  · conv => cbv
                    refine view_full hO ?_
                    conv => cbv
                    rw [hQ]
                    exact ⟨y4, j9, j10, z15, nilE, z22, z23, z24, _, ⟨(by subst hO; rfl), (by subst hO; rfl)⟩, h⟩
                  · conv => cbv
                    refine join_all hO ?_
                    conv => cbv
                    refine drawn_of hO tiA [[0, 1], [], [], [], []] [(0, true, false), (1, true, false), (2, true, false), (3, true, false), (4, true, false), (5, true, false), (6, false, false), (7, false, false), (8, false, true), (9, true, true), (10, false, true)] (by kernel_rfl) ?_
                    conv => cbv
                    refine call_h hO [.ref 2, .shut, .ref 1] (ih_p109 O.len hN h) ?_
                    intro os Q hos hQ
                    conv => cbv
                    refine ⟨(by (rw [hos]) <;> (subst hO; rfl)), ?_⟩
                    intro r bs hq
                    rw [hQ] at hq
                    clear hos hQ h
                    obtain ⟨y27, y28, y29, y30, y31, y32, y33, y34, _, ⟨rfl, rfl⟩, h⟩ := hq
                    conv => cbv
                    refine ⟨agree_of hO (Nat.le_of_ble_eq_true rfl) rfl, ?_⟩
                    refine ⟨agree_of hO (Nat.le_of_ble_eq_true rfl) rfl, ?_⟩
                    refine view_h hO h (fun g => (by subst hO; exact g)) (fun h => ?_)
                    conv => cbv
                    refine and_h h (fun g => (by subst hO; exact g)) (fun h => ?_)
                    refine emp_no hO (by subst hO; exact List.cons_ne_nil _ _) ?_
                    conv => cbv
                    refine join_all hO ?_
                    conv => cbv
                    exact hLn2 n2 _ _ (Nat.lt_succ_self n2) ⟨y32, y33, y34, (nilE ++ (List.take 1 [[(CV.v (.int .i64 y27)), (CV.v (.int .i64 y28)), (CV.v (.string y29)), (CV.sl 3 y30 none), (CV.sl 5 y31 none)]])), binStd .add .i64 z26 1, (.inr ⟨(by (conv => lhs; cbv) <;> (subst hO; rfl)), (by (conv => lhs; cbv) <;> (subst hO; rfl))⟩), h⟩
                · conv => cbv
                  refine view_full hO ?_
                  conv => cbv
                  rw [hQ]
                  exact ⟨y4, j9, j10, z15, nilE, z22, z23, z24, _, ⟨(by subst hO; rfl), (by subst hO; rfl)⟩, h⟩
              · obtain ⟨rfl, rfl⟩ := hs
                conv => cbv
                refine br_h hO h (by subst hO; rfl) (fun hc4 h => ?_) (fun hc4 h => ?_)
                · conv => cbv
                  refine join_all hO ?_
                  conv => cbv
                  refine br_h hO h (by subst hO; rfl) (fun hc5 h => ?_) (fun hc5 h => ?_)
                  · conv => cbv
                    refine view_full hO ?_
                    conv => cbv
                    refine view_full hO ?_
                    conv => cbv
                    rw [hQ]
                    exact ⟨y4, j9, j10, z15, z25, z22, z23, z24, _, ⟨(by subst hO; rfl), (by subst hO; rfl)⟩, h⟩
                  · conv => cbv
                    refine join_all hO ?_
                    conv => cbv
                    refine drawn_of hO tiA [[0, 1], [], [], [], []] [(0, true, false), (1, true, false), (2, true, false), (3, true, false), (4, true, false), (5, true, false), (6, false, false), (7, false, false), (8, false, true), (9, true, true), (10, false, true)] (by kernel_rfl) ?_
                    conv => cbv
                    refine call_h hO [.ref 2, .shut, .ref 1] (ih_p109 O.len hN h) ?_
                    intro os Q hos hQ
                    conv => cbv
                    refine ⟨(by (rw [hos]) <;> (subst hO; rfl)), ?_⟩
                    intro r bs hq
                    rw [hQ] at hq
                    clear hos hQ h
                    obtain ⟨y27, y28, y29, y30, y31, y32, y33, y34, _, ⟨rfl, rfl⟩, h⟩ := hq
                    conv => cbv
                    refine ⟨agree_of hO (Nat.le_of_ble_eq_true rfl) rfl, ?_⟩
                    refine ⟨agree_of hO (Nat.le_of_ble_eq_true rfl) rfl, ?_⟩
                    refine view_h hO h (fun g => (by subst hO; exact g)) (fun h => ?_)
                    conv => cbv
                    refine ⟨(by subst hO; rfl), ?_⟩
                    refine and_h h (fun g => (by subst hO; exact g)) (fun h => ?_)
                    refine join_all hO ?_
                    conv => cbv
                    exact hLn2 n2 _ _ (Nat.lt_succ_self n2) ⟨y32, y33, y34, (z25 ++ (List.take 1 [[(CV.v (.int .i64 y27)), (CV.v (.int .i64 y28)), (CV.v (.string y29)), (CV.sl 3 y30 none), (CV.sl 5 y31 none)]])), binStd .add .i64 z26 1, (.inr ⟨(by (conv => lhs; cbv) <;> (subst hO; rfl)), (by (conv => lhs; cbv) <;> (subst hO; rfl))⟩), h⟩
                · conv => cbv
                  refine view_full hO ?_
                  conv => cbv
                  refine view_full hO ?_
                  conv => cbv
                  rw [hQ]
                  exact ⟨y4, j9, j10, z15, z25, z22, z23, z24, _, ⟨(by subst hO; rfl), (by subst hO; rfl)⟩, h⟩
theorem dd_p109 (fu : Nat) : D_p109 fu := by
  induction fu with
  | zero => unfold D_p109; intros; rename_i h; rw [p109] at h; exact h.elim
  | succ n ih =>
    exact (by unfold D_p109; intro K0 L hN x0 x1 x2 x3 h; exact b_p109 n ih L hN (by rw [p109] at h; exact h))
theorem d_p109 (fu : Nat) {K0 : Int → Int → ByteArray → EL → EL → EL → Int → Int → Prop} (L : EL → Nat) (hL : L = List.length) {x0 : EL} {x1 : Int} {x2 : Int} {x3 : Int} (h : p109 False fu K0 x0 x1 x2 x3) : Den Try.prog G0 109 [.ptr [.c (.sl 1 x0 none), .c (.v (.int .i64 x1))], .c (.v (.int .i64 x2)), .ptr [.c (.v (.int .i64 x3))]] (fun r bs => (∃ (y0 : Int) (y1 : Int) (y2 : ByteArray) (y3 : EL) (y4 : EL) (y5 : EL) (y6 : Int) (y7 : Int) (o1 : OV), (r = .agg [.c (.v (.int .i64 y0)), .c (.v (.int .i64 y1)), .c (.v (.string y2)), .c (.sl 3 y3 none), .c (.sl 5 y4 none)] ∧ bs = [.ptr [.c (.sl 1 y5 none), .c (.v (.int .i64 y6))], o1, .ptr [.c (.v (.int .i64 y7))]]) ∧ K0 y0 y1 y2 y3 y4 y5 y6 y7)) := dd_p109 fu L hL h
end Go.Proofs.Ythncmjlcmlmnmaa

namespace Go.Proofs.Ythncmjlcmlmnmaa
open Go V
set_option maxRecDepth 100000
set_option maxHeartbeats 4000000
/-- (*codec.Reader).Term -/
def p65 {ρ : Type} (fail : ρ) (fu : Nat)  (K0 : Int → Int → ByteArray → EL → EL → EL → Int → ρ) (x0 : EL) (x1 : Int) : ρ :=
  p109 fail fu (fun y1 y2 y3 y4 y5 y6 y7 y8 => K0 y1 y2 y3 y4 y5 y6 y7) x0 x1 1 0
theorem d_p65 (fu : Nat)  {K0 : Int → Int → ByteArray → EL → EL → EL → Int → Prop} (L : EL → Nat) (hN : L = List.length) {x0 : EL} {x1 : Int} (h : p65 False fu K0 x0 x1) : Den Try.prog G0 65 [.ptr [.c (.sl 1 x0 none), .c (.v (.int .i64 x1))]] (fun r bs => (∃ (y0 : Int) (y1 : Int) (y2 : ByteArray) (y3 : EL) (y4 : EL) (y5 : EL) (y6 : Int), (r = .agg [.c (.v (.int .i64 y0)), .c (.v (.int .i64 y1)), .c (.v (.string y2)), .c (.sl 3 y3 none), .c (.sl 5 y4 none)] ∧ bs = [.ptr [.c (.sl 1 y5 none), .c (.v (.int .i64 y6))]]) ∧ K0 y0 y1 y2 y3 y4 y5 y6)) := by
  obtain ⟨O, hO⟩ : ∃ O, O = std 1 T G0 (Den Try.prog G0) := ⟨_, rfl⟩
  have hLO : L = O.len := by rw [hN, hO]; rfl
  subst hLO
  refine den_h hO tiA mixed tabOk (fn := Try.f65) (sh := true) (by kernel_rfl) rfl rfl rfl rfl ?_
  intro Q hQ
  unfold p65 at h
  conv => cbv
  refine call_h hO [.ref 2, .shut, .ref 1] (d_p109 fu O.len hN h) ?_
  intro os Q hos hQ
  conv => cbv
  refine ⟨(by (rw [hos]) <;> (subst hO; rfl)), ?_⟩
  intro r bs hq
  rw [hQ] at hq
  clear hos hQ h
  obtain ⟨y1, y2, y3, y4, y5, y6, y7, y8, _, ⟨rfl, rfl⟩, h⟩ := hq
  conv => cbv
  rw [hQ]
  exact ⟨y1, y2, y3, y4, y5, y6, y7, ⟨(by subst hO; rfl), (by subst hO; rfl)⟩, h⟩
end Go.Proofs.Ythncmjlcmlmnmaa

namespace Go.Proofs.Ythncmjlcmlmnmaa
open Go V
set_option maxRecDepth 100000
set_option maxHeartbeats 4000000
/-- (*codec.Reader).took -/
def p66 {ρ : Type} (fail : ρ) (fu : Nat)  (K0 : Int → Int → EL → Int → ρ) (x0 : EL) (x1 : Int) (x2 : EL) : ρ :=
  bif (cmpStd .neq x1 0) then (K0 0 x1 x0 x1) else (K0 (binStd .sub .i64 ((x2.length : Nat) : Int) ((x0.length : Nat) : Int)) 0 x0 x1)
theorem d_p66 (fu : Nat)  {K0 : Int → Int → EL → Int → Prop} (L : EL → Nat) (hN : L = List.length) {x0 : EL} {x1 : Int} {x2 : EL} (h : p66 False fu K0 x0 x1 x2) : Den Try.prog G0 66 [.ptr [.c (.sl 1 x0 none), .c (.v (.int .i64 x1))], .c (.sl 1 x2 none)] (fun r bs => (∃ (y0 : Int) (y1 : Int) (y2 : EL) (y3 : Int) (o1 : OV), (r = .tup [.c (.v (.int .i64 y0)), .c (.v (.int .i64 y1))] ∧ bs = [.ptr [.c (.sl 1 y2 none), .c (.v (.int .i64 y3))], o1]) ∧ K0 y0 y1 y2 y3)) := by
  obtain ⟨O, hO⟩ : ∃ O, O = std 1 T G0 (Den Try.prog G0) := ⟨_, rfl⟩
  have hLO : L = O.len := by rw [hN, hO]; rfl
  subst hLO
  refine den_h hO tiA mixed tabOk (fn := Try.f66) (sh := true) (by kernel_rfl) rfl rfl rfl rfl ?_
  intro Q hQ
  unfold p66 at h
  conv => cbv
  refine br_h hO h (by subst hO; rfl) (fun hc1 h => ?_) (fun hc1 h => ?_)
  · conv => cbv
    refine drawn_of hO tiA [[]] [(0, true, false), (1, true, false), (2, true, false), (3, true, false), (4, true, false), (5, true, true)] (by kernel_rfl) ?_
    conv => cbv
    refine join_all hO ?_
    conv => cbv
    rw [hQ]
    exact ⟨0, x1, x0, x1, _, ⟨(by subst hO; rfl), (by subst hO; rfl)⟩, h⟩
  · conv => cbv
    refine join_all hO ?_
    conv => cbv
    rw [hQ]
    exact ⟨binStd .sub .i64 ((x2.length : Nat) : Int) ((x0.length : Nat) : Int), 0, x0, x1, _, ⟨(by subst hO; rfl), (by subst hO; rfl)⟩, h⟩
end Go.Proofs.Ythncmjlcmlmnmaa

