/- Functions without memory, and that the Go functions are followed by them. Printed by gen.py. Conditions: none. -/
import Derived.Test.YthncmjlcmlmnmaaCPC
namespace Go.Proofs.Ythncmjlcmlmnmaa
open Go V
set_option maxRecDepth 100000
set_option maxHeartbeats 4000000
def p110_1 {ρ : Type} (fail : ρ) (fu : Nat) (s_p110 : (Int → Int → EL → EL → Int → Int → ρ) → EL → Int → Int → Int → ρ) (K0 : Int → Int → EL → EL → Int → Int → ρ) (rec1 : EL → Int → Int → EL → Int → ρ) (z15 : Int) (j16 : EL) (j17 : Int) (j18 : Int) (j19 : EL) : ρ :=
  rec1 j16 j17 j18 j19 (binStd .add .i64 z15 1)
def p110_2 {ρ : Type} (fail : ρ) (fu : Nat) (s_p110 : (Int → Int → EL → EL → Int → Int → ρ) → EL → Int → Int → Int → ρ) (K0 : Int → Int → EL → EL → Int → Int → ρ) (rec1 : EL → Int → Int → EL → Int → ρ) (x2 : Int) (y4 : Int) (j9 : Int) (j10 : Int) (z11 : EL) (z12 : Int) (z13 : Int) (z14 : EL) (z15 : Int) : ρ :=
  bif (cmpStd .lss z15 j10) then (bif (cmpStd .eql z12 0) then (s_p110 (fun y20 y21 y22 y23 y24 y25 => gd (1 ≤ [[(CV.v (.int .i64 y20)), (CV.v (.int .i64 y21)), (CV.sl 3 y22 none)]].length) fail (gd ((z14.length + (List.take 1 [[(CV.v (.int .i64 y20)), (CV.v (.int .i64 y21)), (CV.sl 3 y22 none)]]).length) * 40 ≤ 35184372088832) fail (p110_1 fail fu s_p110 K0 rec1 z15 y23 y24 y25 (z14 ++ (List.take 1 [[(CV.v (.int .i64 y20)), (CV.v (.int .i64 y21)), (CV.sl 3 y22 none)]]))))) z11 z12 (binStd .add .i64 x2 1) z13) else (p110_1 fail fu s_p110 K0 rec1 z15 z11 z12 z13 z14)) else (K0 y4 j9 z14 z11 z12 z13)
def p110_2L {ρ : Type} (fail : ρ) (fu : Nat) (s_p110 : (Int → Int → EL → EL → Int → Int → ρ) → EL → Int → Int → Int → ρ) (K0 : Int → Int → EL → EL → Int → Int → ρ)  (x2 : Int) (y4 : Int) (j9 : Int) (j10 : Int) : Nat → EL → Int → Int → EL → Int → ρ
  | 0, _, _, _, _, _ => fail
  | n + 1, z11, z12, z13, z14, z15 => p110_2 fail fu s_p110 K0 (p110_2L fail fu s_p110 K0  x2 y4 j9 j10 n) x2 y4 j9 j10 z11 z12 z13 z14 z15
def p110_3 {ρ : Type} (fail : ρ) (fu : Nat) (s_p110 : (Int → Int → EL → EL → Int → Int → ρ) → EL → Int → Int → Int → ρ) (K0 : Int → Int → EL → EL → Int → Int → ρ)  (x2 : Int) (y3 : Int) (y4 : Int) (j7 : EL) (j8 : Int) (j9 : Int) (j10 : Int) : ρ :=
  p110_2L fail fu s_p110 K0 x2 y4 j9 j10 fu j7 j8 y3 nilE 0
def p110_4 {ρ : Type} (fail : ρ) (fu : Nat) (s_p110 : (Int → Int → EL → EL → Int → Int → ρ) → EL → Int → Int → Int → ρ) (K0 : Int → Int → EL → EL → Int → Int → ρ)  (x2 : Int) (y3 : Int) (y4 : Int) (j27 : EL) (j28 : Int) (j29 : Int) (j30 : Int) : ρ :=
  p110_3 fail fu s_p110 K0 x2 y3 y4 j27 j28 j29 j30
def p110_5 {ρ : Type} (fail : ρ) (fu : Nat) (s_p110 : (Int → Int → EL → EL → Int → Int → ρ) → EL → Int → Int → Int → ρ) (K0 : Int → Int → EL → EL → Int → Int → ρ)  (x2 : Int) (y3 : Int) (y4 : Int) (j31 : EL) (j32 : Int) (j33 : Int) : ρ :=
  p110_4 fail fu s_p110 K0 x2 y3 y4 j31 j32 j33 0
def p110_6 {ρ : Type} (fail : ρ) (fu : Nat) (s_p110 : (Int → Int → EL → EL → Int → Int → ρ) → EL → Int → Int → Int → ρ) (K0 : Int → Int → EL → EL → Int → Int → ρ)  (x2 : Int) (y3 : Int) (y4 : Int) (y34 : Int) (j37 : EL) (j38 : Int) : ρ :=
  p110_5 fail fu s_p110 K0 x2 y3 y4 j37 j38 y34
def p110_7 {ρ : Type} (fail : ρ) (fu : Nat) (s_p110 : (Int → Int → EL → EL → Int → Int → ρ) → EL → Int → Int → Int → ρ) (K0 : Int → Int → EL → EL → Int → Int → ρ)  (x2 : Int) (y3 : Int) (y4 : Int) (y5 : EL) (y6 : Int) (j26 : Bool) : ρ :=
  bif j26 then (p110_4 fail fu s_p110 K0 x2 y3 y4 y5 y6 0 2) else (bif (cmpStd .eql y4 4) then (p91 fail fu (fun y34 y35 y36 => bif (cmpStd .geq y34 4) then (p94 fail fu (fun y39 y40 => p110_6 fail fu s_p110 K0 x2 y3 y4 y34 y39 y40) y35 y36 7) else (p110_6 fail fu s_p110 K0 x2 y3 y4 y34 y35 y36)) y5 y6) else (p110_5 fail fu s_p110 K0 x2 y3 y4 y5 y6 0))
/-- (*codec.Reader).level -/
def p110_b {ρ : Type} (fail : ρ) (fu : Nat) (s_p110 : (Int → Int → EL → EL → Int → Int → ρ) → EL → Int → Int → Int → ρ) (K0 : Int → Int → EL → EL → Int → Int → ρ) (x0 : EL) (x1 : Int) (x2 : Int) (x3 : Int) : ρ :=
  p137 fail fu (fun y1 y2 y3 => bif (cmpStd .neq y2 0) then (K0 0 0 nilE y1 y2 y3) else (p93 fail fu (fun y4 y5 y6 => bif (cmpStd .eql y4 1) then (p110_3 fail fu s_p110 K0 x2 y3 y4 y5 y6 0 1) else (bif (cmpStd .eql y4 2) then (p110_7 fail fu s_p110 K0 x2 y3 y4 y5 y6 (cmpStd .eql y4 2)) else (p110_7 fail fu s_p110 K0 x2 y3 y4 y5 y6 (cmpStd .eql y4 3)))) y1 y2 0 4)) x0 x1 x3 64 x2 32
def p110 {ρ : Type} (fail : ρ) : Nat → (Int → Int → EL → EL → Int → Int → ρ) → EL → Int → Int → Int → ρ
  | 0, _, _, _, _, _ => fail
  | n + 1, K0, x0, x1, x2, x3 => p110_b fail n (p110 fail n) K0 x0 x1 x2 x3
def D_p110 (fu : Nat) : Prop := ∀ {K0 : Int → Int → EL → EL → Int → Int → Prop} (L : EL → Nat) (_ : L = List.length) {x0 : EL} {x1 : Int} {x2 : Int} {x3 : Int} (_ : p110 False fu K0 x0 x1 x2 x3), Den Try.prog G0 110 [.ptr [.c (.sl 1 x0 none), .c (.v (.int .i64 x1))], .c (.v (.int .i64 x2)), .ptr [.c (.v (.int .i64 x3))]] (fun r bs => (∃ (y0 : Int) (y1 : Int) (y2 : EL) (y3 : EL) (y4 : Int) (y5 : Int) (o1 : OV), (r = .agg [.c (.v (.int .i64 y0)), .c (.v (.int .i64 y1)), .c (.sl 3 y2 none)] ∧ bs = [.ptr [.c (.sl 1 y3 none), .c (.v (.int .i64 y4))], o1, .ptr [.c (.v (.int .i64 y5))]]) ∧ K0 y0 y1 y2 y3 y4 y5))
theorem b_p110 (fu : Nat) (ih_p110 : D_p110 fu) {K0 : Int → Int → EL → EL → Int → Int → Prop} (L : EL → Nat) (hN : L = List.length) {x0 : EL} {x1 : Int} {x2 : Int} {x3 : Int} (h : p110_b False fu (p110 False fu) K0 x0 x1 x2 x3) : Den Try.prog G0 110 [.ptr [.c (.sl 1 x0 none), .c (.v (.int .i64 x1))], .c (.v (.int .i64 x2)), .ptr [.c (.v (.int .i64 x3))]] (fun r bs => (∃ (y0 : Int) (y1 : Int) (y2 : EL) (y3 : EL) (y4 : Int) (y5 : Int) (o1 : OV), (r = .agg [.c (.v (.int .i64 y0)), .c (.v (.int .i64 y1)), .c (.sl 3 y2 none)] ∧ bs = [.ptr [.c (.sl 1 y3 none), .c (.v (.int .i64 y4))], o1, .ptr [.c (.v (.int .i64 y5))]]) ∧ K0 y0 y1 y2 y3 y4 y5)) := by
  obtain ⟨O, hO⟩ : ∃ O, O = std 2 T G0 (Den Try.prog G0) := ⟨_, rfl⟩
  have hLO : L = O.len := by rw [hN, hO]; rfl
  subst hLO
  refine den_h hO tiA mixed tabOk (fn := Try.f110) (sh := true) (by kernel_rfl) rfl rfl rfl rfl ?_
  intro Q hQ
  unfold p110_b at h
  conv => cbv
  refine call_h hO [.ref 2, .ref 1, .shut, .shut, .shut] (d_p137 fu O.len hN h) ?_
  intro os Q hos hQ
  conv => cbv
  refine ⟨(by (rw [hos]) <;> (subst hO; rfl)), ?_⟩
  intro r bs hq
  rw [hQ] at hq
  clear hos hQ h
  obtain ⟨y1, y2, y3, _, _, _, ⟨rfl, rfl⟩, h⟩ := hq
  conv => cbv
  refine br_h hO h (by subst hO; rfl) (fun hc1 h => ?_) (fun hc1 h => ?_)
  · conv => cbv
    rw [hQ]
    exact ⟨0, 0, nilE, y1, y2, y3, _, ⟨(by subst hO; rfl), (by subst hO; rfl)⟩, h⟩
  · conv => cbv
    refine join_all hO ?_
    conv => cbv
    refine call_h hO [.ref 2, .shut, .shut] (d_p93 fu O.len hN h) ?_
    intro os Q hos hQ
    conv => cbv
    refine ⟨(by (rw [hos]) <;> (subst hO; rfl)), ?_⟩
    intro r bs hq
    rw [hQ] at hq
    clear hos hQ h
    obtain ⟨y4, y5, y6, _, _, ⟨rfl, rfl⟩, h⟩ := hq
    conv => cbv
    refine br_join_h hO tiA h (by subst hO; rfl) [0, 1, 2, 6, 7, 8] [0, 1, 7000, 8000] [] (fun tm m => ∃ (j7 : EL) (j8 : Int) (j9 : Int) (j10 : Int), ((tm = frame 0 59 [(0, .p 0 0 0), (1, .c (.v (.int .i64 x2))), (2, .p 1 1 0), (6, .p 7000 2 0), (7, .p 8000 2 0), (8, .c (.v (.int .i64 j10)))] ∧ m = ⟨[(0, .blk 0 [.c (.sl 1 j7 none), .c (.v (.int .i64 j8))]), (1, .blk 1 [.c (.v (.int .i64 y3))]), (7000, .blk 2 [.c (.v (.int .i64 0)), .c (.v (.int .i64 0)), .c (.sl 3 [] (some []))]), (8000, .blk 2 [.c (.v (.int .i64 y4)), .c (.v (.int .i64 j9)), .c (.sl 3 [] (some []))])], 3⟩)) ∧ p110_3 False fu (p110 False fu) K0 x2 y3 y4 j7 j8 j9 j10) (fun hc4 h L hL_3 => ?_) (fun hc4 h L hL_3 => ?_) ?_
    · conv => cbv
      exact hL_3 _ _ ⟨y5, y6, 0, 1, ⟨(by (conv => lhs; cbv) <;> (subst hO; rfl)), (by (conv => lhs; cbv) <;> (subst hO; rfl))⟩, h⟩
    · conv => cbv
      refine br_join_h hO tiA h (by subst hO; rfl) [0, 1, 2, 6, 7, 8, 23, 26] [0, 1, 7000, 8000] [] (fun tm m => ∃ (j26 : Bool), ((tm = frame 0 59 [(0, .p 0 0 0), (1, .c (.v (.int .i64 x2))), (2, .p 1 1 0), (6, .p 7000 2 0), (7, .p 8000 2 0), (8, .c (.v (.int .i64 0))), (23, .c (.v (.int .i64 y4))), (26, .c (.v (.bool j26)))] ∧ m = ⟨[(0, .blk 0 [.c (.sl 1 y5 none), .c (.v (.int .i64 y6))]), (1, .blk 1 [.c (.v (.int .i64 y3))]), (7000, .blk 2 [.c (.v (.int .i64 0)), .c (.v (.int .i64 0)), .c (.sl 3 [] (some []))]), (8000, .blk 2 [.c (.v (.int .i64 y4)), .c (.v (.int .i64 0)), .c (.sl 3 [] (some []))])], 3⟩)) ∧ p110_7 False fu (p110 False fu) K0 x2 y3 y4 y5 y6 j26) (fun hc8 h L hL_7 => ?_) (fun hc8 h L hL_7 => ?_) ?_
      · conv => cbv
        exact hL_7 _ _ ⟨(cmpStd .eql y4 2), ⟨(by (conv => lhs; cbv) <;> (subst hO; rfl)), (by (conv => lhs; cbv) <;> (subst hO; rfl))⟩, h⟩
      · conv => cbv
        exact hL_7 _ _ ⟨(cmpStd .eql y4 3), ⟨(by (conv => lhs; cbv) <;> (subst hO; rfl)), (by (conv => lhs; cbv) <;> (subst hO; rfl))⟩, h⟩
      · rintro tm m ⟨j26, hs, h⟩
        unfold p110_7 at h
        obtain ⟨rfl, rfl⟩ := hs
        conv => cbv
        refine br_join_h hO tiA h (by subst hO; rfl) [0, 1, 2, 6, 7, 8] [0, 1, 7000, 8000] [] (fun tm m => ∃ (j27 : EL) (j28 : Int) (j29 : Int) (j30 : Int), ((tm = frame 0 59 [(0, .p 0 0 0), (1, .c (.v (.int .i64 x2))), (2, .p 1 1 0), (6, .p 7000 2 0), (7, .p 8000 2 0), (8, .c (.v (.int .i64 j30)))] ∧ m = ⟨[(0, .blk 0 [.c (.sl 1 j27 none), .c (.v (.int .i64 j28))]), (1, .blk 1 [.c (.v (.int .i64 y3))]), (7000, .blk 2 [.c (.v (.int .i64 0)), .c (.v (.int .i64 0)), .c (.sl 3 [] (some []))]), (8000, .blk 2 [.c (.v (.int .i64 y4)), .c (.v (.int .i64 j29)), .c (.sl 3 [] (some []))])], 3⟩)) ∧ p110_4 False fu (p110 False fu) K0 x2 y3 y4 j27 j28 j29 j30) (fun hc5 h L hL_4 => ?_) (fun hc5 h L hL_4 => ?_) ?_
        · conv => cbv
          exact hL_4 _ _ ⟨y5, y6, 0, 2, ⟨(by (conv => lhs; cbv) <;> (subst hO; rfl)), (by (conv => lhs; cbv) <;> (subst hO; rfl))⟩, h⟩
        · conv => cbv
          refine br_join_h hO tiA h (by subst hO; rfl) [0, 1, 2, 6, 7, 8] [0, 1, 7000, 8000] [] (fun tm m => ∃ (j31 : EL) (j32 : Int) (j33 : Int), ((tm = frame 0 59 [(0, .p 0 0 0), (1, .c (.v (.int .i64 x2))), (2, .p 1 1 0), (6, .p 7000 2 0), (7, .p 8000 2 0), (8, .c (.v (.int .i64 0)))] ∧ m = ⟨[(0, .blk 0 [.c (.sl 1 j31 none), .c (.v (.int .i64 j32))]), (1, .blk 1 [.c (.v (.int .i64 y3))]), (7000, .blk 2 [.c (.v (.int .i64 0)), .c (.v (.int .i64 0)), .c (.sl 3 [] (some []))]), (8000, .blk 2 [.c (.v (.int .i64 y4)), .c (.v (.int .i64 j33)), .c (.sl 3 [] (some []))])], 3⟩)) ∧ p110_5 False fu (p110 False fu) K0 x2 y3 y4 j31 j32 j33) (fun hc6 h L hL_5 => ?_) (fun hc6 h L hL_5 => ?_) ?_
          · conv => cbv
            refine call_h hO [.ref 2] (d_p91 fu O.len hN h) ?_
            intro os Q hos hQ
            conv => cbv
            refine ⟨(by (rw [hos]) <;> (subst hO; rfl)), ?_⟩
            intro r bs hq
            rw [hQ] at hq
            clear hos hQ h
            obtain ⟨y34, y35, y36, ⟨rfl, rfl⟩, h⟩ := hq
            conv => cbv
            refine br_join_h hO tiA h (by subst hO; rfl) [0, 1, 2, 6, 7, 8] [0, 1, 7000, 8000] [] (fun tm m => ∃ (j37 : EL) (j38 : Int), ((tm = frame 0 59 [(0, .p 0 0 0), (1, .c (.v (.int .i64 x2))), (2, .p 1 1 0), (6, .p 7000 2 0), (7, .p 8000 2 0), (8, .c (.v (.int .i64 0)))] ∧ m = ⟨[(0, .blk 0 [.c (.sl 1 j37 none), .c (.v (.int .i64 j38))]), (1, .blk 1 [.c (.v (.int .i64 y3))]), (7000, .blk 2 [.c (.v (.int .i64 0)), .c (.v (.int .i64 0)), .c (.sl 3 [] (some []))]), (8000, .blk 2 [.c (.v (.int .i64 y4)), .c (.v (.int .i64 y34)), .c (.sl 3 [] (some []))])], 3⟩)) ∧ p110_6 False fu (p110 False fu) K0 x2 y3 y4 y34 j37 j38) (fun hc7 h L hL_6 => ?_) (fun hc7 h L hL_6 => ?_) ?_
            · conv => cbv
              refine call_h hO [.ref 2, .shut] (d_p94 fu O.len hN h) ?_
              intro os Q hos hQ
              conv => cbv
              refine ⟨(by (rw [hos]) <;> (subst hO; rfl)), ?_⟩
              intro r bs hq
              rw [hQ] at hq
              clear hos hQ h
              obtain ⟨y39, y40, _, ⟨rfl, rfl⟩, h⟩ := hq
              conv => cbv
              exact hL_6 _ _ ⟨y39, y40, ⟨(by (conv => lhs; cbv) <;> (subst hO; rfl)), (by (conv => lhs; cbv) <;> (subst hO; rfl))⟩, h⟩
            · conv => cbv
              exact hL_6 _ _ ⟨y35, y36, ⟨(by (conv => lhs; cbv) <;> (subst hO; rfl)), (by (conv => lhs; cbv) <;> (subst hO; rfl))⟩, h⟩
            · rintro tm m ⟨j37, j38, hs, h⟩
              unfold p110_6 at h
              obtain ⟨rfl, rfl⟩ := hs
              conv => cbv
              exact hL_5 _ _ ⟨j37, j38, y34, ⟨(by (conv => lhs; cbv) <;> (subst hO; rfl)), (by (conv => lhs; cbv) <;> (subst hO; rfl))⟩, h⟩
          · conv => cbv
            exact hL_5 _ _ ⟨y5, y6, 0, ⟨(by (conv => lhs; cbv) <;> (subst hO; rfl)), (by (conv => lhs; cbv) <;> (subst hO; rfl))⟩, h⟩
          · rintro tm m ⟨j31, j32, j33, hs, h⟩
            unfold p110_5 at h
            obtain ⟨rfl, rfl⟩ := hs
            conv => cbv
            exact hL_4 _ _ ⟨j31, j32, j33, 0, ⟨(by (conv => lhs; cbv) <;> (subst hO; rfl)), (by (conv => lhs; cbv) <;> (subst hO; rfl))⟩, h⟩
        · rintro tm m ⟨j27, j28, j29, j30, hs, h⟩
          unfold p110_4 at h
          obtain ⟨rfl, rfl⟩ := hs
          conv => cbv
          exact hL_3 _ _ ⟨j27, j28, j29, j30, ⟨(by (conv => lhs; cbv) <;> (subst hO; rfl)), (by (conv => lhs; cbv) <;> (subst hO; rfl))⟩, h⟩
    · rintro tm m ⟨j7, j8, j9, j10, hs, h⟩
      unfold p110_3 at h
      obtain ⟨rfl, rfl⟩ := hs
      conv => cbv
      refine loop_of hO tiA [0, 1, 2, 6, 7, 39, 40] [0, 1, 7000, 8000, 56000] [] (fun (n : Nat) tm m => ∃ (z11 : EL) (z12 : Int) (z13 : Int) (z14 : EL) (z15 : Int), ((z14 = [] ∧ tm = frame 0 59 [(0, .p 0 0 0), (1, .c (.v (.int .i64 x2))), (2, .p 1 1 0), (6, .p 7000 2 0), (7, .p 8000 2 0), (39, .c (.v (.int .i64 j10))), (40, .c (.v (.int .i64 z15)))] ∧ m = ⟨[(0, .blk 0 [.c (.sl 1 z11 none), .c (.v (.int .i64 z12))]), (1, .blk 1 [.c (.v (.int .i64 z13))]), (7000, .blk 2 [.c (.v (.int .i64 0)), .c (.v (.int .i64 0)), .c (.sl 3 [] (some []))]), (8000, .blk 2 [.c (.v (.int .i64 y4)), .c (.v (.int .i64 j9)), .c (.sl 3 [] (some []))])], 3⟩) ∨ (tm = frame 0 59 [(0, .p 0 0 0), (1, .c (.v (.int .i64 x2))), (2, .p 1 1 0), (6, .p 7000 2 0), (7, .p 8000 2 0), (39, .c (.v (.int .i64 j10))), (40, .c (.v (.int .i64 z15)))] ∧ m = ⟨[(0, .blk 0 [.c (.sl 1 z11 none), .c (.v (.int .i64 z12))]), (1, .blk 1 [.c (.v (.int .i64 z13))]), (7000, .blk 2 [.c (.v (.int .i64 0)), .c (.v (.int .i64 0)), .c (.sl 3 [] (some []))]), (8000, .blk 2 [.c (.v (.int .i64 y4)), .c (.v (.int .i64 j9)), .t 56000 2 (O.len z14)]), (56000, .arr 2 3 z14 none false)], 3⟩)) ∧ p110_2L False fu (p110 False fu) K0 x2 y4 j9 j10 n z11 z12 z13 z14 z15) (fun n => n) fu ⟨j7, j8, y3, nilE, 0, (.inl ⟨rfl, (by (conv => lhs; cbv) <;> (subst hO; rfl)), (by (conv => lhs; cbv) <;> (subst hO; rfl))⟩), h⟩ ?_
      rintro n1 tm m L ⟨z11, z12, z13, z14, z15, hs, h⟩ hLn1
      cases n1 with
      | zero => rw [p110_2L] at h; exact h.elim
      | succ n1 =>
        rw [p110_2L] at h
        unfold p110_2 at h
        rcases hs with hs | hs
        · obtain ⟨rfl, rfl, rfl⟩ := hs
          conv => cbv
          refine br_h hO h (by subst hO; rfl) (fun hc2 h => ?_) (fun hc2 h => ?_)
          · conv => cbv
            refine join_all hO ?_
            conv => cbv
            refine br_join_h hO tiA h (by subst hO; rfl) [0, 1, 2, 6, 7, 39, 40] [0, 1, 7000, 8000, 56000] [] (fun tm m => ∃ (j16 : EL) (j17 : Int) (j18 : Int) (j19 : EL), ((tm = frame 0 59 [(0, .p 0 0 0), (1, .c (.v (.int .i64 x2))), (2, .p 1 1 0), (6, .p 7000 2 0), (7, .p 8000 2 0), (39, .c (.v (.int .i64 j10))), (40, .c (.v (.int .i64 z15)))] ∧ m = ⟨[(0, .blk 0 [.c (.sl 1 j16 none), .c (.v (.int .i64 j17))]), (1, .blk 1 [.c (.v (.int .i64 j18))]), (7000, .blk 2 [.c (.v (.int .i64 0)), .c (.v (.int .i64 0)), .c (.sl 3 [] (some []))]), (8000, .blk 2 [.c (.v (.int .i64 y4)), .c (.v (.int .i64 j9)), .t 56000 2 (O.len j19)]), (56000, .arr 2 3 j19 none false)], 3⟩) ∨ (j19 = [] ∧ tm = frame 0 59 [(0, .p 0 0 0), (1, .c (.v (.int .i64 x2))), (2, .p 1 1 0), (6, .p 7000 2 0), (7, .p 8000 2 0), (39, .c (.v (.int .i64 j10))), (40, .c (.v (.int .i64 z15)))] ∧ m = ⟨[(0, .blk 0 [.c (.sl 1 j16 none), .c (.v (.int .i64 j17))]), (1, .blk 1 [.c (.v (.int .i64 j18))]), (7000, .blk 2 [.c (.v (.int .i64 0)), .c (.v (.int .i64 0)), .c (.sl 3 [] (some []))]), (8000, .blk 2 [.c (.v (.int .i64 y4)), .c (.v (.int .i64 j9)), .c (.sl 3 [] (some []))])], 3⟩)) ∧ p110_1 False fu (p110 False fu) K0 (p110_2L False fu (p110 False fu) K0  x2 y4 j9 j10 n1) z15 j16 j17 j18 j19) (fun hc3 h L hL_1 => ?_) (fun hc3 h L hL_1 => ?_) ?_
            · conv => cbv
              refine drawn_of hO tiA [0, 1, 55000] [(0, true, false), (1, true, false), (2, true, false), (3, true, false), (4, true, false), (5, true, false), (6, false, false), (7, false, false), (8, false, true), (9, true, true), (10, false, true)] (by kernel_rfl) ?_
              conv => cbv
              refine call_h hO [.ref 2, .shut, .ref 1] (ih_p110 O.len hN h) ?_
              intro os Q hos hQ
              conv => cbv
              refine ⟨(by (rw [hos]) <;> (subst hO; rfl)), ?_⟩
              intro r bs hq
              rw [hQ] at hq
              clear hos hQ h
              obtain ⟨y20, y21, y22, y23, y24, y25, _, ⟨rfl, rfl⟩, h⟩ := hq
              conv => cbv
              refine ⟨agree_of hO (Nat.le_of_ble_eq_true rfl) rfl, ?_⟩
              refine ⟨agree_of hO (Nat.le_of_ble_eq_true rfl) rfl, ?_⟩
              refine view_h hO h (fun g => (by subst hO; exact g)) (fun h => ?_)
              conv => cbv
              refine and_h h (fun g => (by subst hO; exact g)) (fun h => ?_)
              refine emp_no hO (by subst hO; exact List.cons_ne_nil _ _) ?_
              conv => cbv
              refine join_all hO ?_
              conv => cbv
              exact hL_1 _ _ ⟨y23, y24, y25, (nilE ++ (List.take 1 [[(CV.v (.int .i64 y20)), (CV.v (.int .i64 y21)), (CV.sl 3 y22 none)]])), (.inl ⟨(by (conv => lhs; cbv) <;> (subst hO; rfl)), (by (conv => lhs; cbv) <;> (subst hO; rfl))⟩), h⟩
            · conv => cbv
              exact hL_1 _ _ ⟨z11, z12, z13, nilE, (.inr ⟨rfl, (by (conv => lhs; cbv) <;> (subst hO; rfl)), (by (conv => lhs; cbv) <;> (subst hO; rfl))⟩), h⟩
            · rintro tm m ⟨j16, j17, j18, j19, hs, h⟩
              unfold p110_1 at h
              rcases hs with hs | hs
              · obtain ⟨rfl, rfl⟩ := hs
                conv => cbv
                exact hLn1 n1 _ _ (Nat.lt_succ_self n1) ⟨j16, j17, j18, j19, binStd .add .i64 z15 1, (.inr ⟨(by (conv => lhs; cbv) <;> (subst hO; rfl)), (by (conv => lhs; cbv) <;> (subst hO; rfl))⟩), h⟩
              · obtain ⟨rfl, rfl, rfl⟩ := hs
                conv => cbv
                exact hLn1 n1 _ _ (Nat.lt_succ_self n1) ⟨j16, j17, j18, nilE, binStd .add .i64 z15 1, (.inl ⟨rfl, (by (conv => lhs; cbv) <;> (subst hO; rfl)), (by (conv => lhs; cbv) <;> (subst hO; rfl))⟩), h⟩
          · conv => cbv
            rw [hQ]
            exact ⟨y4, j9, nilE, z11, z12, z13, _, ⟨(by subst hO; rfl), (by subst hO; rfl)⟩, h⟩
        · obtain ⟨rfl, rfl⟩ := hs
          conv => cbv
          refine br_h hO h (by subst hO; rfl) (fun hc2 h => ?_) (fun hc2 h => ?_)
          · conv => cbv
            refine join_all hO ?_
            conv => cbv
            refine br_join_h hO tiA h (by subst hO; rfl) [0, 1, 2, 6, 7, 39, 40] [0, 1, 7000, 8000, 56000] [] (fun tm m => ∃ (j16 : EL) (j17 : Int) (j18 : Int) (j19 : EL), ((tm = frame 0 59 [(0, .p 0 0 0), (1, .c (.v (.int .i64 x2))), (2, .p 1 1 0), (6, .p 7000 2 0), (7, .p 8000 2 0), (39, .c (.v (.int .i64 j10))), (40, .c (.v (.int .i64 z15)))] ∧ m = ⟨[(0, .blk 0 [.c (.sl 1 j16 none), .c (.v (.int .i64 j17))]), (1, .blk 1 [.c (.v (.int .i64 j18))]), (7000, .blk 2 [.c (.v (.int .i64 0)), .c (.v (.int .i64 0)), .c (.sl 3 [] (some []))]), (8000, .blk 2 [.c (.v (.int .i64 y4)), .c (.v (.int .i64 j9)), .t 56000 2 (O.len j19)]), (56000, .arr 2 3 j19 none false)], 3⟩)) ∧ p110_1 False fu (p110 False fu) K0 (p110_2L False fu (p110 False fu) K0  x2 y4 j9 j10 n1) z15 j16 j17 j18 j19) (fun hc3 h L hL_1 => ?_) (fun hc3 h L hL_1 => ?_) ?_
            · conv => cbv
              refine drawn_of hO tiA [0, 1, 55000] [(0, true, false), (1, true, false), (2, true, false), (3, true, false), (4, true, false), (5, true, false), (6, false, false), (7, false, false), (8, false, true), (9, true, true), (10, false, true)] (by kernel_rfl) ?_
              conv => cbv
              refine call_h hO [.ref 2, .shut, .ref 1] (ih_p110 O.len hN h) ?_
              intro os Q hos hQ
              conv => cbv
              refine ⟨(by (rw [hos]) <;> (subst hO; rfl)), ?_⟩
              intro r bs hq
              rw [hQ] at hq
              clear hos hQ h
              obtain ⟨y20, y21, y22, y23, y24, y25, _, ⟨rfl, rfl⟩, h⟩ := hq
              conv => cbv
              refine ⟨agree_of hO (Nat.le_of_ble_eq_true rfl) rfl, ?_⟩
              refine ⟨agree_of hO (Nat.le_of_ble_eq_true rfl) rfl, ?_⟩
              refine view_h hO h (fun g => (by subst hO; exact g)) (fun h => ?_)
              conv => cbv
              refine ⟨(by subst hO; rfl), ?_⟩
              refine and_h h (fun g => (by subst hO; exact g)) (fun h => ?_)
              refine join_all hO ?_
              conv => cbv
              exact hL_1 _ _ ⟨y23, y24, y25, (z14 ++ (List.take 1 [[(CV.v (.int .i64 y20)), (CV.v (.int .i64 y21)), (CV.sl 3 y22 none)]])), ⟨(by (conv => lhs; cbv) <;> (subst hO; rfl)), (by (conv => lhs; cbv) <;> (subst hO; rfl))⟩, h⟩
            · conv => cbv
              exact hL_1 _ _ ⟨z11, z12, z13, z14, ⟨(by (conv => lhs; cbv) <;> (subst hO; rfl)), (by (conv => lhs; cbv) <;> (subst hO; rfl))⟩, h⟩
            · rintro tm m ⟨j16, j17, j18, j19, hs, h⟩
              unfold p110_1 at h
              obtain ⟨rfl, rfl⟩ := hs
              conv => cbv
              exact hLn1 n1 _ _ (Nat.lt_succ_self n1) ⟨j16, j17, j18, j19, binStd .add .i64 z15 1, (.inr ⟨(by (conv => lhs; cbv) <;> (subst hO; rfl)), (by (conv => lhs; cbv) <;> (subst hO; rfl))⟩), h⟩
          · conv => cbv
            refine view_full hO ?_
            conv => cbv
            rw [hQ]
            exact ⟨y4, j9, z14, z11, z12, z13, _, ⟨(by subst hO; rfl), (by subst hO; rfl)⟩, h⟩
theorem dd_p110 (fu : Nat) : D_p110 fu := by
  induction fu with
  | zero => unfold D_p110; intros; rename_i h; rw [p110] at h; exact h.elim
  | succ n ih =>
    exact (by unfold D_p110; intro K0 L hN x0 x1 x2 x3 h; exact b_p110 n ih L hN (by rw [p110] at h; exact h))
theorem d_p110 (fu : Nat) {K0 : Int → Int → EL → EL → Int → Int → Prop} (L : EL → Nat) (hL : L = List.length) {x0 : EL} {x1 : Int} {x2 : Int} {x3 : Int} (h : p110 False fu K0 x0 x1 x2 x3) : Den Try.prog G0 110 [.ptr [.c (.sl 1 x0 none), .c (.v (.int .i64 x1))], .c (.v (.int .i64 x2)), .ptr [.c (.v (.int .i64 x3))]] (fun r bs => (∃ (y0 : Int) (y1 : Int) (y2 : EL) (y3 : EL) (y4 : Int) (y5 : Int) (o1 : OV), (r = .agg [.c (.v (.int .i64 y0)), .c (.v (.int .i64 y1)), .c (.sl 3 y2 none)] ∧ bs = [.ptr [.c (.sl 1 y3 none), .c (.v (.int .i64 y4))], o1, .ptr [.c (.v (.int .i64 y5))]]) ∧ K0 y0 y1 y2 y3 y4 y5)) := dd_p110 fu L hL h
end Go.Proofs.Ythncmjlcmlmnmaa
