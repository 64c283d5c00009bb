/- Functions without memory, and that the Go functions are followed by them. Printed by gen.py. Conditions: none. -/
import Derived.Test.YthncmjlcmlmnmaaG
import Derived.Test.YthncmjlcmlmnmaaPR
import Derived.Test.YthncmjlcmlmnmaaRW1
namespace Go.Proofs.Ythncmjlcmlmnmaa
open Go V
set_option maxRecDepth 100000
set_option maxHeartbeats 4000000
def p110_1 {ρ : Type} (fail : ρ) (fu : Nat) (s_p110 : (Int → Int → EL → EL → Int → Int → ρ) → EL → Int → Int → Int → ρ) (K0 : Int → Int → EL → EL → Int → Int → ρ) (rec1 : EL → Int → Int → EL → Int → ρ) (z15 : Int) (j16 : EL) (j17 : Int) (j18 : Int) (j19 : EL) : ρ :=
  rec1 j16 j17 j18 j19 (binStd .add .i64 z15 1)
def p110_2 {ρ : Type} (fail : ρ) (fu : Nat) (s_p110 : (Int → Int → EL → EL → Int → Int → ρ) → EL → Int → Int → Int → ρ) (K0 : Int → Int → EL → EL → Int → Int → ρ) (rec1 : EL → Int → Int → EL → Int → ρ) (x2 : Int) (y4 : Int) (j9 : Int) (j10 : Int) (z11 : EL) (z12 : Int) (z13 : Int) (z14 : EL) (z15 : Int) : ρ :=
  bif (cmpStd .lss z15 j10) then (bif (cmpStd .eql z12 0) then (s_p110 (fun y20 y21 y22 y23 y24 y25 => gd (1 ≤ [[(CV.v (.int .i64 y20)), (CV.v (.int .i64 y21)), (CV.sl 3 y22 none)]].length) fail (gd ((z14.length + (List.take 1 [[(CV.v (.int .i64 y20)), (CV.v (.int .i64 y21)), (CV.sl 3 y22 none)]]).length) * 40 ≤ 35184372088832) fail (p110_1 fail fu s_p110 K0 rec1 z15 y23 y24 y25 (z14 ++ (List.take 1 [[(CV.v (.int .i64 y20)), (CV.v (.int .i64 y21)), (CV.sl 3 y22 none)]]))))) z11 z12 (binStd .add .i64 x2 1) z13) else (p110_1 fail fu s_p110 K0 rec1 z15 z11 z12 z13 z14)) else (K0 y4 j9 z14 z11 z12 z13)
def p110_2L {ρ : Type} (fail : ρ) (fu : Nat) (s_p110 : (Int → Int → EL → EL → Int → Int → ρ) → EL → Int → Int → Int → ρ) (K0 : Int → Int → EL → EL → Int → Int → ρ)  (x2 : Int) (y4 : Int) (j9 : Int) (j10 : Int) : Nat → EL → Int → Int → EL → Int → ρ
  | 0, _, _, _, _, _ => fail
  | n + 1, z11, z12, z13, z14, z15 => p110_2 fail fu s_p110 K0 (p110_2L fail fu s_p110 K0  x2 y4 j9 j10 n) x2 y4 j9 j10 z11 z12 z13 z14 z15
def p110_3 {ρ : Type} (fail : ρ) (fu : Nat) (s_p110 : (Int → Int → EL → EL → Int → Int → ρ) → EL → Int → Int → Int → ρ) (K0 : Int → Int → EL → EL → Int → Int → ρ)  (x2 : Int) (y3 : Int) (y4 : Int) (j7 : EL) (j8 : Int) (j9 : Int) (j10 : Int) : ρ :=
  p110_2L fail fu s_p110 K0 x2 y4 j9 j10 fu j7 j8 y3 nilE 0
def p110_4 {ρ : Type} (fail : ρ) (fu : Nat) (s_p110 : (Int → Int → EL → EL → Int → Int → ρ) → EL → Int → Int → Int → ρ) (K0 : Int → Int → EL → EL → Int → Int → ρ)  (x2 : Int) (y3 : Int) (y4 : Int) (j27 : EL) (j28 : Int) (j29 : Int) (j30 : Int) : ρ :=
  p110_3 fail fu s_p110 K0 x2 y3 y4 j27 j28 j29 j30
def p110_5 {ρ : Type} (fail : ρ) (fu : Nat) (s_p110 : (Int → Int → EL → EL → Int → Int → ρ) → EL → Int → Int → Int → ρ) (K0 : Int → Int → EL → EL → Int → Int → ρ)  (x2 : Int) (y3 : Int) (y4 : Int) (j31 : EL) (j32 : Int) (j33 : Int) : ρ :=
  p110_4 fail fu s_p110 K0 x2 y3 y4 j31 j32 j33 0
def p110_6 {ρ : Type} (fail : ρ) (fu : Nat) (s_p110 : (Int → Int → EL → EL → Int → Int → ρ) → EL → Int → Int → Int → ρ) (K0 : Int → Int → EL → EL → Int → Int → ρ)  (x2 : Int) (y3 : Int) (y4 : Int) (y34 : Int) (j37 : EL) (j38 : Int) : ρ :=
  p110_5 fail fu s_p110 K0 x2 y3 y4 j37 j38 y34
def p110_7 {ρ : Type} (fail : ρ) (fu : Nat) (s_p110 : (Int → Int → EL → EL → Int → Int → ρ) → EL → Int → Int → Int → ρ) (K0 : Int → Int → EL → EL → Int → Int → ρ)  (x2 : Int) (y3 : Int) (y4 : Int) (y5 : EL) (y6 : Int) (j26 : Bool) : ρ :=
  bif j26 then (p110_4 fail fu s_p110 K0 x2 y3 y4 y5 y6 0 2) else (bif (cmpStd .eql y4 4) then (p91 fail fu (fun y34 y35 y36 => bif (cmpStd .geq y34 4) then (p94 fail fu (fun y39 y40 => p110_6 fail fu s_p110 K0 x2 y3 y4 y34 y39 y40) y35 y36 7) else (p110_6 fail fu s_p110 K0 x2 y3 y4 y34 y35 y36)) y5 y6) else (p110_5 fail fu s_p110 K0 x2 y3 y4 y5 y6 0))
/-- (*codec.Reader).level -/
def p110_b {ρ : Type} (fail : ρ) (fu : Nat) (s_p110 : (Int → Int → EL → EL → Int → Int → ρ) → EL → Int → Int → Int → ρ) (K0 : Int → Int → EL → EL → Int → Int → ρ) (x0 : EL) (x1 : Int) (x2 : Int) (x3 : Int) : ρ :=
  p137 fail fu (fun y1 y2 y3 => bif (cmpStd .neq y2 0) then (K0 0 0 nilE y1 y2 y3) else (p93 fail fu (fun y4 y5 y6 => bif (cmpStd .eql y4 1) then (p110_3 fail fu s_p110 K0 x2 y3 y4 y5 y6 0 1) else (bif (cmpStd .eql y4 2) then (p110_7 fail fu s_p110 K0 x2 y3 y4 y5 y6 (cmpStd .eql y4 2)) else (p110_7 fail fu s_p110 K0 x2 y3 y4 y5 y6 (cmpStd .eql y4 3)))) y1 y2 0 4)) x0 x1 x3 64 x2 32
def p110 {ρ : Type} (fail : ρ) : Nat → (Int → Int → EL → EL → Int → Int → ρ) → EL → Int → Int → Int → ρ
  | 0, _, _, _, _, _ => fail
  | n + 1, K0, x0, x1, x2, x3 => p110_b fail n (p110 fail n) K0 x0 x1 x2 x3
def D_p110 (fu : Nat) : Prop := ∀ {K0 : Int → Int → EL → EL → Int → Int → Prop} (L : EL → Nat) (_ : L = List.length) {x0 : EL} {x1 : Int} {x2 : Int} {x3 : Int} (_ : p110 False fu K0 x0 x1 x2 x3), Den Try.prog G0 110 [.ptr [.c (.sl 1 x0 none), .c (.v (.int .i64 x1))], .c (.v (.int .i64 x2)), .ptr [.c (.v (.int .i64 x3))]] (fun r bs => (∃ (y0 : Int) (y1 : Int) (y2 : EL) (y3 : EL) (y4 : Int) (y5 : Int) (o1 : OV), (r = .agg [.c (.v (.int .i64 y0)), .c (.v (.int .i64 y1)), .c (.sl 3 y2 none)] ∧ bs = [.ptr [.c (.sl 1 y3 none), .c (.v (.int .i64 y4))], o1, .ptr [.c (.v (.int .i64 y5))]]) ∧ K0 y0 y1 y2 y3 y4 y5))
theorem b_p110 (fu : Nat) (ih_p110 : D_p110 fu) {K0 : Int → Int → EL → EL → Int → Int → Prop} (L : EL → Nat) (hN : L = List.length) {x0 : EL} {x1 : Int} {x2 : Int} {x3 : Int} (h : p110_b False fu (p110 False fu) K0 x0 x1 x2 x3) : Den Try.prog G0 110 [.ptr [.c (.sl 1 x0 none), .c (.v (.int .i64 x1))], .c (.v (.int .i64 x2)), .ptr [.c (.v (.int .i64 x3))]] (fun r bs => (∃ (y0 : Int) (y1 : Int) (y2 : EL) (y3 : EL) (y4 : Int) (y5 : Int) (o1 : OV), (r = .agg [.c (.v (.int .i64 y0)), .c (.v (.int .i64 y1)), .c (.sl 3 y2 none)] ∧ bs = [.ptr [.c (.sl 1 y3 none), .c (.v (.int .i64 y4))], o1, .ptr [.c (.v (.int .i64 y5))]]) ∧ K0 y0 y1 y2 y3 y4 y5)) := by
  obtain ⟨O, hO⟩ : ∃ O, O = std 2 T G0 (Den Try.prog G0) := ⟨_, rfl⟩
  have hLO : L = O.len := by rw [hN, hO]; rfl
  subst hLO
  refine den_h hO tiA mixed tabOk (fn := Try.f110) (sh := true) (by kernel_rfl) rfl rfl rfl rfl ?_
  intro Q hQ
  unfold p110_b at h
  conv => cbv
  refine call_h hO [.ref 2, .ref 1, .shut, .shut, .shut] (d_p137 fu O.len hN h) ?_
  intro os Q hos hQ
  conv => cbv
  refine ⟨(by (rw [hos]) <;> (subst hO; rfl)), ?_⟩
  intro r bs hq
  rw [hQ] at hq
  clear hos hQ h
  obtain ⟨y1, y2, y3, _, _, _, ⟨rfl, rfl⟩, h⟩ := hq
  conv => cbv
  refine br_h hO h (by subst hO; rfl) (fun hc1 h => ?_) (fun hc1 h => ?_)
  · conv => cbv
    rw [hQ]
    exact ⟨0, 0, nilE, y1, y2, y3, _, ⟨(by subst hO; rfl), (by subst hO; rfl)⟩, h⟩
  · conv => cbv
    refine join_all hO ?_
    conv => cbv
    refine call_h hO [.ref 2, .shut, .shut] (d_p93 fu O.len hN h) ?_
    intro os Q hos hQ
    conv => cbv
    refine ⟨(by (rw [hos]) <;> (subst hO; rfl)), ?_⟩
    intro r bs hq
    rw [hQ] at hq
    clear hos hQ h
    obtain ⟨y4, y5, y6, _, _, ⟨rfl, rfl⟩, h⟩ := hq
    conv => cbv
    refine br_join_h hO tiA h (by subst hO; rfl) [0, 1, 2, 6, 7, 8] [0, 1, 7000, 8000] [] (fun tm m => ∃ (j7 : EL) (j8 : Int) (j9 : Int) (j10 : Int), ((tm = frame 0 59 [(0, .p 0 0 0), (1, .c (.v (.int .i64 x2))), (2, .p 1 1 0), (6, .p 7000 2 0), (7, .p 8000 2 0), (8, .c (.v (.int .i64 j10)))] ∧ m = ⟨[(0, .blk 0 [.c (.sl 1 j7 none), .c (.v (.int .i64 j8))]), (1, .blk 1 [.c (.v (.int .i64 y3))]), (7000, .blk 2 [.c (.v (.int .i64 0)), .c (.v (.int .i64 0)), .c (.sl 3 [] (some []))]), (8000, .blk 2 [.c (.v (.int .i64 y4)), .c (.v (.int .i64 j9)), .c (.sl 3 [] (some []))])], 3⟩)) ∧ p110_3 False fu (p110 False fu) K0 x2 y3 y4 j7 j8 j9 j10) (fun hc4 h L hL_3 => ?_) (fun hc4 h L hL_3 => ?_) ?_
    · conv => cbv
      exact hL_3 _ _ ⟨y5, y6, 0, 1, ⟨(by (conv => lhs; cbv) <;> (subst hO; rfl)), (by (conv => lhs; cbv) <;> (subst hO; rfl))⟩, h⟩
    · conv => cbv
      refine br_join_h hO tiA h (by subst hO; rfl) [0, 1, 2, 6, 7, 8, 23, 26] [0, 1, 7000, 8000] [] (fun tm m => ∃ (j26 : Bool), ((tm = frame 0 59 [(0, .p 0 0 0), (1, .c (.v (.int .i64 x2))), (2, .p 1 1 0), (6, .p 7000 2 0), (7, .p 8000 2 0), (8, .c (.v (.int .i64 0))), (23, .c (.v (.int .i64 y4))), (26, .c (.v (.bool j26)))] ∧ m = ⟨[(0, .blk 0 [.c (.sl 1 y5 none), .c (.v (.int .i64 y6))]), (1, .blk 1 [.c (.v (.int .i64 y3))]), (7000, .blk 2 [.c (.v (.int .i64 0)), .c (.v (.int .i64 0)), .c (.sl 3 [] (some []))]), (8000, .blk 2 [.c (.v (.int .i64 y4)), .c (.v (.int .i64 0)), .c (.sl 3 [] (some []))])], 3⟩)) ∧ p110_7 False fu (p110 False fu) K0 x2 y3 y4 y5 y6 j26) (fun hc8 h L hL_7 => ?_) (fun hc8 h L hL_7 => ?_) ?_
      · conv => cbv
        exact hL_7 _ _ ⟨(cmpStd .eql y4 2), ⟨(by (conv => lhs; cbv) <;> (subst hO; rfl)), (by (conv => lhs; cbv) <;> (subst hO; rfl))⟩, h⟩
      · conv => cbv
        exact hL_7 _ _ ⟨(cmpStd .eql y4 3), ⟨(by (conv => lhs; cbv) <;> (subst hO; rfl)), (by (conv => lhs; cbv) <;> (subst hO; rfl))⟩, h⟩
      · rintro tm m ⟨j26, hs, h⟩
        unfold p110_7 at h
        obtain ⟨rfl, rfl⟩ := hs
        conv => cbv
        refine br_join_h hO tiA h (by subst hO; rfl) [0, 1, 2, 6, 7, 8] [0, 1, 7000, 8000] [] (fun tm m => ∃ (j27 : EL) (j28 : Int) (j29 : Int) (j30 : Int), ((tm = frame 0 59 [(0, .p 0 0 0), (1, .c (.v (.int .i64 x2))), (2, .p 1 1 0), (6, .p 7000 2 0), (7, .p 8000 2 0), (8, .c (.v (.int .i64 j30)))] ∧ m = ⟨[(0, .blk 0 [.c (.sl 1 j27 none), .c (.v (.int .i64 j28))]), (1, .blk 1 [.c (.v (.int .i64 y3))]), (7000, .blk 2 [.c (.v (.int .i64 0)), .c (.v (.int .i64 0)), .c (.sl 3 [] (some []))]), (8000, .blk 2 [.c (.v (.int .i64 y4)), .c (.v (.int .i64 j29)), .c (.sl 3 [] (some []))])], 3⟩)) ∧ p110_4 False fu (p110 False fu) K0 x2 y3 y4 j27 j28 j29 j30) (fun hc5 h L hL_4 => ?_) (fun hc5 h L hL_4 => ?_) ?_
        · conv => cbv
          exact hL_4 _ _ ⟨y5, y6, 0, 2, ⟨(by (conv => lhs; cbv) <;> (subst hO; rfl)), (by (conv => lhs; cbv) <;> (subst hO; rfl))⟩, h⟩
        · conv => cbv
          refine br_join_h hO tiA h (by subst hO; rfl) [0, 1, 2, 6, 7, 8] [0, 1, 7000, 8000] [] (fun tm m => ∃ (j31 : EL) (j32 : Int) (j33 : Int), ((tm = frame 0 59 [(0, .p 0 0 0), (1, .c (.v (.int .i64 x2))), (2, .p 1 1 0), (6, .p 7000 2 0), (7, .p 8000 2 0), (8, .c (.v (.int .i64 0)))] ∧ m = ⟨[(0, .blk 0 [.c (.sl 1 j31 none), .c (.v (.int .i64 j32))]), (1, .blk 1 [.c (.v (.int .i64 y3))]), (7000, .blk 2 [.c (.v (.int .i64 0)), .c (.v (.int .i64 0)), .c (.sl 3 [] (some []))]), (8000, .blk 2 [.c (.v (.int .i64 y4)), .c (.v (.int .i64 j33)), .c (.sl 3 [] (some []))])], 3⟩)) ∧ p110_5 False fu (p110 False fu) K0 x2 y3 y4 j31 j32 j33) (fun hc6 h L hL_5 => ?_) (fun hc6 h L hL_5 => ?_) ?_
          · conv => cbv
            refine call_h hO [.ref 2] (d_p91 fu O.len hN h) ?_
            intro os Q hos hQ
            conv => cbv
            refine ⟨(by (rw [hos]) <;> (subst hO; rfl)), ?_⟩
            intro r bs hq
            rw [hQ] at hq
            clear hos hQ h
            obtain ⟨y34, y35, y36, ⟨rfl, rfl⟩, h⟩ := hq
            conv => cbv
            refine br_join_h hO tiA h (by subst hO; rfl) [0, 1, 2, 6, 7, 8] [0, 1, 7000, 8000] [] (fun tm m => ∃ (j37 : EL) (j38 : Int), ((tm = frame 0 59 [(0, .p 0 0 0), (1, .c (.v (.int .i64 x2))), (2, .p 1 1 0), (6, .p 7000 2 0), (7, .p 8000 2 0), (8, .c (.v (.int .i64 0)))] ∧ m = ⟨[(0, .blk 0 [.c (.sl 1 j37 none), .c (.v (.int .i64 j38))]), (1, .blk 1 [.c (.v (.int .i64 y3))]), (7000, .blk 2 [.c (.v (.int .i64 0)), .c (.v (.int .i64 0)), .c (.sl 3 [] (some []))]), (8000, .blk 2 [.c (.v (.int .i64 y4)), .c (.v (.int .i64 y34)), .c (.sl 3 [] (some []))])], 3⟩)) ∧ p110_6 False fu (p110 False fu) K0 x2 y3 y4 y34 j37 j38) (fun hc7 h L hL_6 => ?_) (fun hc7 h L hL_6 => ?_) ?_
            · conv => cbv
              refine call_h hO [.ref 2, .shut] (d_p94 fu O.len hN h) ?_
              intro os Q hos hQ
              conv => cbv
              refine ⟨(by (rw [hos]) <;> (subst hO; rfl)), ?_⟩
              intro r bs hq
              rw [hQ] at hq
              clear hos hQ h
              obtain ⟨y39, y40, _, ⟨rfl, rfl⟩, h⟩ := hq
              conv => cbv
              exact hL_6 _ _ ⟨y39, y40, ⟨(by (conv => lhs; cbv) <;> (subst hO; rfl)), (by (conv => lhs; cbv) <;> (subst hO; rfl))⟩, h⟩
            · conv => cbv
              exact hL_6 _ _ ⟨y35, y36, ⟨(by (conv => lhs; cbv) <;> (subst hO; rfl)), (by (conv => lhs; cbv) <;> (subst hO; rfl))⟩, h⟩
            · rintro tm m ⟨j37, j38, hs, h⟩
              unfold p110_6 at h
              obtain ⟨rfl, rfl⟩ := hs
              conv => cbv
              exact hL_5 _ _ ⟨j37, j38, y34, ⟨(by (conv => lhs; cbv) <;> (subst hO; rfl)), (by (conv => lhs; cbv) <;> (subst hO; rfl))⟩, h⟩
          · conv => cbv
            exact hL_5 _ _ ⟨y5, y6, 0, ⟨(by (conv => lhs; cbv) <;> (subst hO; rfl)), (by (conv => lhs; cbv) <;> (subst hO; rfl))⟩, h⟩
          · rintro tm m ⟨j31, j32, j33, hs, h⟩
            unfold p110_5 at h
            obtain ⟨rfl, rfl⟩ := hs
            conv => cbv
            exact hL_4 _ _ ⟨j31, j32, j33, 0, ⟨(by (conv => lhs; cbv) <;> (subst hO; rfl)), (by (conv => lhs; cbv) <;> (subst hO; rfl))⟩, h⟩
        · rintro tm m ⟨j27, j28, j29, j30, hs, h⟩
          unfold p110_4 at h
          obtain ⟨rfl, rfl⟩ := hs
          conv => cbv
          exact hL_3 _ _ ⟨j27, j28, j29, j30, ⟨(by (conv => lhs; cbv) <;> (subst hO; rfl)), (by (conv => lhs; cbv) <;> (subst hO; rfl))⟩, h⟩
    · rintro tm m ⟨j7, j8, j9, j10, hs, h⟩
      unfold p110_3 at h
      obtain ⟨rfl, rfl⟩ := hs
      conv => cbv
      refine loop_of hO tiA [0, 1, 2, 6, 7, 39, 40] [0, 1, 7000, 8000, 56000] [] (fun (n : Nat) tm m => ∃ (z11 : EL) (z12 : Int) (z13 : Int) (z14 : EL) (z15 : Int), ((z14 = [] ∧ tm = frame 0 59 [(0, .p 0 0 0), (1, .c (.v (.int .i64 x2))), (2, .p 1 1 0), (6, .p 7000 2 0), (7, .p 8000 2 0), (39, .c (.v (.int .i64 j10))), (40, .c (.v (.int .i64 z15)))] ∧ m = ⟨[(0, .blk 0 [.c (.sl 1 z11 none), .c (.v (.int .i64 z12))]), (1, .blk 1 [.c (.v (.int .i64 z13))]), (7000, .blk 2 [.c (.v (.int .i64 0)), .c (.v (.int .i64 0)), .c (.sl 3 [] (some []))]), (8000, .blk 2 [.c (.v (.int .i64 y4)), .c (.v (.int .i64 j9)), .c (.sl 3 [] (some []))])], 3⟩) ∨ (tm = frame 0 59 [(0, .p 0 0 0), (1, .c (.v (.int .i64 x2))), (2, .p 1 1 0), (6, .p 7000 2 0), (7, .p 8000 2 0), (39, .c (.v (.int .i64 j10))), (40, .c (.v (.int .i64 z15)))] ∧ m = ⟨[(0, .blk 0 [.c (.sl 1 z11 none), .c (.v (.int .i64 z12))]), (1, .blk 1 [.c (.v (.int .i64 z13))]), (7000, .blk 2 [.c (.v (.int .i64 0)), .c (.v (.int .i64 0)), .c (.sl 3 [] (some []))]), (8000, .blk 2 [.c (.v (.int .i64 y4)), .c (.v (.int .i64 j9)), .t 56000 2 (O.len z14)]), (56000, .arr 2 3 z14 none false)], 3⟩)) ∧ p110_2L False fu (p110 False fu) K0 x2 y4 j9 j10 n z11 z12 z13 z14 z15) (fun n => n) fu ⟨j7, j8, y3, nilE, 0, (.inl ⟨rfl, (by (conv => lhs; cbv) <;> (subst hO; rfl)), (by (conv => lhs; cbv) <;> (subst hO; rfl))⟩), h⟩ ?_
      rintro n1 tm m L ⟨z11, z12, z13, z14, z15, hs, h⟩ hLn1
      cases n1 with
      | zero => rw [p110_2L] at h; exact h.elim
      | succ n1 =>
        rw [p110_2L] at h
        unfold p110_2 at h
        rcases hs with hs | hs
        · obtain ⟨rfl, rfl, rfl⟩ := hs
          conv => cbv
          refine br_h hO h (by subst hO; rfl) (fun hc2 h => ?_) (fun hc2 h => ?_)
          · conv => cbv
            refine join_all hO ?_
            conv => cbv
            refine br_join_h hO tiA h (by subst hO; rfl) [0, 1, 2, 6, 7, 39, 40] [0, 1, 7000, 8000, 56000] [] (fun tm m => ∃ (j16 : EL) (j17 : Int) (j18 : Int) (j19 : EL), ((tm = frame 0 59 [(0, .p 0 0 0), (1, .c (.v (.int .i64 x2))), (2, .p 1 1 0), (6, .p 7000 2 0), (7, .p 8000 2 0), (39, .c (.v (.int .i64 j10))), (40, .c (.v (.int .i64 z15)))] ∧ m = ⟨[(0, .blk 0 [.c (.sl 1 j16 none), .c (.v (.int .i64 j17))]), (1, .blk 1 [.c (.v (.int .i64 j18))]), (7000, .blk 2 [.c (.v (.int .i64 0)), .c (.v (.int .i64 0)), .c (.sl 3 [] (some []))]), (8000, .blk 2 [.c (.v (.int .i64 y4)), .c (.v (.int .i64 j9)), .t 56000 2 (O.len j19)]), (56000, .arr 2 3 j19 none false)], 3⟩) ∨ (j19 = [] ∧ tm = frame 0 59 [(0, .p 0 0 0), (1, .c (.v (.int .i64 x2))), (2, .p 1 1 0), (6, .p 7000 2 0), (7, .p 8000 2 0), (39, .c (.v (.int .i64 j10))), (40, .c (.v (.int .i64 z15)))] ∧ m = ⟨[(0, .blk 0 [.c (.sl 1 j16 none), .c (.v (.int .i64 j17))]), (1, .blk 1 [.c (.v (.int .i64 j18))]), (7000, .blk 2 [.c (.v (.int .i64 0)), .c (.v (.int .i64 0)), .c (.sl 3 [] (some []))]), (8000, .blk 2 [.c (.v (.int .i64 y4)), .c (.v (.int .i64 j9)), .c (.sl 3 [] (some []))])], 3⟩)) ∧ p110_1 False fu (p110 False fu) K0 (p110_2L False fu (p110 False fu) K0  x2 y4 j9 j10 n1) z15 j16 j17 j18 j19) (fun hc3 h L hL_1 => ?_) (fun hc3 h L hL_1 => ?_) ?_
            · conv => cbv
              refine drawn_of hO tiA [[0, 1], [], [], [], []] [(0, true, false), (1, true, false), (2, true, false), (3, true, false), (4, true, false), (5, true, false), (6, false, false), (7, false, false), (8, false, true), (9, true, true), (10, false, true)] (by kernel_rfl) ?_
              conv => cbv
              refine call_h hO [.ref 2, .shut, .ref 1] (ih_p110 O.len hN h) ?_
              intro os Q hos hQ
              conv => cbv
              refine ⟨(by (rw [hos]) <;> (subst hO; rfl)), ?_⟩
              intro r bs hq
              rw [hQ] at hq
              clear hos hQ h
              obtain ⟨y20, y21, y22, y23, y24, y25, _, ⟨rfl, rfl⟩, h⟩ := hq
              conv => cbv
              refine ⟨agree_of hO (Nat.le_of_ble_eq_true rfl) rfl, ?_⟩
              refine ⟨agree_of hO (Nat.le_of_ble_eq_true rfl) rfl, ?_⟩
              refine view_h hO h (fun g => (by subst hO; exact g)) (fun h => ?_)
              conv => cbv
              refine and_h h (fun g => (by subst hO; exact g)) (fun h => ?_)
              refine emp_no hO (by subst hO; exact List.cons_ne_nil _ _) ?_
              conv => cbv
              refine join_all hO ?_
              conv => cbv
              exact hL_1 _ _ ⟨y23, y24, y25, (nilE ++ (List.take 1 [[(CV.v (.int .i64 y20)), (CV.v (.int .i64 y21)), (CV.sl 3 y22 none)]])), (.inl ⟨(by (conv => lhs; cbv) <;> (subst hO; rfl)), (by (conv => lhs; cbv) <;> (subst hO; rfl))⟩), h⟩
            · conv => cbv
              exact hL_1 _ _ ⟨z11, z12, z13, nilE, (.inr ⟨rfl, (by (conv => lhs; cbv) <;> (subst hO; rfl)), (by (conv => lhs; cbv) <;> (subst hO; rfl))⟩), h⟩
            · rintro tm m ⟨j16, j17, j18, j19, hs, h⟩
              unfold p110_1 at h
              rcases hs with hs | hs
              · obtain ⟨rfl, rfl⟩ := hs
                conv => cbv
                exact hLn1 n1 _ _ (Nat.lt_succ_self n1) ⟨j16, j17, j18, j19, binStd .add .i64 z15 1, (.inr ⟨(by (conv => lhs; cbv) <;> (subst hO; rfl)), (by (conv => lhs; cbv) <;> (subst hO; rfl))⟩), h⟩
              · obtain ⟨rfl, rfl, rfl⟩ := hs
                conv => cbv
                exact hLn1 n1 _ _ (Nat.lt_succ_self n1) ⟨j16, j17, j18, nilE, binStd .add .i64 z15 1, (.inl ⟨rfl, (by (conv => lhs; cbv) <;> (subst hO; rfl)), (by (conv => lhs; cbv) <;> (subst hO; rfl))⟩), h⟩
          · conv => cbv
            rw [hQ]
            exact ⟨y4, j9, nilE, z11, z12, z13, _, ⟨(by subst hO; rfl), (by subst hO; rfl)⟩, h⟩
        · obtain ⟨rfl, rfl⟩ := hs
          conv => cbv
          refine br_h hO h (by subst hO; rfl) (fun hc2 h => ?_) (fun hc2 h => ?_)
          · conv => cbv
            refine join_all hO ?_
            conv => cbv
            refine br_join_h hO tiA h (by subst hO; rfl) [0, 1, 2, 6, 7, 39, 40] [0, 1, 7000, 8000, 56000] [] (fun tm m => ∃ (j16 : EL) (j17 : Int) (j18 : Int) (j19 : EL), ((tm = frame 0 59 [(0, .p 0 0 0), (1, .c (.v (.int .i64 x2))), (2, .p 1 1 0), (6, .p 7000 2 0), (7, .p 8000 2 0), (39, .c (.v (.int .i64 j10))), (40, .c (.v (.int .i64 z15)))] ∧ m = ⟨[(0, .blk 0 [.c (.sl 1 j16 none), .c (.v (.int .i64 j17))]), (1, .blk 1 [.c (.v (.int .i64 j18))]), (7000, .blk 2 [.c (.v (.int .i64 0)), .c (.v (.int .i64 0)), .c (.sl 3 [] (some []))]), (8000, .blk 2 [.c (.v (.int .i64 y4)), .c (.v (.int .i64 j9)), .t 56000 2 (O.len j19)]), (56000, .arr 2 3 j19 none false)], 3⟩)) ∧ p110_1 False fu (p110 False fu) K0 (p110_2L False fu (p110 False fu) K0  x2 y4 j9 j10 n1) z15 j16 j17 j18 j19) (fun hc3 h L hL_1 => ?_) (fun hc3 h L hL_1 => ?_) ?_
            · conv => cbv
              refine drawn_of hO tiA [[0, 1], [], [], [], []] [(0, true, false), (1, true, false), (2, true, false), (3, true, false), (4, true, false), (5, true, false), (6, false, false), (7, false, false), (8, false, true), (9, true, true), (10, false, true)] (by kernel_rfl) ?_
              conv => cbv
              refine call_h hO [.ref 2, .shut, .ref 1] (ih_p110 O.len hN h) ?_
              intro os Q hos hQ
              conv => cbv
              refine ⟨(by (rw [hos]) <;> (subst hO; rfl)), ?_⟩
              intro r bs hq
              rw [hQ] at hq
              clear hos hQ h
              obtain ⟨y20, y21, y22, y23, y24, y25, _, ⟨rfl, rfl⟩, h⟩ := hq
              conv => cbv
              refine ⟨agree_of hO (Nat.le_of_ble_eq_true rfl) rfl, ?_⟩
              refine ⟨agree_of hO (Nat.le_of_ble_eq_true rfl) rfl, ?_⟩
              refine view_h hO h (fun g => (by subst hO; exact g)) (fun h => ?_)
              conv => cbv
              refine ⟨(by subst hO; rfl), ?_⟩
              refine and_h h (fun g => (by subst hO; exact g)) (fun h => ?_)
              refine join_all hO ?_
              conv => cbv
              exact hL_1 _ _ ⟨y23, y24, y25, (z14 ++ (List.take 1 [[(CV.v (.int .i64 y20)), (CV.v (.int .i64 y21)), (CV.sl 3 y22 none)]])), ⟨(by (conv => lhs; cbv) <;> (subst hO; rfl)), (by (conv => lhs; cbv) <;> (subst hO; rfl))⟩, h⟩
            · conv => cbv
              exact hL_1 _ _ ⟨z11, z12, z13, z14, ⟨(by (conv => lhs; cbv) <;> (subst hO; rfl)), (by (conv => lhs; cbv) <;> (subst hO; rfl))⟩, h⟩
            · rintro tm m ⟨j16, j17, j18, j19, hs, h⟩
              unfold p110_1 at h
              obtain ⟨rfl, rfl⟩ := hs
              conv => cbv
              exact hLn1 n1 _ _ (Nat.lt_succ_self n1) ⟨j16, j17, j18, j19, binStd .add .i64 z15 1, (.inr ⟨(by (conv => lhs; cbv) <;> (subst hO; rfl)), (by (conv => lhs; cbv) <;> (subst hO; rfl))⟩), h⟩
          · conv => cbv
            refine view_full hO ?_
            conv => cbv
            rw [hQ]
            exact ⟨y4, j9, z14, z11, z12, z13, _, ⟨(by subst hO; rfl), (by subst hO; rfl)⟩, h⟩
theorem dd_p110 (fu : Nat) : D_p110 fu := by
  induction fu with
  | zero => unfold D_p110; intros; rename_i h; rw [p110] at h; exact h.elim
  | succ n ih =>
    exact (by unfold D_p110; intro K0 L hN x0 x1 x2 x3 h; exact b_p110 n ih L hN (by rw [p110] at h; exact h))
theorem d_p110 (fu : Nat) {K0 : Int → Int → EL → EL → Int → Int → Prop} (L : EL → Nat) (hL : L = List.length) {x0 : EL} {x1 : Int} {x2 : Int} {x3 : Int} (h : p110 False fu K0 x0 x1 x2 x3) : Den Try.prog G0 110 [.ptr [.c (.sl 1 x0 none), .c (.v (.int .i64 x1))], .c (.v (.int .i64 x2)), .ptr [.c (.v (.int .i64 x3))]] (fun r bs => (∃ (y0 : Int) (y1 : Int) (y2 : EL) (y3 : EL) (y4 : Int) (y5 : Int) (o1 : OV), (r = .agg [.c (.v (.int .i64 y0)), .c (.v (.int .i64 y1)), .c (.sl 3 y2 none)] ∧ bs = [.ptr [.c (.sl 1 y3 none), .c (.v (.int .i64 y4))], o1, .ptr [.c (.v (.int .i64 y5))]]) ∧ K0 y0 y1 y2 y3 y4 y5)) := dd_p110 fu L hL h
end Go.Proofs.Ythncmjlcmlmnmaa

namespace Go.Proofs.Ythncmjlcmlmnmaa
open Go V
set_option maxRecDepth 100000
set_option maxHeartbeats 4000000
/-- (*codec.Reader).Level -/
def p67 {ρ : Type} (fail : ρ) (fu : Nat)  (K0 : Int → Int → EL → EL → Int → ρ) (x0 : EL) (x1 : Int) : ρ :=
  p110 fail fu (fun y1 y2 y3 y4 y5 y6 => K0 y1 y2 y3 y4 y5) x0 x1 1 0
theorem d_p67 (fu : Nat)  {K0 : Int → Int → EL → EL → Int → Prop} (L : EL → Nat) (hN : L = List.length) {x0 : EL} {x1 : Int} (h : p67 False fu K0 x0 x1) : Den Try.prog G0 67 [.ptr [.c (.sl 1 x0 none), .c (.v (.int .i64 x1))]] (fun r bs => (∃ (y0 : Int) (y1 : Int) (y2 : EL) (y3 : EL) (y4 : Int), (r = .agg [.c (.v (.int .i64 y0)), .c (.v (.int .i64 y1)), .c (.sl 3 y2 none)] ∧ bs = [.ptr [.c (.sl 1 y3 none), .c (.v (.int .i64 y4))]]) ∧ K0 y0 y1 y2 y3 y4)) := by
  obtain ⟨O, hO⟩ : ∃ O, O = std 1 T G0 (Den Try.prog G0) := ⟨_, rfl⟩
  have hLO : L = O.len := by rw [hN, hO]; rfl
  subst hLO
  refine den_h hO tiA mixed tabOk (fn := Try.f67) (sh := true) (by kernel_rfl) rfl rfl rfl rfl ?_
  intro Q hQ
  unfold p67 at h
  conv => cbv
  refine call_h hO [.ref 2, .shut, .ref 1] (d_p110 fu O.len hN h) ?_
  intro os Q hos hQ
  conv => cbv
  refine ⟨(by (rw [hos]) <;> (subst hO; rfl)), ?_⟩
  intro r bs hq
  rw [hQ] at hq
  clear hos hQ h
  obtain ⟨y1, y2, y3, y4, y5, y6, _, ⟨rfl, rfl⟩, h⟩ := hq
  conv => cbv
  rw [hQ]
  exact ⟨y1, y2, y3, y4, y5, ⟨(by subst hO; rfl), (by subst hO; rfl)⟩, h⟩
end Go.Proofs.Ythncmjlcmlmnmaa

namespace Go.Proofs.Ythncmjlcmlmnmaa
open Go V
set_option maxRecDepth 100000
set_option maxHeartbeats 2000000
inductive Lv where
  | mk (k n : Int) (args : List Lv)
def Lv.k : Lv → Int
  | .mk k _ _ => k
def Lv.n : Lv → Int
  | .mk _ n _ => n
def Lv.args : Lv → List Lv
  | .mk _ _ l => l
mutual
def Lv.row : Lv → List CV
  | .mk k n l => [.v (.int .i64 k), .v (.int .i64 n), .sl 3 (Lv.rows l) none]
def Lv.rows : List Lv → EL
  | [] => []
  | a :: l => Lv.row a :: Lv.rows l
end
theorem Lv.row_eq (l : Lv) : l.row = [.v (.int .i64 l.k), .v (.int .i64 l.n), .sl 3 (Lv.rows l.args) none] := by cases l; rfl
theorem Lv.rows_len : ∀ l : List Lv, (Lv.rows l).length = l.length
  | [] => rfl
  | _ :: l => by simp [Lv.rows, Lv.rows_len l]
theorem Lv.rows_append : ∀ a b : List Lv, Lv.rows (a ++ b) = Lv.rows a ++ Lv.rows b
  | [], _ => rfl
  | x :: a, b => by simp [Lv.rows, Lv.rows_append a b]
theorem Lv.rows_get {l : List Lv} {i : Nat} (h : i < l.length) : (Lv.rows l).getD i [] = l[i].row := by
  induction l generalizing i with
  | nil => simp at h
  | cons a l ih => cases i with
    | zero => rfl
    | succ i => simpa [Lv.rows] using ih (by simpa using h)
/-- So many, one behind the other; the second number goes through. -/
def many {α : Type} (f : Nat → List UInt8 → Except Int (α × List UInt8 × Nat)) : Nat → Nat → List UInt8 → Except Int (List α × List UInt8 × Nat)
  | 0, p, bs => .ok ([], bs, p)
  | n + 1, p, bs => match f p bs with
    | .error e => .error e
    | .ok (a, bs, p) => match many f n p bs with
      | .error e => .error e
      | .ok (l, bs, p) => .ok (a :: l, bs, p)
/-- How many Args a level's kind has. -/
def lvN (k : Nat) : Nat := if k = 1 then 1 else if k = 2 then 2 else if k = 3 then 2 else 0
/-- A level that begins bytes: 'left': how deep it may be; p: how many parts there were. -/
def rdLv : Nat → Nat → List UInt8 → Except Int (Lv × List UInt8 × Nat)
  | 0, p, _ => if 64 < p + 1 then .error 3 else .error 6
  | left + 1, p, bs => if 64 < p + 1 then .error 3 else match rdKind 0 4 bs with
    | .error e => .error e
    | .ok (k, bs) => if k = 4 then (match rdNum bs with
        | .error e => .error e
        | .ok (n, bs) => if 4 ≤ n then .error 7 else .ok (.mk 4 (n : Nat) [], bs, p + 1))
      else match many (rdLv left) (lvN k) (p + 1) bs with
        | .error e => .error e
        | .ok (l, bs, p) => .ok (.mk (k : Nat) 0 l, bs, p)
theorem rdKind_ok {lo hi : Nat} {bs r : List UInt8} {v : Nat} (h : rdKind lo hi bs = .ok (v, r)) : lo ≤ v ∧ v ≤ hi ∧ r.length < bs.length ∧ bs = varB v ++ r := by
  unfold rdKind at h; split at h
  · rename_i v' r' hr
    split at h
    · cases h
    · injection h with h; injection h with h1 h2; subst h1; subst h2
      have := rdV_ok hr
      exact ⟨by omega, by omega, this.2⟩
  · cases h
theorem rdNum_ok {bs r : List UInt8} {v : Nat} (h : rdNum bs = .ok (v, r)) : v ≤ 1073741824 ∧ r.length < bs.length ∧ bs = varB v ++ r := by
  unfold rdNum at h; split at h
  · rename_i v' r' hr
    split at h
    · cases h
    · injection h with h; injection h with h1 h2; subst h1; subst h2
      have := rdV_ok hr
      exact ⟨by omega, this.2⟩
  · cases h
theorem many_sub {α : Type} {f : Nat → List UInt8 → Except Int (α × List UInt8 × Nat)} {m : Nat} (hf : ∀ p bs a r q, p ≤ m → f p bs = .ok (a, r, q) → r.length ≤ bs.length ∧ q ≤ m) : ∀ (n p : Nat) (bs : List UInt8) (l : List α) (r : List UInt8) (q : Nat), p ≤ m → many f n p bs = .ok (l, r, q) → r.length ≤ bs.length ∧ q ≤ m ∧ l.length = n
  | 0, p, bs, l, r, q, hp, h => by simp only [many] at h; injection h with h; injection h with h1 h; injection h with h2 h3; subst h1 h2 h3; exact ⟨Nat.le_refl _, hp, rfl⟩
  | n + 1, p, bs, l, r, q, hp, h => by
    simp only [many] at h
    split at h
    · cases h
    · rename_i a bs1 p1 h1
      split at h
      · cases h
      · rename_i l' bs2 p2 h2
        injection h with h; injection h with h3 h; injection h with h4 h5; subst h3 h4 h5
        obtain ⟨h6, h7⟩ := hf _ _ _ _ _ hp h1
        obtain ⟨h8, h9, h10⟩ := many_sub hf n p1 bs1 l' bs2 p2 h7 h2
        exact ⟨by omega, h9, by simp [h10]⟩
theorem rdLv_sub : ∀ (left p : Nat) (bs : List UInt8) (l : Lv) (r : List UInt8) (q : Nat), p ≤ 64 → rdLv left p bs = .ok (l, r, q) → r.length ≤ bs.length ∧ q ≤ 64
  | 0, p, bs, l, r, q, hp, h => by simp only [rdLv] at h; split at h <;> cases h
  | left + 1, p, bs, l, r, q, hp, h => by
    simp only [rdLv] at h
    split at h
    · cases h
    · split at h
      · cases h
      · rename_i k bs1 hk
        have h1 := rdKind_ok hk
        split at h
        · split at h
          · cases h
          · rename_i n bs2 hn
            have h2 := rdNum_ok hn
            split at h
            · cases h
            · injection h with h; injection h with _ h; injection h with h3 h4; subst h3 h4; exact ⟨by omega, by omega⟩
        · split at h
          · cases h
          · rename_i l2 bs2 p2 hm
            injection h with h; injection h with _ h; injection h with h3 h4; subst h3 h4
            have := many_sub (m := 64) (fun p bs a r q => rdLv_sub left p bs a r q) _ _ _ _ _ _ (by omega) hm
            exact ⟨by omega, this.2.1⟩
/-- What the reading of a level comes to. -/
abbrev LK (ρ : Type) := Int → Int → EL → EL → Int → Int → ρ
def LvOut {ρ : Type} (p : LK ρ → ρ) : Except Int (Lv × List UInt8 × Nat) → Prop
  | .ok (l, bs, q) => ∀ K : LK ρ, p K = K l.k l.n (Lv.rows l.args) (encB bs) 0 (q : Nat)
  | .error e => e ≠ 0 ∧ ∃ a b c B q, ∀ K : LK ρ, p K = K a b c B e q
theorem lvLoopE {ρ : Type} (fail : ρ) (fu : Nat) (s : LK ρ → EL → Int → Int → Int → ρ) (K : LK ρ) (d k j : Int) (B : EL) (e q : Int) (z : EL) (he : e ≠ 0) : ∀ (r n : Nat) (i : Int), 0 ≤ i → i + (r : Nat) ≤ 1000 → r < n →
    p110_2L fail fu s K d k j (i + (r : Nat)) n B e q z i = K k j z B e q
  | 0, n + 1, i, hi, h1, h2 => by
    rw [p110_2L, p110_2, lssF (by omega), cond_false]
  | r + 1, n + 1, i, hi, h1, h2 => by
    rw [p110_2L, p110_2, lssT (by omega), cond_true, eqlF he, cond_false, p110_1, addZ (by omega) (by omega)]
    have := lvLoopE fail fu s K d k j B e q z he r n (i + 1) (by omega) (by omega) (by omega)
    rw [show i + ((r + 1 : Nat) : Int) = i + 1 + (r : Nat) by omega]
    exact this
theorem lvLoop {ρ : Type} (fail : ρ) (fu : Nat) (s : LK ρ → EL → Int → Int → Int → ρ) (f : Nat → List UInt8 → Except Int (Lv × List UInt8 × Nat)) (d : Int) (k j : Int)
    (hf : ∀ p bs a r q, p ≤ 64 → f p bs = .ok (a, r, q) → r.length ≤ bs.length ∧ q ≤ 64) (N : Nat) (hs : ∀ bs p, bs.length ≤ N → p ≤ 64 → LvOut (fun K => s K (encB bs) 0 (binStd .add .i64 d 1) (p : Nat)) (f p bs)) :
    ∀ (r n : Nat) (bs : List UInt8) (p : Nat) (z : EL) (i : Nat), bs.length ≤ N → p ≤ 64 → z.length ≤ i → i + r ≤ 1000 → r < n →
      match many f r p bs with
      | .ok (l, bs', q) => ∀ K : LK ρ, p110_2L fail fu s K d k j ((i + r : Nat) : Int) n (encB bs) 0 (p : Nat) z (i : Nat) = K k j (z ++ Lv.rows l) (encB bs') 0 (q : Nat)
      | .error e => e ≠ 0 ∧ ∃ c B q, ∀ K : LK ρ, p110_2L fail fu s K d k j ((i + r : Nat) : Int) n (encB bs) 0 (p : Nat) z (i : Nat) = K k j c B e q
  | 0, n + 1, bs, p, z, i, hb, hp, hz, hi, hn => by
    simp only [many]
    intro K
    rw [p110_2L, p110_2, lssF (by omega), cond_false]
    simp [Lv.rows]
  | r + 1, n + 1, bs, p, z, i, hb, hp, hz, hi, hn => by
    have h1 := hs bs p hb hp
    simp only [many]
    have step : ∀ K : LK ρ, p110_2L fail fu s K d k j ((i + (r + 1) : Nat) : Int) (n + 1) (encB bs) 0 (p : Nat) z (i : Nat) = s (fun a b c B e q =>
        p110_2L fail fu s K d k j ((i + 1 + r : Nat) : Int) n B e q (z ++ [[.v (.int .i64 a), .v (.int .i64 b), .sl 3 c none]]) ((i + 1 : Nat) : Int)) (encB bs) 0 (binStd .add .i64 d 1) (p : Nat) := fun K => by
      rw [p110_2L, p110_2, lssT (by omega), cond_true, eqlT rfl, cond_true]
      congr 1
      funext a b c B e q
      rw [gd_y (by simp), gd_y (by simp; omega), p110_1, addZ (by omega) (by omega), show ((i : Nat) : Int) + 1 = ((i + 1 : Nat) : Int) by omega, show i + (r + 1) = i + 1 + r by omega]
      rfl
    cases hfv : f p bs with
    | error e =>
      rw [hfv] at h1
      obtain ⟨he, a, b, c, B, q, h1⟩ := h1
      dsimp only at h1
      refine ⟨he, z ++ [[.v (.int .i64 a), .v (.int .i64 b), .sl 3 c none]], B, q, fun K => ?_⟩
      try dsimp only
      rw [step, h1]
      have := lvLoopE fail fu s K d k j B e q (z ++ [[.v (.int .i64 a), .v (.int .i64 b), .sl 3 c none]]) he r n ((i + 1 : Nat) : Int) (by omega) (by omega) (by omega)
      rw [show ((i + 1 + r : Nat) : Int) = ((i + 1 : Nat) : Int) + (r : Nat) by omega]
      exact this
    | ok x =>
      obtain ⟨a, bs1, p1⟩ := x
      rw [hfv] at h1
      simp only [LvOut] at h1
      have h2 := hf _ _ _ _ _ hp hfv
      have ih := lvLoop fail fu s f d k j hf N hs r n bs1 p1 (z ++ [a.row]) (i + 1) (by omega) h2.2 (by simp; omega) (by omega) (by omega)
      have hrow : ∀ K : LK ρ, p110_2L fail fu s K d k j ((i + (r + 1) : Nat) : Int) (n + 1) (encB bs) 0 (p : Nat) z (i : Nat) = p110_2L fail fu s K d k j ((i + 1 + r : Nat) : Int) n (encB bs1) 0 (p1 : Nat) (z ++ [a.row]) ((i + 1 : Nat) : Int) := fun K => by
        rw [step, h1, Lv.row_eq]
      try dsimp only
      cases hm : many f r p1 bs1 with
      | error e =>
        rw [hm] at ih
        obtain ⟨he, c, B, q, h3⟩ := ih
        exact ⟨he, c, B, q, fun K => by rw [hrow, h3]⟩
      | ok x =>
        obtain ⟨l2, bs2, p2⟩ := x
        rw [hm] at ih
        intro K
        rw [hrow, ih, List.append_assoc]; rfl
theorem level_rd {ρ : Type} (fail : ρ) : ∀ (left fu : Nat), left + 12 ≤ fu → left ≤ 32 → ∀ (bs : List UInt8) (p : Nat), bs.length ≤ 1099511627776 → p ≤ 64 →
    LvOut (fun K => p110 fail fu K (encB bs) 0 ((33 - left : Nat) : Int) (p : Nat)) (rdLv left p bs) := by
  intro left
  induction left with
  | zero =>
    intro fu hf hl bs p hb hp
    obtain ⟨m, rfl⟩ : ∃ m, fu = m + 1 := ⟨fu - 1, by omega⟩
    have hpart := fun K => part_eq (ρ := ρ) fail m K (encB bs) p 64 33 32 (by omega)
    simp only [rdLv]
    by_cases h1 : 64 < p + 1
    · rw [if_pos h1]
      refine ⟨by omega, 0, 0, nilE, encB bs, ((p + 1 : Nat) : Int), fun K => ?_⟩
      try dsimp only
      rw [p110, p110_b]
      erw [hpart]
      rw [if_pos h1, neqT (by omega), cond_true]
    · rw [if_neg h1]
      refine ⟨by omega, 0, 0, nilE, encB bs, ((p + 1 : Nat) : Int), fun K => ?_⟩
      try dsimp only
      rw [p110, p110_b]
      erw [hpart]
      rw [if_neg h1, if_pos (by omega), neqT (by omega), cond_true]
  | succ left ih =>
    intro fu hf hl bs p hb hp
    obtain ⟨m, rfl⟩ : ∃ m, fu = m + 1 := ⟨fu - 1, by omega⟩
    have hpart := fun K => part_eq (ρ := ρ) fail m K (encB bs) p 64 (33 - (left + 1)) 32 (by omega)
    have hkind := kind_eq (ρ := ρ) fail m (by omega) bs hb 0 4 (by omega) (by omega)
    simp only [rdLv]
    by_cases h1 : 64 < p + 1
    · rw [if_pos h1]
      refine ⟨by omega, 0, 0, nilE, encB bs, ((p + 1 : Nat) : Int), fun K => ?_⟩
      try dsimp only
      rw [p110, p110_b]
      erw [hpart]
      rw [if_pos h1, neqT (by omega), cond_true]
    · rw [if_neg h1]
      generalize hs : p110 fail m = s
      generalize hd0 : ((33 - (left + 1) : Nat) : Int) = d at hpart
      have hd : binStd .add .i64 d 1 = ((33 - left : Nat) : Int) := by subst hd0; rw [addZ (by omega) (by omega)]; omega
      generalize hq0 : ((p + 1 : Nat) : Int) = q at hpart
      have hb1 : ∀ K : LK ρ, p110 fail (m + 1) K (encB bs) 0 d (p : Nat) = p93 fail m (fun y4 y5 y6 => bif (cmpStd .eql y4 1) then (p110_3 fail m s K d q y4 y5 y6 0 1) else (bif (cmpStd .eql y4 2) then (p110_7 fail m s K d q y4 y5 y6 (cmpStd .eql y4 2)) else (p110_7 fail m s K d q y4 y5 y6 (cmpStd .eql y4 3)))) (encB bs) 0 ((0 : Nat) : Int) ((4 : Nat) : Int) := fun K => by
        rw [p110, p110_b, hs]
        erw [hpart]
        rw [if_neg h1, if_neg (by omega), neqF rfl, cond_false]
        rfl
      have end0 : ∀ (K : LK ρ) (k j : Int) (B : EL) (e : Int), e ≠ 0 → p110_2L fail m s K d k j 0 m B e q nilE 0 = K k j nilE B e q := fun K k j B e he => by
        have := lvLoopE fail m s K d k j B e q nilE he 0 m 0 (by omega) (by omega) (by omega)
        exact this
      have end0' : ∀ (K : LK ρ) (k j : Int) (B : EL), p110_2L fail m s K d k j 0 m B 0 q nilE 0 = K k j nilE B 0 q := fun K k j B => by
        obtain ⟨m', hm'⟩ : ∃ m', m = m' + 1 := ⟨m - 1, by omega⟩
        have : ∀ m'', m'' = m' + 1 → p110_2L fail m s K d k j 0 m'' B 0 q nilE 0 = K k j nilE B 0 q := fun m'' h => by
          subst h; rw [p110_2L, p110_2, lssF (by omega), cond_false]
        exact this m hm'
      cases hk : rdKind 0 4 bs with
      | error e =>
        rw [hk] at hkind
        obtain ⟨he, B, hB⟩ := hkind
        dsimp only at hB
        refine ⟨he, 0, 0, nilE, B, q, fun K => ?_⟩
        try dsimp only
        rw [hb1, hB]
        rw [eqlF (by omega), cond_false, eqlF (by omega), cond_false, eqlF (by omega), p110_7, cond_false, eqlF (by omega), cond_false, p110_5, p110_4, p110_3]
        exact end0 K 0 0 B e he
      | ok x =>
        obtain ⟨k, bs1⟩ := x
        have hk1 := rdKind_ok hk
        rw [hk] at hkind
        simp only [KOut] at hkind
        have hb2 : ∀ K : LK ρ, p110 fail (m + 1) K (encB bs) 0 d (p : Nat) = bif (cmpStd .eql (k : Nat) 1) then (p110_3 fail m s K d q (k : Nat) (encB bs1) 0 0 1) else (bif (cmpStd .eql (k : Nat) 2) then (p110_7 fail m s K d q (k : Nat) (encB bs1) 0 (cmpStd .eql (k : Nat) 2)) else (p110_7 fail m s K d q (k : Nat) (encB bs1) 0 (cmpStd .eql (k : Nat) 3))) := fun K => by
          rw [hb1, hkind]
        have loop : ∀ r, r = lvN k → (∀ K : LK ρ, p110 fail (m + 1) K (encB bs) 0 d (p : Nat) = p110_2L fail m s K d (k : Nat) 0 ((r : Nat) : Int) m (encB bs1) 0 q nilE 0) →
            LvOut (fun K => p110 fail (m + 1) K (encB bs) 0 d (p : Nat)) (match many (rdLv left) (lvN k) (p + 1) bs1 with
              | .error e => .error e
              | .ok (l, bs, p) => .ok (.mk (k : Nat) 0 l, bs, p)) := fun r hr hloop => by
          have hN : lvN k ≤ 2 := by unfold lvN; split <;> (try split) <;> (try split) <;> omega
          have := lvLoop fail m s (rdLv left) d (k : Nat) 0 (fun p bs a r q => rdLv_sub left p bs a r q) 1099511627776 (fun bs p hb hp => by rw [hd, ← hs]; exact ih m (by omega) (by omega) bs p hb hp) (lvN k) m bs1 (p + 1) nilE 0 (by omega) (by omega) (by simp) (by omega) (by omega)
          rw [Nat.zero_add, hq0, ← hr] at this
          rw [← hr]
          cases hm : many (rdLv left) r (p + 1) bs1 with
          | error e =>
            rw [hm] at this
            obtain ⟨he, c, B, q', h⟩ := this
            exact ⟨he, _, _, c, B, q', fun K => by dsimp only; rw [hloop]; exact h K⟩
          | ok x =>
            obtain ⟨l2, bs2, p2⟩ := x
            rw [hm] at this
            intro K
            try dsimp only
            rw [hloop]; exact this K
        dsimp only
        by_cases k1 : k = 1
        · subst k1
          rw [if_neg (by omega)]
          exact loop 1 rfl (fun K => by rw [hb2, eqlT (by omega), cond_true, p110_3]; rfl)
        by_cases k2 : k = 2
        · subst k2
          rw [if_neg (by omega)]
          exact loop 2 rfl (fun K => by rw [hb2, eqlF (by omega), cond_false, eqlT (by omega), cond_true, p110_7, cond_true, p110_4, p110_3]; rfl)
        by_cases k3 : k = 3
        · subst k3
          rw [if_neg (by omega)]
          exact loop 2 rfl (fun K => by rw [hb2, eqlF (by omega), cond_false, eqlF (by omega), cond_false, eqlT (by omega), p110_7, cond_true, p110_4, p110_3]; rfl)
        by_cases k4 : k = 4
        · subst k4
          rw [if_pos rfl]
          have hb3 : ∀ K : LK ρ, p110 fail (m + 1) K (encB bs) 0 d (p : Nat) = p91 fail m (fun y34 y35 y36 => bif (cmpStd .geq y34 4) then (p94 fail m (fun y39 y40 => p110_6 fail m s K d q 4 y34 y39 y40) y35 y36 7) else (p110_6 fail m s K d q 4 y34 y35 y36)) (encB bs1) 0 := fun K => by
            rw [hb2, eqlF (by omega), cond_false, eqlF (by omega), cond_false, eqlF (by omega), p110_7, cond_false, eqlT (by omega), cond_true]
            rfl
          have hnum := num_eq (ρ := ρ) fail m (by omega) bs1 (by omega)
          cases hn : rdNum bs1 with
          | error e =>
            rw [hn] at hnum
            obtain ⟨he, B, hB⟩ := hnum
            dsimp only at hB
            refine ⟨he, 4, 0, nilE, B, q, fun K => ?_⟩
            try dsimp only
            rw [hb3, hB, geqF (by omega), cond_false, p110_6, p110_5, p110_4, p110_3]
            exact end0 K _ _ B e he
          | ok x =>
            obtain ⟨n, bs2⟩ := x
            rw [hn] at hnum
            simp only [KOut] at hnum
            try dsimp only
            by_cases h4 : 4 ≤ n
            · rw [if_pos h4]
              refine ⟨by omega, 4, ((n : Nat) : Int), nilE, encB bs2, q, fun K => ?_⟩
              try dsimp only
              rw [hb3, hnum, geqT (by omega), cond_true, fails0, p110_6, p110_5, p110_4, p110_3]
              exact end0 K _ _ _ 7 (by omega)
            · rw [if_neg h4]
              intro K
              try dsimp only
              rw [hb3, hnum, geqF (by omega), cond_false, p110_6, p110_5, p110_4, p110_3, end0' K, hq0]
              rfl
        · have k0 : k = 0 := by omega
          subst k0
          rw [if_neg (by omega)]
          exact loop 0 rfl (fun K => by rw [hb2, eqlF (by omega), cond_false, eqlF (by omega), cond_false, eqlF (by omega), p110_7, cond_false, eqlF (by omega), cond_false, p110_5, p110_4, p110_3]; rfl)
/-- A level that stands by itself. -/
def rdLevel (bs : List UInt8) : Except Int (Lv × List UInt8) := match rdLv 32 0 bs with
  | .ok (l, r, _) => .ok (l, r)
  | .error e => .error e
def LvO2 {ρ : Type} (p : (Int → Int → EL → EL → Int → ρ) → ρ) : Except Int (Lv × List UInt8) → Prop
  | .ok (l, bs) => ∀ K : Int → Int → EL → EL → Int → ρ, p K = K l.k l.n (Lv.rows l.args) (encB bs) 0
  | .error e => e ≠ 0 ∧ ∃ a b c B, ∀ K : Int → Int → EL → EL → Int → ρ, p K = K a b c B e
theorem Level_rd {ρ : Type} (fail : ρ) (fu : Nat) (hf : 50 ≤ fu) (bs : List UInt8) (hb : bs.length ≤ 1099511627776) : LvO2 (fun K => p67 fail fu K (encB bs) 0) (rdLevel bs) := by
  have := level_rd fail 32 fu (by omega) (by omega) bs 0 hb (by omega)
  unfold rdLevel
  cases h : rdLv 32 0 bs with
  | error e =>
    rw [h] at this
    obtain ⟨he, a, b, c, B, q, h1⟩ := this
    dsimp only at h1
    refine ⟨he, a, b, c, B, fun K => ?_⟩
    try dsimp only
    rw [p67]; exact h1 _
  | ok x =>
    obtain ⟨l, r, q⟩ := x
    rw [h] at this
    intro K
    try dsimp only
    rw [p67]; exact this _
end Go.Proofs.Ythncmjlcmlmnmaa
