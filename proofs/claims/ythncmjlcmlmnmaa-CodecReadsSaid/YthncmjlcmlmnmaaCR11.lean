/- Functions without memory, and that the Go functions are followed by them. Printed by gen.py. Conditions: none. -/
import Derived.Test.YthncmjlcmlmnmaaCR9
import Derived.Test.YthncmjlcmlmnmaaCR10
namespace Go.Proofs.Ythncmjlcmlmnmaa
open Go V
set_option maxRecDepth 100000
set_option maxHeartbeats 4000000
def p109_1 {ρ : Type} (fail : ρ) (fu : Nat) (s_p109 : (Int → Int → ByteArray → EL → EL → EL → Int → Int → ρ) → EL → Int → Int → Int → ρ) (K0 : Int → Int → ByteArray → EL → EL → EL → Int → Int → ρ) (rec2 : EL → Int → Int → EL → Int → ρ) (x2 : Int) (y4 : Int) (j9 : Int) (j10 : ByteArray) (j11 : Int) (z15 : EL) (z22 : EL) (z23 : Int) (z24 : Int) (z25 : EL) (z26 : Int) : ρ :=
  bif (cmpStd .lss z26 j11) then (bif (cmpStd .neq z23 0) then (K0 y4 j9 j10 z15 z25 z22 z23 z24) else (s_p109 (fun y27 y28 y29 y30 y31 y32 y33 y34 => gd (1 ≤ [[(CV.v (.int .i64 y27)), (CV.v (.int .i64 y28)), (CV.v (.string y29)), (CV.sl 3 y30 none), (CV.sl 5 y31 none)]].length) fail (gd ((z25.length + (List.take 1 [[(CV.v (.int .i64 y27)), (CV.v (.int .i64 y28)), (CV.v (.string y29)), (CV.sl 3 y30 none), (CV.sl 5 y31 none)]]).length) * 80 ≤ 35184372088832) fail (rec2 y32 y33 y34 (z25 ++ (List.take 1 [[(CV.v (.int .i64 y27)), (CV.v (.int .i64 y28)), (CV.v (.string y29)), (CV.sl 3 y30 none), (CV.sl 5 y31 none)]])) (binStd .add .i64 z26 1)))) z22 z23 (binStd .add .i64 x2 1) z24)) else (K0 y4 j9 j10 z15 z25 z22 z23 z24)
def p109_1L {ρ : Type} (fail : ρ) (fu : Nat) (s_p109 : (Int → Int → ByteArray → EL → EL → EL → Int → Int → ρ) → EL → Int → Int → Int → ρ) (K0 : Int → Int → ByteArray → EL → EL → EL → Int → Int → ρ)  (x2 : Int) (y4 : Int) (j9 : Int) (j10 : ByteArray) (j11 : Int) (z15 : EL) : Nat → EL → Int → Int → EL → Int → ρ
  | 0, _, _, _, _, _ => fail
  | n + 1, z22, z23, z24, z25, z26 => p109_1 fail fu s_p109 K0 (p109_1L fail fu s_p109 K0  x2 y4 j9 j10 j11 z15 n) x2 y4 j9 j10 j11 z15 z22 z23 z24 z25 z26
def p109_2 {ρ : Type} (fail : ρ) (fu : Nat) (s_p109 : (Int → Int → ByteArray → EL → EL → EL → Int → Int → ρ) → EL → Int → Int → Int → ρ) (K0 : Int → Int → ByteArray → EL → EL → EL → Int → Int → ρ) (rec1 : EL → Int → EL → Int → ρ) (x2 : Int) (y3 : Int) (y4 : Int) (j9 : Int) (j10 : ByteArray) (j11 : Int) (j12 : Int) (z13 : EL) (z14 : Int) (z15 : EL) (z16 : Int) : ρ :=
  bif (cmpStd .lss z16 j12) then (bif (cmpStd .neq z14 0) then (K0 y4 j9 j10 z15 nilE z13 z14 y3) else (p67 fail fu (fun y17 y18 y19 y20 y21 => gd (1 ≤ [[(CV.v (.int .i64 y17)), (CV.v (.int .i64 y18)), (CV.sl 3 y19 none)]].length) fail (gd ((z15.length + (List.take 1 [[(CV.v (.int .i64 y17)), (CV.v (.int .i64 y18)), (CV.sl 3 y19 none)]]).length) * 40 ≤ 35184372088832) fail (rec1 y20 y21 (z15 ++ (List.take 1 [[(CV.v (.int .i64 y17)), (CV.v (.int .i64 y18)), (CV.sl 3 y19 none)]])) (binStd .add .i64 z16 1)))) z13 z14)) else (p109_1L fail fu s_p109 K0 x2 y4 j9 j10 j11 z15 fu z13 z14 y3 nilE 0)
def p109_2L {ρ : Type} (fail : ρ) (fu : Nat) (s_p109 : (Int → Int → ByteArray → EL → EL → EL → Int → Int → ρ) → EL → Int → Int → Int → ρ) (K0 : Int → Int → ByteArray → EL → EL → EL → Int → Int → ρ)  (x2 : Int) (y3 : Int) (y4 : Int) (j9 : Int) (j10 : ByteArray) (j11 : Int) (j12 : Int) : Nat → EL → Int → EL → Int → ρ
  | 0, _, _, _, _ => fail
  | n + 1, z13, z14, z15, z16 => p109_2 fail fu s_p109 K0 (p109_2L fail fu s_p109 K0  x2 y3 y4 j9 j10 j11 j12 n) x2 y3 y4 j9 j10 j11 j12 z13 z14 z15 z16
def p109_3 {ρ : Type} (fail : ρ) (fu : Nat) (s_p109 : (Int → Int → ByteArray → EL → EL → EL → Int → Int → ρ) → EL → Int → Int → Int → ρ) (K0 : Int → Int → ByteArray → EL → EL → EL → Int → Int → ρ)  (x2 : Int) (y3 : Int) (y4 : Int) (j7 : EL) (j8 : Int) (j9 : Int) (j10 : ByteArray) (j11 : Int) (j12 : Int) : ρ :=
  p109_2L fail fu s_p109 K0 x2 y3 y4 j9 j10 j11 j12 fu j7 j8 nilE 0
def p109_4 {ρ : Type} (fail : ρ) (fu : Nat) (s_p109 : (Int → Int → ByteArray → EL → EL → EL → Int → Int → ρ) → EL → Int → Int → Int → ρ) (K0 : Int → Int → ByteArray → EL → EL → EL → Int → Int → ρ)  (x2 : Int) (y3 : Int) (y4 : Int) (j38 : EL) (j39 : Int) (j40 : ByteArray) (j41 : Int) (j42 : Int) : ρ :=
  p109_3 fail fu s_p109 K0 x2 y3 y4 j38 j39 0 j40 j41 j42
def p109_5 {ρ : Type} (fail : ρ) (fu : Nat) (s_p109 : (Int → Int → ByteArray → EL → EL → EL → Int → Int → ρ) → EL → Int → Int → Int → ρ) (K0 : Int → Int → ByteArray → EL → EL → EL → Int → Int → ρ)  (x2 : Int) (y3 : Int) (y4 : Int) (j43 : EL) (j44 : Int) (j45 : ByteArray) (j46 : Int) (j47 : Int) : ρ :=
  p109_4 fail fu s_p109 K0 x2 y3 y4 j43 j44 j45 j46 j47
def p109_6 {ρ : Type} (fail : ρ) (fu : Nat) (s_p109 : (Int → Int → ByteArray → EL → EL → EL → Int → Int → ρ) → EL → Int → Int → Int → ρ) (K0 : Int → Int → ByteArray → EL → EL → EL → Int → Int → ρ)  (x2 : Int) (y3 : Int) (y4 : Int) (s51 : ByteArray) (y52 : Int) (j55 : EL) (j56 : Int) : ρ :=
  p109_5 fail fu s_p109 K0 x2 y3 y4 j55 j56 s51 0 y52
def p109_7 {ρ : Type} (fail : ρ) (fu : Nat) (s_p109 : (Int → Int → ByteArray → EL → EL → EL → Int → Int → ρ) → EL → Int → Int → Int → ρ) (K0 : Int → Int → ByteArray → EL → EL → EL → Int → Int → ρ)  (x2 : Int) (y3 : Int) (y4 : Int) (y5 : EL) (y6 : Int) (j59 : Int) : ρ :=
  p109_5 fail fu s_p109 K0 x2 y3 y4 y5 y6 ⟨#[]⟩ j59 0
/-- (*codec.Reader).term -/
def p109_b {ρ : Type} (fail : ρ) (fu : Nat) (s_p109 : (Int → Int → ByteArray → EL → EL → EL → Int → Int → ρ) → EL → Int → Int → Int → ρ) (K0 : Int → Int → ByteArray → EL → EL → EL → Int → Int → ρ) (x0 : EL) (x1 : Int) (x2 : Int) (x3 : Int) : ρ :=
  p137 fail fu (fun y1 y2 y3 => bif (cmpStd .neq y2 0) then (K0 0 0 ⟨#[]⟩ nilE nilE y1 y2 y3) else (p93 fail fu (fun y4 y5 y6 => bif (cmpStd .eql y4 0) then (p91 fail fu (fun y35 y36 y37 => p109_3 fail fu s_p109 K0 x2 y3 y4 y36 y37 y35 ⟨#[]⟩ 0 0) y5 y6) else (bif (cmpStd .eql y4 1) then (p109_4 fail fu s_p109 K0 x2 y3 y4 y5 y6 ⟨#[]⟩ 0 1) else (bif (cmpStd .eql y4 2) then (p95 fail fu (fun y48 y49 y50 => tobP fail y48 (fun s51 => p91 fail fu (fun y52 y53 y54 => bif (cmpStd .gtr y52 4) then (p94 fail fu (fun y57 y58 => p109_6 fail fu s_p109 K0 x2 y3 y4 s51 y52 y57 y58) y53 y54 7) else (p109_6 fail fu s_p109 K0 x2 y3 y4 s51 y52 y53 y54)) y49 y50)) y5 y6 24) else (bif (cmpStd .eql y4 6) then (p109_7 fail fu s_p109 K0 x2 y3 y4 y5 y6 3) else (p109_7 fail fu s_p109 K0 x2 y3 y4 y5 y6 2))))) y1 y2 0 6)) x0 x1 x3 2000 x2 100
def p109 {ρ : Type} (fail : ρ) : Nat → (Int → Int → ByteArray → EL → EL → EL → Int → Int → ρ) → EL → Int → Int → Int → ρ
  | 0, _, _, _, _, _ => fail
  | n + 1, K0, x0, x1, x2, x3 => p109_b fail n (p109 fail n) K0 x0 x1 x2 x3
def D_p109 (fu : Nat) : Prop := ∀ {K0 : Int → Int → ByteArray → EL → EL → EL → Int → Int → Prop} (L : EL → Nat) (_ : L = List.length) {x0 : EL} {x1 : Int} {x2 : Int} {x3 : Int} (_ : p109 False fu K0 x0 x1 x2 x3), Den Try.prog G0 109 [.ptr [.c (.sl 1 x0 none), .c (.v (.int .i64 x1))], .c (.v (.int .i64 x2)), .ptr [.c (.v (.int .i64 x3))]] (fun r bs => (∃ (y0 : Int) (y1 : Int) (y2 : ByteArray) (y3 : EL) (y4 : EL) (y5 : EL) (y6 : Int) (y7 : Int) (o1 : OV), (r = .agg [.c (.v (.int .i64 y0)), .c (.v (.int .i64 y1)), .c (.v (.string y2)), .c (.sl 3 y3 none), .c (.sl 5 y4 none)] ∧ bs = [.ptr [.c (.sl 1 y5 none), .c (.v (.int .i64 y6))], o1, .ptr [.c (.v (.int .i64 y7))]]) ∧ K0 y0 y1 y2 y3 y4 y5 y6 y7))
theorem b_p109 (fu : Nat) (ih_p109 : D_p109 fu) {K0 : Int → Int → ByteArray → EL → EL → EL → Int → Int → Prop} (L : EL → Nat) (hN : L = List.length) {x0 : EL} {x1 : Int} {x2 : Int} {x3 : Int} (h : p109_b False fu (p109 False fu) K0 x0 x1 x2 x3) : Den Try.prog G0 109 [.ptr [.c (.sl 1 x0 none), .c (.v (.int .i64 x1))], .c (.v (.int .i64 x2)), .ptr [.c (.v (.int .i64 x3))]] (fun r bs => (∃ (y0 : Int) (y1 : Int) (y2 : ByteArray) (y3 : EL) (y4 : EL) (y5 : EL) (y6 : Int) (y7 : Int) (o1 : OV), (r = .agg [.c (.v (.int .i64 y0)), .c (.v (.int .i64 y1)), .c (.v (.string y2)), .c (.sl 3 y3 none), .c (.sl 5 y4 none)] ∧ bs = [.ptr [.c (.sl 1 y5 none), .c (.v (.int .i64 y6))], o1, .ptr [.c (.v (.int .i64 y7))]]) ∧ K0 y0 y1 y2 y3 y4 y5 y6 y7)) := by
  obtain ⟨O, hO⟩ : ∃ O, O = std 2 T G0 (Den Try.prog G0) := ⟨_, rfl⟩
  have hLO : L = O.len := by rw [hN, hO]; rfl
  subst hLO
  refine den_h hO tiA mixed tabOk (fn := Try.f109) (sh := true) (by kernel_rfl) rfl rfl rfl rfl ?_
  intro Q hQ
  unfold p109_b at h
  conv => cbv
  refine call_h hO [.ref 2, .ref 1, .shut, .shut, .shut] (d_p137 fu O.len hN h) ?_
  intro os Q hos hQ
  conv => cbv
  refine ⟨(by (rw [hos]) <;> (subst hO; rfl)), ?_⟩
  intro r bs hq
  rw [hQ] at hq
  clear hos hQ h
  obtain ⟨y1, y2, y3, _, _, _, ⟨rfl, rfl⟩, h⟩ := hq
  conv => cbv
  refine br_h hO h (by subst hO; rfl) (fun hc1 h => ?_) (fun hc1 h => ?_)
  · conv => cbv
    rw [hQ]
    exact ⟨0, 0, ⟨#[]⟩, nilE, nilE, y1, y2, y3, _, ⟨(by subst hO; rfl), (by subst hO; rfl)⟩, h⟩
  · conv => cbv
    refine join_all hO ?_
    conv => cbv
    refine call_h hO [.ref 2, .shut, .shut] (d_p93 fu O.len hN h) ?_
    intro os Q hos hQ
    conv => cbv
    refine ⟨(by (rw [hos]) <;> (subst hO; rfl)), ?_⟩
    intro r bs hq
    rw [hQ] at hq
    clear hos hQ h
    obtain ⟨y4, y5, y6, _, _, ⟨rfl, rfl⟩, h⟩ := hq
    conv => cbv
    refine br_join_h hO tiA h (by subst hO; rfl) [0, 1, 2, 6, 7, 8, 9] [0, 1, 7000, 8000] [] (fun tm m => ∃ (j7 : EL) (j8 : Int) (j9 : Int) (j10 : ByteArray) (j11 : Int) (j12 : Int), ((tm = frame 0 84 [(0, .p 0 0 0), (1, .c (.v (.int .i64 x2))), (2, .p 1 1 0), (6, .p 7000 2 0), (7, .p 8000 2 0), (8, .c (.v (.int .i64 j11))), (9, .c (.v (.int .i64 j12)))] ∧ m = ⟨[(0, .blk 0 [.c (.sl 1 j7 none), .c (.v (.int .i64 j8))]), (1, .blk 1 [.c (.v (.int .i64 y3))]), (7000, .blk 2 [.c (.v (.int .i64 0)), .c (.v (.int .i64 0)), .c (.v (.string ⟨#[]⟩)), .c (.sl 3 [] (some [])), .c (.sl 5 [] (some []))]), (8000, .blk 2 [.c (.v (.int .i64 y4)), .c (.v (.int .i64 j9)), .c (.v (.string j10)), .c (.sl 3 [] (some [])), .c (.sl 5 [] (some []))])], 3⟩)) ∧ p109_3 False fu (p109 False fu) K0 x2 y3 y4 j7 j8 j9 j10 j11 j12) (fun hc6 h L hL_3 => ?_) (fun hc6 h L hL_3 => ?_) ?_
    · conv => cbv
      refine call_h hO [.ref 2] (d_p91 fu O.len hN h) ?_
      intro os Q hos hQ
      conv => cbv
      refine ⟨(by (rw [hos]) <;> (subst hO; rfl)), ?_⟩
      intro r bs hq
      rw [hQ] at hq
      clear hos hQ h
      obtain ⟨y35, y36, y37, ⟨rfl, rfl⟩, h⟩ := hq
      conv => cbv
      exact hL_3 _ _ ⟨y36, y37, y35, ⟨#[]⟩, 0, 0, ⟨(by (conv => lhs; cbv) <;> (subst hO; rfl)), (by (conv => lhs; cbv) <;> (subst hO; rfl))⟩, h⟩
    · conv => cbv
      refine br_join_h hO tiA h (by subst hO; rfl) [0, 1, 2, 6, 7, 8, 9] [0, 1, 7000, 8000] [] (fun tm m => ∃ (j38 : EL) (j39 : Int) (j40 : ByteArray) (j41 : Int) (j42 : Int), ((tm = frame 0 84 [(0, .p 0 0 0), (1, .c (.v (.int .i64 x2))), (2, .p 1 1 0), (6, .p 7000 2 0), (7, .p 8000 2 0), (8, .c (.v (.int .i64 j41))), (9, .c (.v (.int .i64 j42)))] ∧ m = ⟨[(0, .blk 0 [.c (.sl 1 j38 none), .c (.v (.int .i64 j39))]), (1, .blk 1 [.c (.v (.int .i64 y3))]), (7000, .blk 2 [.c (.v (.int .i64 0)), .c (.v (.int .i64 0)), .c (.v (.string ⟨#[]⟩)), .c (.sl 3 [] (some [])), .c (.sl 5 [] (some []))]), (8000, .blk 2 [.c (.v (.int .i64 y4)), .c (.v (.int .i64 0)), .c (.v (.string j40)), .c (.sl 3 [] (some [])), .c (.sl 5 [] (some []))])], 3⟩)) ∧ p109_4 False fu (p109 False fu) K0 x2 y3 y4 j38 j39 j40 j41 j42) (fun hc7 h L hL_4 => ?_) (fun hc7 h L hL_4 => ?_) ?_
      · conv => cbv
        exact hL_4 _ _ ⟨y5, y6, ⟨#[]⟩, 0, 1, ⟨(by (conv => lhs; cbv) <;> (subst hO; rfl)), (by (conv => lhs; cbv) <;> (subst hO; rfl))⟩, h⟩
      · conv => cbv
        refine br_join_h hO tiA h (by subst hO; rfl) [0, 1, 2, 6, 7, 8, 9] [0, 1, 7000, 8000] [] (fun tm m => ∃ (j43 : EL) (j44 : Int) (j45 : ByteArray) (j46 : Int) (j47 : Int), ((tm = frame 0 84 [(0, .p 0 0 0), (1, .c (.v (.int .i64 x2))), (2, .p 1 1 0), (6, .p 7000 2 0), (7, .p 8000 2 0), (8, .c (.v (.int .i64 j46))), (9, .c (.v (.int .i64 j47)))] ∧ m = ⟨[(0, .blk 0 [.c (.sl 1 j43 none), .c (.v (.int .i64 j44))]), (1, .blk 1 [.c (.v (.int .i64 y3))]), (7000, .blk 2 [.c (.v (.int .i64 0)), .c (.v (.int .i64 0)), .c (.v (.string ⟨#[]⟩)), .c (.sl 3 [] (some [])), .c (.sl 5 [] (some []))]), (8000, .blk 2 [.c (.v (.int .i64 y4)), .c (.v (.int .i64 0)), .c (.v (.string j45)), .c (.sl 3 [] (some [])), .c (.sl 5 [] (some []))])], 3⟩)) ∧ p109_5 False fu (p109 False fu) K0 x2 y3 y4 j43 j44 j45 j46 j47) (fun hc8 h L hL_5 => ?_) (fun hc8 h L hL_5 => ?_) ?_
        · conv => cbv
          refine call_h hO [.ref 2, .shut] (d_p95 fu O.len hN h) ?_
          intro os Q hos hQ
          conv => cbv
          refine ⟨(by (rw [hos]) <;> (subst hO; rfl)), ?_⟩
          intro r bs hq
          rw [hQ] at hq
          clear hos hQ h
          obtain ⟨y48, y49, y50, _, ⟨rfl, rfl⟩, h⟩ := hq
          conv => cbv
          refine tob_h hO h (by subst hO; rfl) (fun s51 h => ?_)
          conv => cbv
          refine call_h hO [.ref 2] (d_p91 fu O.len hN h) ?_
          intro os Q hos hQ
          conv => cbv
          refine ⟨(by (rw [hos]) <;> (subst hO; rfl)), ?_⟩
          intro r bs hq
          rw [hQ] at hq
          clear hos hQ h
          obtain ⟨y52, y53, y54, ⟨rfl, rfl⟩, h⟩ := hq
          conv => cbv
          refine br_join_h hO tiA h (by subst hO; rfl) [0, 1, 2, 6, 7, 8, 9] [0, 1, 7000, 8000] [] (fun tm m => ∃ (j55 : EL) (j56 : Int), ((tm = frame 0 84 [(0, .p 0 0 0), (1, .c (.v (.int .i64 x2))), (2, .p 1 1 0), (6, .p 7000 2 0), (7, .p 8000 2 0), (8, .c (.v (.int .i64 0))), (9, .c (.v (.int .i64 y52)))] ∧ m = ⟨[(0, .blk 0 [.c (.sl 1 j55 none), .c (.v (.int .i64 j56))]), (1, .blk 1 [.c (.v (.int .i64 y3))]), (7000, .blk 2 [.c (.v (.int .i64 0)), .c (.v (.int .i64 0)), .c (.v (.string ⟨#[]⟩)), .c (.sl 3 [] (some [])), .c (.sl 5 [] (some []))]), (8000, .blk 2 [.c (.v (.int .i64 y4)), .c (.v (.int .i64 0)), .c (.v (.string s51)), .c (.sl 3 [] (some [])), .c (.sl 5 [] (some []))])], 3⟩)) ∧ p109_6 False fu (p109 False fu) K0 x2 y3 y4 s51 y52 j55 j56) (fun hc9 h L hL_6 => ?_) (fun hc9 h L hL_6 => ?_) ?_
          · conv => cbv
            refine call_h hO [.ref 2, .shut] (d_p94 fu O.len hN h) ?_
            intro os Q hos hQ
            conv => cbv
            refine ⟨(by (rw [hos]) <;> (subst hO; rfl)), ?_⟩
            intro r bs hq
            rw [hQ] at hq
            clear hos hQ h
            obtain ⟨y57, y58, _, ⟨rfl, rfl⟩, h⟩ := hq
            conv => cbv
            exact hL_6 _ _ ⟨y57, y58, ⟨(by (conv => lhs; cbv) <;> (subst hO; rfl)), (by (conv => lhs; cbv) <;> (subst hO; rfl))⟩, h⟩
          · conv => cbv
            exact hL_6 _ _ ⟨y53, y54, ⟨(by (conv => lhs; cbv) <;> (subst hO; rfl)), (by (conv => lhs; cbv) <;> (subst hO; rfl))⟩, h⟩
          · rintro tm m ⟨j55, j56, hs, h⟩
            unfold p109_6 at h
            obtain ⟨rfl, rfl⟩ := hs
            conv => cbv
            exact hL_5 _ _ ⟨j55, j56, s51, 0, y52, ⟨(by (conv => lhs; cbv) <;> (subst hO; rfl)), (by (conv => lhs; cbv) <;> (subst hO; rfl))⟩, h⟩
        · conv => cbv
          refine br_join_h hO tiA h (by subst hO; rfl) [0, 1, 2, 6, 7, 8, 9] [0, 1, 7000, 8000] [] (fun tm m => ∃ (j59 : Int), ((tm = frame 0 84 [(0, .p 0 0 0), (1, .c (.v (.int .i64 x2))), (2, .p 1 1 0), (6, .p 7000 2 0), (7, .p 8000 2 0), (8, .c (.v (.int .i64 j59))), (9, .c (.v (.int .i64 0)))] ∧ m = ⟨[(0, .blk 0 [.c (.sl 1 y5 none), .c (.v (.int .i64 y6))]), (1, .blk 1 [.c (.v (.int .i64 y3))]), (7000, .blk 2 [.c (.v (.int .i64 0)), .c (.v (.int .i64 0)), .c (.v (.string ⟨#[]⟩)), .c (.sl 3 [] (some [])), .c (.sl 5 [] (some []))]), (8000, .blk 2 [.c (.v (.int .i64 y4)), .c (.v (.int .i64 0)), .c (.v (.string ⟨#[]⟩)), .c (.sl 3 [] (some [])), .c (.sl 5 [] (some []))])], 3⟩)) ∧ p109_7 False fu (p109 False fu) K0 x2 y3 y4 y5 y6 j59) (fun hc10 h L hL_7 => ?_) (fun hc10 h L hL_7 => ?_) ?_
          · conv => cbv
            exact hL_7 _ _ ⟨3, ⟨(by (conv => lhs; cbv) <;> (subst hO; rfl)), (by (conv => lhs; cbv) <;> (subst hO; rfl))⟩, h⟩
          · conv => cbv
            exact hL_7 _ _ ⟨2, ⟨(by (conv => lhs; cbv) <;> (subst hO; rfl)), (by (conv => lhs; cbv) <;> (subst hO; rfl))⟩, h⟩
          · rintro tm m ⟨j59, hs, h⟩
            unfold p109_7 at h
            obtain ⟨rfl, rfl⟩ := hs
            conv => cbv
            exact hL_5 _ _ ⟨y5, y6, ⟨#[]⟩, j59, 0, ⟨(by (conv => lhs; cbv) <;> (subst hO; rfl)), (by (conv => lhs; cbv) <;> (subst hO; rfl))⟩, h⟩
        · rintro tm m ⟨j43, j44, j45, j46, j47, hs, h⟩
          unfold p109_5 at h
          obtain ⟨rfl, rfl⟩ := hs
          conv => cbv
          exact hL_4 _ _ ⟨j43, j44, j45, j46, j47, ⟨(by (conv => lhs; cbv) <;> (subst hO; rfl)), (by (conv => lhs; cbv) <;> (subst hO; rfl))⟩, h⟩
      · rintro tm m ⟨j38, j39, j40, j41, j42, hs, h⟩
        unfold p109_4 at h
        obtain ⟨rfl, rfl⟩ := hs
        conv => cbv
        exact hL_3 _ _ ⟨j38, j39, 0, j40, j41, j42, ⟨(by (conv => lhs; cbv) <;> (subst hO; rfl)), (by (conv => lhs; cbv) <;> (subst hO; rfl))⟩, h⟩
    · rintro tm m ⟨j7, j8, j9, j10, j11, j12, hs, h⟩
      unfold p109_3 at h
      obtain ⟨rfl, rfl⟩ := hs
      conv => cbv
      refine loop_of hO tiA [0, 1, 2, 6, 7, 8, 46, 47] [0, 1, 7000, 8000, 61000] [] (fun (n : Nat) tm m => ∃ (z13 : EL) (z14 : Int) (z15 : EL) (z16 : Int), ((z15 = [] ∧ tm = frame 0 84 [(0, .p 0 0 0), (1, .c (.v (.int .i64 x2))), (2, .p 1 1 0), (6, .p 7000 2 0), (7, .p 8000 2 0), (8, .c (.v (.int .i64 j11))), (46, .c (.v (.int .i64 j12))), (47, .c (.v (.int .i64 z16)))] ∧ m = ⟨[(0, .blk 0 [.c (.sl 1 z13 none), .c (.v (.int .i64 z14))]), (1, .blk 1 [.c (.v (.int .i64 y3))]), (7000, .blk 2 [.c (.v (.int .i64 0)), .c (.v (.int .i64 0)), .c (.v (.string ⟨#[]⟩)), .c (.sl 3 [] (some [])), .c (.sl 5 [] (some []))]), (8000, .blk 2 [.c (.v (.int .i64 y4)), .c (.v (.int .i64 j9)), .c (.v (.string j10)), .c (.sl 3 [] (some [])), .c (.sl 5 [] (some []))])], 3⟩) ∨ (tm = frame 0 84 [(0, .p 0 0 0), (1, .c (.v (.int .i64 x2))), (2, .p 1 1 0), (6, .p 7000 2 0), (7, .p 8000 2 0), (8, .c (.v (.int .i64 j11))), (46, .c (.v (.int .i64 j12))), (47, .c (.v (.int .i64 z16)))] ∧ m = ⟨[(0, .blk 0 [.c (.sl 1 z13 none), .c (.v (.int .i64 z14))]), (1, .blk 1 [.c (.v (.int .i64 y3))]), (7000, .blk 2 [.c (.v (.int .i64 0)), .c (.v (.int .i64 0)), .c (.v (.string ⟨#[]⟩)), .c (.sl 3 [] (some [])), .c (.sl 5 [] (some []))]), (8000, .blk 2 [.c (.v (.int .i64 y4)), .c (.v (.int .i64 j9)), .c (.v (.string j10)), .t 61000 2 (O.len z15), .c (.sl 5 [] (some []))]), (61000, .arr 2 3 z15 none false)], 3⟩)) ∧ p109_2L False fu (p109 False fu) K0 x2 y3 y4 j9 j10 j11 j12 n z13 z14 z15 z16) (fun n => n) fu ⟨j7, j8, nilE, 0, (.inl ⟨rfl, (by (conv => lhs; cbv) <;> (subst hO; rfl)), (by (conv => lhs; cbv) <;> (subst hO; rfl))⟩), h⟩ ?_
      rintro n1 tm m L ⟨z13, z14, z15, z16, hs, h⟩ hLn1
      cases n1 with
      | zero => rw [p109_2L] at h; exact h.elim
      | succ n1 =>
        rw [p109_2L] at h
        unfold p109_2 at h
        rcases hs with hs | hs
        · obtain ⟨rfl, rfl, rfl⟩ := hs
          conv => cbv
          refine br_h hO h (by subst hO; rfl) (fun hc2 h => ?_) (fun hc2 h => ?_)
          · conv => cbv
            refine join_all hO ?_
            conv => cbv
            refine br_h hO h (by subst hO; rfl) (fun hc3 h => ?_) (fun hc3 h => ?_)
            · conv => cbv
              rw [hQ]
              exact ⟨y4, j9, j10, nilE, nilE, z13, z14, y3, _, ⟨(by subst hO; rfl), (by subst hO; rfl)⟩, h⟩
            · conv => cbv
              refine join_all hO ?_
              conv => cbv
              refine drawn_of hO tiA [[0], [], [], [], []] [(0, true, false), (1, true, false), (2, true, false), (3, false, false), (4, false, false), (5, false, true), (6, true, true), (7, false, true)] (by kernel_rfl) ?_
              conv => cbv
              refine call_h hO [.ref 2] (d_p67 fu O.len hN h) ?_
              intro os Q hos hQ
              conv => cbv
              refine ⟨(by (rw [hos]) <;> (subst hO; rfl)), ?_⟩
              intro r bs hq
              rw [hQ] at hq
              clear hos hQ h
              obtain ⟨y17, y18, y19, y20, y21, ⟨rfl, rfl⟩, h⟩ := hq
              conv => cbv
              refine ⟨agree_of hO (Nat.le_of_ble_eq_true rfl) rfl, ?_⟩
              refine ⟨agree_of hO (Nat.le_of_ble_eq_true rfl) rfl, ?_⟩
              refine view_h hO h (fun g => (by subst hO; exact g)) (fun h => ?_)
              conv => cbv
              refine and_h h (fun g => (by subst hO; exact g)) (fun h => ?_)
              refine emp_no hO (by subst hO; exact List.cons_ne_nil _ _) ?_
              conv => cbv
              refine join_all hO ?_
              conv => cbv
              exact hLn1 n1 _ _ (Nat.lt_succ_self n1) ⟨y20, y21, (nilE ++ (List.take 1 [[(CV.v (.int .i64 y17)), (CV.v (.int .i64 y18)), (CV.sl 3 y19 none)]])), binStd .add .i64 z16 1, (.inr ⟨(by (conv => lhs; cbv) <;> (subst hO; rfl)), (by (conv => lhs; cbv) <;> (subst hO; rfl))⟩), h⟩
          · conv => cbv
            refine loop_of hO tiA [0, 1, 2, 6, 7, 63, 64] [0, 1, 7000, 8000, 81000] [] (fun (n : Nat) tm m => ∃ (z22 : EL) (z23 : Int) (z24 : Int) (z25 : EL) (z26 : Int), ((z25 = [] ∧ tm = frame 0 84 [(0, .p 0 0 0), (1, .c (.v (.int .i64 x2))), (2, .p 1 1 0), (6, .p 7000 2 0), (7, .p 8000 2 0), (63, .c (.v (.int .i64 j11))), (64, .c (.v (.int .i64 z26)))] ∧ m = ⟨[(0, .blk 0 [.c (.sl 1 z22 none), .c (.v (.int .i64 z23))]), (1, .blk 1 [.c (.v (.int .i64 z24))]), (7000, .blk 2 [.c (.v (.int .i64 0)), .c (.v (.int .i64 0)), .c (.v (.string ⟨#[]⟩)), .c (.sl 3 [] (some [])), .c (.sl 5 [] (some []))]), (8000, .blk 2 [.c (.v (.int .i64 y4)), .c (.v (.int .i64 j9)), .c (.v (.string j10)), .c (.sl 3 [] (some [])), .c (.sl 5 [] (some []))])], 3⟩) ∨ (tm = frame 0 84 [(0, .p 0 0 0), (1, .c (.v (.int .i64 x2))), (2, .p 1 1 0), (6, .p 7000 2 0), (7, .p 8000 2 0), (63, .c (.v (.int .i64 j11))), (64, .c (.v (.int .i64 z26)))] ∧ m = ⟨[(0, .blk 0 [.c (.sl 1 z22 none), .c (.v (.int .i64 z23))]), (1, .blk 1 [.c (.v (.int .i64 z24))]), (7000, .blk 2 [.c (.v (.int .i64 0)), .c (.v (.int .i64 0)), .c (.v (.string ⟨#[]⟩)), .c (.sl 3 [] (some [])), .c (.sl 5 [] (some []))]), (8000, .blk 2 [.c (.v (.int .i64 y4)), .c (.v (.int .i64 j9)), .c (.v (.string j10)), .c (.sl 3 [] (some [])), .t 81000 2 (O.len z25)]), (81000, .arr 2 5 z25 none false)], 3⟩)) ∧ p109_1L False fu (p109 False fu) K0 x2 y4 j9 j10 j11 nilE n z22 z23 z24 z25 z26) (fun n => n) fu ⟨z13, z14, y3, nilE, 0, (.inl ⟨rfl, (by (conv => lhs; cbv) <;> (subst hO; rfl)), (by (conv => lhs; cbv) <;> (subst hO; rfl))⟩), h⟩ ?_
            rintro n2 tm m L ⟨z22, z23, z24, z25, z26, hs, h⟩ hLn2
            cases n2 with
            | zero => rw [p109_1L] at h; exact h.elim
            | succ n2 =>
              rw [p109_1L] at h
              unfold p109_1 at h
              rcases hs with hs | hs
              · obtain ⟨rfl, rfl, rfl⟩ := hs
                conv => cbv
                refine br_h hO h (by subst hO; rfl) (fun hc4 h => ?_) (fun hc4 h => ?_)
                · conv => cbv
                  refine join_all hO ?_
                  conv => cbv
                  refine br_h hO h (by subst hO; rfl) (fun hc5 h => ?_) (fun hc5 h => ?_)
                  · conv => cbv
                    rw [hQ]
                    exact ⟨y4, j9, j10, nilE, nilE, z22, z23, z24, _, ⟨(by subst hO; rfl), (by subst hO; rfl)⟩, h⟩
                  · conv => cbv
                    refine join_all hO ?_
                    conv => cbv
                    refine drawn_of hO tiA [[0, 1], [], [], [], []] [(0, true, false), (1, true, false), (2, true, false), (3, true, false), (4, true, false), (5, true, false), (6, false, false), (7, false, false), (8, false, true), (9, true, true), (10, false, true)] (by kernel_rfl) ?_
                    conv => cbv
                    refine call_h hO [.ref 2, .shut, .ref 1] (ih_p109 O.len hN h) ?_
                    intro os Q hos hQ
                    conv => cbv
                    refine ⟨(by (rw [hos]) <;> (subst hO; rfl)), ?_⟩
                    intro r bs hq
                    rw [hQ] at hq
                    clear hos hQ h
                    obtain ⟨y27, y28, y29, y30, y31, y32, y33, y34, _, ⟨rfl, rfl⟩, h⟩ := hq
                    conv => cbv
                    refine ⟨agree_of hO (Nat.le_of_ble_eq_true rfl) rfl, ?_⟩
                    refine ⟨agree_of hO (Nat.le_of_ble_eq_true rfl) rfl, ?_⟩
                    refine view_h hO h (fun g => (by subst hO; exact g)) (fun h => ?_)
                    conv => cbv
                    refine and_h h (fun g => (by subst hO; exact g)) (fun h => ?_)
                    refine emp_no hO (by subst hO; exact List.cons_ne_nil _ _) ?_
                    conv => cbv
                    refine join_all hO ?_
                    conv => cbv
                    exact hLn2 n2 _ _ (Nat.lt_succ_self n2) ⟨y32, y33, y34, (nilE ++ (List.take 1 [[(CV.v (.int .i64 y27)), (CV.v (.int .i64 y28)), (CV.v (.string y29)), (CV.sl 3 y30 none), (CV.sl 5 y31 none)]])), binStd .add .i64 z26 1, (.inr ⟨(by (conv => lhs; cbv) <;> (subst hO; rfl)), (by (conv => lhs; cbv) <;> (subst hO; rfl))⟩), h⟩
                · conv => cbv
                  rw [hQ]
                  exact ⟨y4, j9, j10, nilE, nilE, z22, z23, z24, _, ⟨(by subst hO; rfl), (by subst hO; rfl)⟩, h⟩
              · obtain ⟨rfl, rfl⟩ := hs
                conv => cbv
                refine br_h hO h (by subst hO; rfl) (fun hc4 h => ?_) (fun hc4 h => ?_)
                · conv => cbv
                  refine join_all hO ?_
                  conv => cbv
                  refine br_h hO h (by subst hO; rfl) (fun hc5 h => ?_) (fun hc5 h => ?_)
                  · conv => cbv
                    refine view_full hO ?_
                    conv => cbv
                    rw [hQ]
                    exact ⟨y4, j9, j10, nilE, z25, z22, z23, z24, _, ⟨(by subst hO; rfl), (by subst hO; rfl)⟩, h⟩
                  · conv => cbv
                    refine join_all hO ?_
                    conv => cbv
                    refine drawn_of hO tiA [[0, 1], [], [], [], []] [(0, true, false), (1, true, false), (2, true, false), (3, true, false), (4, true, false), (5, true, false), (6, false, false), (7, false, false), (8, false, true), (9, true, true), (10, false, true)] (by kernel_rfl) ?_
                    conv => cbv
                    refine call_h hO [.ref 2, .shut, .ref 1] (ih_p109 O.len hN h) ?_
                    intro os Q hos hQ
                    conv => cbv
                    refine ⟨(by (rw [hos]) <;> (subst hO; rfl)), ?_⟩
                    intro r bs hq
                    rw [hQ] at hq
                    clear hos hQ h
                    obtain ⟨y27, y28, y29, y30, y31, y32, y33, y34, _, ⟨rfl, rfl⟩, h⟩ := hq
                    conv => cbv
                    refine ⟨agree_of hO (Nat.le_of_ble_eq_true rfl) rfl, ?_⟩
                    refine ⟨agree_of hO (Nat.le_of_ble_eq_true rfl) rfl, ?_⟩
                    refine view_h hO h (fun g => (by subst hO; exact g)) (fun h => ?_)
                    conv => cbv
                    refine ⟨(by subst hO; rfl), ?_⟩
                    refine and_h h (fun g => (by subst hO; exact g)) (fun h => ?_)
                    refine join_all hO ?_
                    conv => cbv
                    exact hLn2 n2 _ _ (Nat.lt_succ_self n2) ⟨y32, y33, y34, (z25 ++ (List.take 1 [[(CV.v (.int .i64 y27)), (CV.v (.int .i64 y28)), (CV.v (.string y29)), (CV.sl 3 y30 none), (CV.sl 5 y31 none)]])), binStd .add .i64 z26 1, (.inr ⟨(by (conv => lhs; cbv) <;> (subst hO; rfl)), (by (conv => lhs; cbv) <;> (subst hO; rfl))⟩), h⟩
                · conv => cbv
                  refine view_full hO ?_
                  conv => cbv
                  rw [hQ]
                  exact ⟨y4, j9, j10, nilE, z25, z22, z23, z24, _, ⟨(by subst hO; rfl), (by subst hO; rfl)⟩, h⟩
        · obtain ⟨rfl, rfl⟩ := hs
          conv => cbv
          refine br_h hO h (by subst hO; rfl) (fun hc2 h => ?_) (fun hc2 h => ?_)
          · conv => cbv
            refine join_all hO ?_
            conv => cbv
            refine br_h hO h (by subst hO; rfl) (fun hc3 h => ?_) (fun hc3 h => ?_)
            · conv => cbv
              refine view_full hO ?_
              conv => cbv
              rw [hQ]
              exact ⟨y4, j9, j10, z15, nilE, z13, z14, y3, _, ⟨(by subst hO; rfl), (by subst hO; rfl)⟩, h⟩
            · conv => cbv
              refine join_all hO ?_
              conv => cbv
              refine drawn_of hO tiA [[0], [], [], [], []] [(0, true, false), (1, true, false), (2, true, false), (3, false, false), (4, false, false), (5, false, true), (6, true, true), (7, false, true)] (by kernel_rfl) ?_
              conv => cbv
              refine call_h hO [.ref 2] (d_p67 fu O.len hN h) ?_
              intro os Q hos hQ
              conv => cbv
              refine ⟨(by (rw [hos]) <;> (subst hO; rfl)), ?_⟩
              intro r bs hq
              rw [hQ] at hq
              clear hos hQ h
              obtain ⟨y17, y18, y19, y20, y21, ⟨rfl, rfl⟩, h⟩ := hq
              conv => cbv
              refine ⟨agree_of hO (Nat.le_of_ble_eq_true rfl) rfl, ?_⟩
              refine ⟨agree_of hO (Nat.le_of_ble_eq_true rfl) rfl, ?_⟩
              refine view_h hO h (fun g => (by subst hO; exact g)) (fun h => ?_)
              conv => cbv
              refine ⟨(by subst hO; rfl), ?_⟩
              refine and_h h (fun g => (by subst hO; exact g)) (fun h => ?_)
              refine join_all hO ?_
              conv => cbv
              exact hLn1 n1 _ _ (Nat.lt_succ_self n1) ⟨y20, y21, (z15 ++ (List.take 1 [[(CV.v (.int .i64 y17)), (CV.v (.int .i64 y18)), (CV.sl 3 y19 none)]])), binStd .add .i64 z16 1, (.inr ⟨(by (conv => lhs; cbv) <;> (subst hO; rfl)), (by (conv => lhs; cbv) <;> (subst hO; rfl))⟩), h⟩
          · conv => cbv
            refine loop_of hO tiA [0, 1, 2, 6, 7, 63, 64] [0, 1, 7000, 8000, 61000, 81000] [] (fun (n : Nat) tm m => ∃ (z22 : EL) (z23 : Int) (z24 : Int) (z25 : EL) (z26 : Int), ((z25 = [] ∧ tm = frame 0 84 [(0, .p 0 0 0), (1, .c (.v (.int .i64 x2))), (2, .p 1 1 0), (6, .p 7000 2 0), (7, .p 8000 2 0), (63, .c (.v (.int .i64 j11))), (64, .c (.v (.int .i64 z26)))] ∧ m = ⟨[(0, .blk 0 [.c (.sl 1 z22 none), .c (.v (.int .i64 z23))]), (1, .blk 1 [.c (.v (.int .i64 z24))]), (7000, .blk 2 [.c (.v (.int .i64 0)), .c (.v (.int .i64 0)), .c (.v (.string ⟨#[]⟩)), .c (.sl 3 [] (some [])), .c (.sl 5 [] (some []))]), (8000, .blk 2 [.c (.v (.int .i64 y4)), .c (.v (.int .i64 j9)), .c (.v (.string j10)), .t 61000 2 (O.len z15), .c (.sl 5 [] (some []))]), (61000, .arr 2 3 z15 none false)], 3⟩) ∨ (tm = frame 0 84 [(0, .p 0 0 0), (1, .c (.v (.int .i64 x2))), (2, .p 1 1 0), (6, .p 7000 2 0), (7, .p 8000 2 0), (63, .c (.v (.int .i64 j11))), (64, .c (.v (.int .i64 z26)))] ∧ m = ⟨[(0, .blk 0 [.c (.sl 1 z22 none), .c (.v (.int .i64 z23))]), (1, .blk 1 [.c (.v (.int .i64 z24))]), (7000, .blk 2 [.c (.v (.int .i64 0)), .c (.v (.int .i64 0)), .c (.v (.string ⟨#[]⟩)), .c (.sl 3 [] (some [])), .c (.sl 5 [] (some []))]), (8000, .blk 2 [.c (.v (.int .i64 y4)), .c (.v (.int .i64 j9)), .c (.v (.string j10)), .t 61000 2 (O.len z15), .t 81000 2 (O.len z25)]), (61000, .arr 2 3 z15 none false), (81000, .arr 2 5 z25 none false)], 3⟩)) ∧ p109_1L False fu (p109 False fu) K0 x2 y4 j9 j10 j11 z15 n z22 z23 z24 z25 z26) (fun n => n) fu ⟨z13, z14, y3, nilE, 0, (.inl ⟨rfl, (by (conv => lhs; cbv) <;> (subst hO; rfl)), (by (conv => lhs; cbv) <;> (subst hO; rfl))⟩), h⟩ ?_
            rintro n2 tm m L ⟨z22, z23, z24, z25, z26, hs, h⟩ hLn2
            cases n2 with
            | zero => rw [p109_1L] at h; exact h.elim
            | succ n2 =>
              rw [p109_1L] at h
              unfold p109_1 at h
              rcases hs with hs | hs
              · obtain ⟨rfl, rfl, rfl⟩ := hs
                conv => cbv
                refine br_h hO h (by subst hO; rfl) (fun hc4 h => ?_) (fun hc4 h => ?_)
                · conv => cbv
                  refine join_all hO ?_
                  conv => cbv
                  refine br_h hO h (by subst hO; rfl) (fun hc5 h => ?_) (fun hc5 h => ?_)
                  · conv => cbv
                    refine view_full hO ?_
                    conv => cbv
                    rw [hQ]
                    exact ⟨y4, j9, j10, z15, nilE, z22, z23, z24, _, ⟨(by subst hO; rfl), (by subst hO; rfl)⟩, h⟩
                  · conv => cbv
                    refine join_all hO ?_
                    conv => cbv
                    refine drawn_of hO tiA [[0, 1], [], [], [], []] [(0, true, false), (1, true, false), (2, true, false), (3, true, false), (4, true, false), (5, true, false), (6, false, false), (7, false, false), (8, false, true), (9, true, true), (10, false, true)] (by kernel_rfl) ?_
                    conv => cbv
                    refine call_h hO [.ref 2, .shut, .ref 1] (ih_p109 O.len hN h) ?_
                    intro os Q hos hQ
                    conv => cbv
                    refine ⟨(by (rw [hos]) <;> (subst hO; rfl)), ?_⟩
                    intro r bs hq
                    rw [hQ] at hq
                    clear hos hQ h
                    obtain ⟨y27, y28, y29, y30, y31, y32, y33, y34, _, ⟨rfl, rfl⟩, h⟩ := hq
                    conv => cbv
                    refine ⟨agree_of hO (Nat.le_of_ble_eq_true rfl) rfl, ?_⟩
                    refine ⟨agree_of hO (Nat.le_of_ble_eq_true rfl) rfl, ?_⟩
                    refine view_h hO h (fun g => (by subst hO; exact g)) (fun h => ?_)
                    conv => cbv
                    refine and_h h (fun g => (by subst hO; exact g)) (fun h => ?_)
                    refine emp_no hO (by subst hO; exact List.cons_ne_nil _ _) ?_
                    conv => cbv
                    refine join_all hO ?_
                    conv => cbv
                    exact hLn2 n2 _ _ (Nat.lt_succ_self n2) ⟨y32, y33, y34, (nilE ++ (List.take 1 [[(CV.v (.int .i64 y27)), (CV.v (.int .i64 y28)), (CV.v (.string y29)), (CV.sl 3 y30 none), (CV.sl 5 y31 none)]])), binStd .add .i64 z26 1, (.inr ⟨(by (conv => lhs; cbv) <;> (subst hO; rfl)), (by (conv => lhs; cbv) <;> (subst hO; rfl))⟩), h⟩
                · conv => cbv
                  refine view_full hO ?_
                  conv => cbv
                  rw [hQ]
                  exact ⟨y4, j9, j10, z15, nilE, z22, z23, z24, _, ⟨(by subst hO; rfl), (by subst hO; rfl)⟩, h⟩
              · obtain ⟨rfl, rfl⟩ := hs
                conv => cbv
                refine br_h hO h (by subst hO; rfl) (fun hc4 h => ?_) (fun hc4 h => ?_)
                · conv => cbv
                  refine join_all hO ?_
                  conv => cbv
                  refine br_h hO h (by subst hO; rfl) (fun hc5 h => ?_) (fun hc5 h => ?_)
                  · conv => cbv
                    refine view_full hO ?_
                    conv => cbv
                    refine view_full hO ?_
                    conv => cbv
                    rw [hQ]
                    exact ⟨y4, j9, j10, z15, z25, z22, z23, z24, _, ⟨(by subst hO; rfl), (by subst hO; rfl)⟩, h⟩
                  · conv => cbv
                    refine join_all hO ?_
                    conv => cbv
                    refine drawn_of hO tiA [[0, 1], [], [], [], []] [(0, true, false), (1, true, false), (2, true, false), (3, true, false), (4, true, false), (5, true, false), (6, false, false), (7, false, false), (8, false, true), (9, true, true), (10, false, true)] (by kernel_rfl) ?_
                    conv => cbv
                    refine call_h hO [.ref 2, .shut, .ref 1] (ih_p109 O.len hN h) ?_
                    intro os Q hos hQ
                    conv => cbv
                    refine ⟨(by (rw [hos]) <;> (subst hO; rfl)), ?_⟩
                    intro r bs hq
                    rw [hQ] at hq
                    clear hos hQ h
                    obtain ⟨y27, y28, y29, y30, y31, y32, y33, y34, _, ⟨rfl, rfl⟩, h⟩ := hq
                    conv => cbv
                    refine ⟨agree_of hO (Nat.le_of_ble_eq_true rfl) rfl, ?_⟩
                    refine ⟨agree_of hO (Nat.le_of_ble_eq_true rfl) rfl, ?_⟩
                    refine view_h hO h (fun g => (by subst hO; exact g)) (fun h => ?_)
                    conv => cbv
                    refine ⟨(by subst hO; rfl), ?_⟩
                    refine and_h h (fun g => (by subst hO; exact g)) (fun h => ?_)
                    refine join_all hO ?_
                    conv => cbv
                    exact hLn2 n2 _ _ (Nat.lt_succ_self n2) ⟨y32, y33, y34, (z25 ++ (List.take 1 [[(CV.v (.int .i64 y27)), (CV.v (.int .i64 y28)), (CV.v (.string y29)), (CV.sl 3 y30 none), (CV.sl 5 y31 none)]])), binStd .add .i64 z26 1, (.inr ⟨(by (conv => lhs; cbv) <;> (subst hO; rfl)), (by (conv => lhs; cbv) <;> (subst hO; rfl))⟩), h⟩
                · conv => cbv
                  refine view_full hO ?_
                  conv => cbv
                  refine view_full hO ?_
                  conv => cbv
                  rw [hQ]
                  exact ⟨y4, j9, j10, z15, z25, z22, z23, z24, _, ⟨(by subst hO; rfl), (by subst hO; rfl)⟩, h⟩
theorem dd_p109 (fu : Nat) : D_p109 fu := by
  induction fu with
  | zero => unfold D_p109; intros; rename_i h; rw [p109] at h; exact h.elim
  | succ n ih =>
    exact (by unfold D_p109; intro K0 L hN x0 x1 x2 x3 h; exact b_p109 n ih L hN (by rw [p109] at h; exact h))
theorem d_p109 (fu : Nat) {K0 : Int → Int → ByteArray → EL → EL → EL → Int → Int → Prop} (L : EL → Nat) (hL : L = List.length) {x0 : EL} {x1 : Int} {x2 : Int} {x3 : Int} (h : p109 False fu K0 x0 x1 x2 x3) : Den Try.prog G0 109 [.ptr [.c (.sl 1 x0 none), .c (.v (.int .i64 x1))], .c (.v (.int .i64 x2)), .ptr [.c (.v (.int .i64 x3))]] (fun r bs => (∃ (y0 : Int) (y1 : Int) (y2 : ByteArray) (y3 : EL) (y4 : EL) (y5 : EL) (y6 : Int) (y7 : Int) (o1 : OV), (r = .agg [.c (.v (.int .i64 y0)), .c (.v (.int .i64 y1)), .c (.v (.string y2)), .c (.sl 3 y3 none), .c (.sl 5 y4 none)] ∧ bs = [.ptr [.c (.sl 1 y5 none), .c (.v (.int .i64 y6))], o1, .ptr [.c (.v (.int .i64 y7))]]) ∧ K0 y0 y1 y2 y3 y4 y5 y6 y7)) := dd_p109 fu L hL h
end Go.Proofs.Ythncmjlcmlmnmaa

namespace Go.Proofs.Ythncmjlcmlmnmaa
open Go V
set_option maxRecDepth 100000
set_option maxHeartbeats 4000000
/-- (*codec.Reader).Term -/
def p65 {ρ : Type} (fail : ρ) (fu : Nat)  (K0 : Int → Int → ByteArray → EL → EL → EL → Int → ρ) (x0 : EL) (x1 : Int) : ρ :=
  p109 fail fu (fun y1 y2 y3 y4 y5 y6 y7 y8 => K0 y1 y2 y3 y4 y5 y6 y7) x0 x1 1 0
theorem d_p65 (fu : Nat)  {K0 : Int → Int → ByteArray → EL → EL → EL → Int → Prop} (L : EL → Nat) (hN : L = List.length) {x0 : EL} {x1 : Int} (h : p65 False fu K0 x0 x1) : Den Try.prog G0 65 [.ptr [.c (.sl 1 x0 none), .c (.v (.int .i64 x1))]] (fun r bs => (∃ (y0 : Int) (y1 : Int) (y2 : ByteArray) (y3 : EL) (y4 : EL) (y5 : EL) (y6 : Int), (r = .agg [.c (.v (.int .i64 y0)), .c (.v (.int .i64 y1)), .c (.v (.string y2)), .c (.sl 3 y3 none), .c (.sl 5 y4 none)] ∧ bs = [.ptr [.c (.sl 1 y5 none), .c (.v (.int .i64 y6))]]) ∧ K0 y0 y1 y2 y3 y4 y5 y6)) := by
  obtain ⟨O, hO⟩ : ∃ O, O = std 1 T G0 (Den Try.prog G0) := ⟨_, rfl⟩
  have hLO : L = O.len := by rw [hN, hO]; rfl
  subst hLO
  refine den_h hO tiA mixed tabOk (fn := Try.f65) (sh := true) (by kernel_rfl) rfl rfl rfl rfl ?_
  intro Q hQ
  unfold p65 at h
  conv => cbv
  refine call_h hO [.ref 2, .shut, .ref 1] (d_p109 fu O.len hN h) ?_
  intro os Q hos hQ
  conv => cbv
  refine ⟨(by (rw [hos]) <;> (subst hO; rfl)), ?_⟩
  intro r bs hq
  rw [hQ] at hq
  clear hos hQ h
  obtain ⟨y1, y2, y3, y4, y5, y6, y7, y8, _, ⟨rfl, rfl⟩, h⟩ := hq
  conv => cbv
  rw [hQ]
  exact ⟨y1, y2, y3, y4, y5, y6, y7, ⟨(by subst hO; rfl), (by subst hO; rfl)⟩, h⟩
end Go.Proofs.Ythncmjlcmlmnmaa

namespace Go.Proofs.Ythncmjlcmlmnmaa
open Go V
set_option maxRecDepth 100000
set_option maxHeartbeats 4000000
/-- (*codec.Reader).took -/
def p66 {ρ : Type} (fail : ρ) (fu : Nat)  (K0 : Int → Int → EL → Int → ρ) (x0 : EL) (x1 : Int) (x2 : EL) : ρ :=
  bif (cmpStd .neq x1 0) then (K0 0 x1 x0 x1) else (K0 (binStd .sub .i64 ((x2.length : Nat) : Int) ((x0.length : Nat) : Int)) 0 x0 x1)
theorem d_p66 (fu : Nat)  {K0 : Int → Int → EL → Int → Prop} (L : EL → Nat) (hN : L = List.length) {x0 : EL} {x1 : Int} {x2 : EL} (h : p66 False fu K0 x0 x1 x2) : Den Try.prog G0 66 [.ptr [.c (.sl 1 x0 none), .c (.v (.int .i64 x1))], .c (.sl 1 x2 none)] (fun r bs => (∃ (y0 : Int) (y1 : Int) (y2 : EL) (y3 : Int) (o1 : OV), (r = .tup [.c (.v (.int .i64 y0)), .c (.v (.int .i64 y1))] ∧ bs = [.ptr [.c (.sl 1 y2 none), .c (.v (.int .i64 y3))], o1]) ∧ K0 y0 y1 y2 y3)) := by
  obtain ⟨O, hO⟩ : ∃ O, O = std 1 T G0 (Den Try.prog G0) := ⟨_, rfl⟩
  have hLO : L = O.len := by rw [hN, hO]; rfl
  subst hLO
  refine den_h hO tiA mixed tabOk (fn := Try.f66) (sh := true) (by kernel_rfl) rfl rfl rfl rfl ?_
  intro Q hQ
  unfold p66 at h
  conv => cbv
  refine br_h hO h (by subst hO; rfl) (fun hc1 h => ?_) (fun hc1 h => ?_)
  · conv => cbv
    refine drawn_of hO tiA [[]] [(0, true, false), (1, true, false), (2, true, false), (3, true, false), (4, true, false), (5, true, true)] (by kernel_rfl) ?_
    conv => cbv
    refine join_all hO ?_
    conv => cbv
    rw [hQ]
    exact ⟨0, x1, x0, x1, _, ⟨(by subst hO; rfl), (by subst hO; rfl)⟩, h⟩
  · conv => cbv
    refine join_all hO ?_
    conv => cbv
    rw [hQ]
    exact ⟨binStd .sub .i64 ((x2.length : Nat) : Int) ((x0.length : Nat) : Int), 0, x0, x1, _, ⟨(by subst hO; rfl), (by subst hO; rfl)⟩, h⟩
end Go.Proofs.Ythncmjlcmlmnmaa

namespace Go.Proofs.Ythncmjlcmlmnmaa
open Go V
set_option maxRecDepth 100000
set_option maxHeartbeats 4000000
/-- codec.TakeTerm -/
def p18 {ρ : Type} (fail : ρ) (fu : Nat)  (K0 : Int → Int → ByteArray → EL → EL → Int → Int → ρ) (x0 : EL) : ρ :=
  p65 fail fu (fun y1 y2 y3 y4 y5 y6 y7 => p66 fail fu (fun y8 y9 y10 y11 => bif (cmpStd .neq y9 0) then (K0 0 0 ⟨#[]⟩ nilE nilE 0 y9) else (K0 y1 y2 y3 y4 y5 y8 0)) y6 y7 x0) x0 0
theorem d_p18 (fu : Nat)  {K0 : Int → Int → ByteArray → EL → EL → Int → Int → Prop} (L : EL → Nat) (hN : L = List.length) {x0 : EL} (h : p18 False fu K0 x0) : Den Try.prog G0 18 [.c (.sl 1 x0 none)] (fun r bs => (∃ (y0 : Int) (y1 : Int) (y2 : ByteArray) (y3 : EL) (y4 : EL) (y5 : Int) (y6 : Int) (o0 : OV), (r = .tup [.agg [.c (.v (.int .i64 y0)), .c (.v (.int .i64 y1)), .c (.v (.string y2)), .c (.sl 3 y3 none), .c (.sl 5 y4 none)], .c (.v (.int .i64 y5)), .c (.v (.int .i64 y6))] ∧ bs = [o0]) ∧ K0 y0 y1 y2 y3 y4 y5 y6)) := by
  obtain ⟨O, hO⟩ : ∃ O, O = std 0 T G0 (Den Try.prog G0) := ⟨_, rfl⟩
  have hLO : L = O.len := by rw [hN, hO]; rfl
  subst hLO
  refine den_h hO tiA mixed tabOk (fn := Try.f18) (sh := true) (by kernel_rfl) rfl rfl rfl rfl ?_
  intro Q hQ
  unfold p18 at h
  conv => cbv
  refine call_h hO [.ref 2] (d_p65 fu O.len hN h) ?_
  intro os Q hos hQ
  conv => cbv
  refine ⟨(by (rw [hos]) <;> (subst hO; rfl)), ?_⟩
  intro r bs hq
  rw [hQ] at hq
  clear hos hQ h
  obtain ⟨y1, y2, y3, y4, y5, y6, y7, ⟨rfl, rfl⟩, h⟩ := hq
  conv => cbv
  refine call_h hO [.ref 2, .shut] (d_p66 fu O.len hN h) ?_
  intro os Q hos hQ
  conv => cbv
  refine ⟨(by (rw [hos]) <;> (subst hO; rfl)), ?_⟩
  intro r bs hq
  rw [hQ] at hq
  clear hos hQ h
  obtain ⟨y8, y9, y10, y11, _, ⟨rfl, rfl⟩, h⟩ := hq
  conv => cbv
  refine br_h hO h (by subst hO; rfl) (fun hc1 h => ?_) (fun hc1 h => ?_)
  · conv => cbv
    rw [hQ]
    exact ⟨0, 0, ⟨#[]⟩, nilE, nilE, 0, y9, _, ⟨(by subst hO; rfl), (by subst hO; rfl)⟩, h⟩
  · conv => cbv
    refine join_all hO ?_
    conv => cbv
    rw [hQ]
    exact ⟨y1, y2, y3, y4, y5, y8, 0, _, ⟨(by subst hO; rfl), (by subst hO; rfl)⟩, h⟩
end Go.Proofs.Ythncmjlcmlmnmaa

