/- Functions without memory, and that the Go functions are followed by them. Printed by gen.py. Conditions: none. -/
import Derived.Test.YthncmjlcmlmnmaaCR9
import Derived.Test.YthncmjlcmlmnmaaCR21
import Derived.Test.YthncmjlcmlmnmaaCR12
import Derived.Test.YthncmjlcmlmnmaaCR11
import Derived.Test.YthncmjlcmlmnmaaCR13
import Derived.Test.YthncmjlcmlmnmaaCR15
import Derived.Test.YthncmjlcmlmnmaaCR17
namespace Go.Proofs.Ythncmjlcmlmnmaa
open Go V
set_option maxRecDepth 100000
set_option maxHeartbeats 4000000
def p131_1 {ρ : Type} (fail : ρ) (fu : Nat) (s_p131 : (Int → Int → ByteArray → EL → EL → ρ) → Int → Int → ByteArray → EL → EL → Int → Int → ρ) (K0 : Int → Int → ByteArray → EL → EL → ρ) (rec1 : EL → Int → ρ) (x0 : Int) (x4 : EL) (x5 : Int) (x6 : Int) (y1 : Int) (y3 : ByteArray) (y4 : EL) (j7 : Int) (z8 : EL) (z9 : Int) : ρ :=
  bif (cmpStd .lss z9 ((x4.length : Nat) : Int)) then (gd ((0 : Int) ≤ z9) fail (gd ((z9 : Int) < (x4.length : Nat)) fail (rw_i64_i64_s_l3_l5 fail (List.getD x4 ((z9 : Int).toNat) []) (fun c10 c11 c12 c13 c14 => p142 fail fu (fun y15 => s_p131 (fun y16 y17 y18 y19 y20 => gd (1 ≤ [[(CV.v (.int .i64 y16)), (CV.v (.int .i64 y17)), (CV.v (.string y18)), (CV.sl 3 y19 none), (CV.sl 5 y20 none)]].length) fail (gd ((z8.length + (List.take 1 [[(CV.v (.int .i64 y16)), (CV.v (.int .i64 y17)), (CV.v (.string y18)), (CV.sl 3 y19 none), (CV.sl 5 y20 none)]]).length) * 80 ≤ 35184372088832) fail (rec1 (z8 ++ (List.take 1 [[(CV.v (.int .i64 y16)), (CV.v (.int .i64 y17)), (CV.v (.string y18)), (CV.sl 3 y19 none), (CV.sl 5 y20 none)]])) (binStd .add .i64 z9 1)))) c10 c11 c12 c13 c14 x5 (binStd .add .i64 x6 y15)) x0 z9)))) else (K0 y1 j7 y3 y4 z8)
def p131_1L {ρ : Type} (fail : ρ) (fu : Nat) (s_p131 : (Int → Int → ByteArray → EL → EL → ρ) → Int → Int → ByteArray → EL → EL → Int → Int → ρ) (K0 : Int → Int → ByteArray → EL → EL → ρ)  (x0 : Int) (x4 : EL) (x5 : Int) (x6 : Int) (y1 : Int) (y3 : ByteArray) (y4 : EL) (j7 : Int) : Nat → EL → Int → ρ
  | 0, _, _ => fail
  | n + 1, z8, z9 => p131_1 fail fu s_p131 K0 (p131_1L fail fu s_p131 K0  x0 x4 x5 x6 y1 y3 y4 j7 n) x0 x4 x5 x6 y1 y3 y4 j7 z8 z9
def p131_2 {ρ : Type} (fail : ρ) (fu : Nat) (s_p131 : (Int → Int → ByteArray → EL → EL → ρ) → Int → Int → ByteArray → EL → EL → Int → Int → ρ) (K0 : Int → Int → ByteArray → EL → EL → ρ)  (x0 : Int) (x4 : EL) (x5 : Int) (x6 : Int) (y1 : Int) (y3 : ByteArray) (y4 : EL) (y5 : EL) (j7 : Int) : ρ :=
  p131_1L fail fu s_p131 K0 x0 x4 x5 x6 y1 y3 y4 j7 fu y5 0
def p131_3 {ρ : Type} (fail : ρ) (fu : Nat) (s_p131 : (Int → Int → ByteArray → EL → EL → ρ) → Int → Int → ByteArray → EL → EL → Int → Int → ρ) (K0 : Int → Int → ByteArray → EL → EL → ρ)  (x0 : Int) (x1 : Int) (x4 : EL) (x5 : Int) (x6 : Int) (y1 : Int) (y2 : Int) (y3 : ByteArray) (y4 : EL) (y5 : EL) (j6 : Bool) : ρ :=
  bif j6 then (p131_2 fail fu s_p131 K0 x0 x4 x5 x6 y1 y3 y4 y5 (binStd .add .i64 x1 x5)) else (p131_2 fail fu s_p131 K0 x0 x4 x5 x6 y1 y3 y4 y5 y2)
/-- ref5.lift -/
def p131_b {ρ : Type} (fail : ρ) (fu : Nat) (s_p131 : (Int → Int → ByteArray → EL → EL → ρ) → Int → Int → ByteArray → EL → EL → Int → Int → ρ) (K0 : Int → Int → ByteArray → EL → EL → ρ) (x0 : Int) (x1 : Int) (x2 : ByteArray) (x3 : EL) (x4 : EL) (x5 : Int) (x6 : Int) : ρ :=
  p135 fail fu (fun y1 y2 y3 y4 y5 => bif (cmpStd .eql x0 0) then (p131_3 fail fu s_p131 K0 x0 x1 x4 x5 x6 y1 y2 y3 y4 y5 (cmpStd .geq x1 x6)) else (p131_3 fail fu s_p131 K0 x0 x1 x4 x5 x6 y1 y2 y3 y4 y5 false)) x0 x1 x2 x3 x4
def p131 {ρ : Type} (fail : ρ) : Nat → (Int → Int → ByteArray → EL → EL → ρ) → Int → Int → ByteArray → EL → EL → Int → Int → ρ
  | 0, _, _, _, _, _, _, _, _ => fail
  | n + 1, K0, x0, x1, x2, x3, x4, x5, x6 => p131_b fail n (p131 fail n) K0 x0 x1 x2 x3 x4 x5 x6
def D_p131 (fu : Nat) : Prop := ∀ {K0 : Int → Int → ByteArray → EL → EL → Prop} (L : EL → Nat) (_ : L = List.length) {x0 : Int} {x1 : Int} {x2 : ByteArray} {x3 : EL} {x4 : EL} {x5 : Int} {x6 : Int} (_ : p131 False fu K0 x0 x1 x2 x3 x4 x5 x6), Den Try.prog G0 131 [.agg [.c (.v (.int .i64 x0)), .c (.v (.int .i64 x1)), .c (.v (.string x2)), .c (.sl 3 x3 none), .c (.sl 5 x4 none)], .c (.v (.int .i64 x5)), .c (.v (.int .i64 x6))] (fun r bs => (∃ (y0 : Int) (y1 : Int) (y2 : ByteArray) (y3 : EL) (y4 : EL) (o0 : OV) (o1 : OV) (o2 : OV), (r = .agg [.c (.v (.int .i64 y0)), .c (.v (.int .i64 y1)), .c (.v (.string y2)), .c (.sl 3 y3 none), .c (.sl 5 y4 none)] ∧ bs = [o0, o1, o2]) ∧ K0 y0 y1 y2 y3 y4))
theorem b_p131 (fu : Nat) (ih_p131 : D_p131 fu) {K0 : Int → Int → ByteArray → EL → EL → Prop} (L : EL → Nat) (hN : L = List.length) {x0 : Int} {x1 : Int} {x2 : ByteArray} {x3 : EL} {x4 : EL} {x5 : Int} {x6 : Int} (h : p131_b False fu (p131 False fu) K0 x0 x1 x2 x3 x4 x5 x6) : Den Try.prog G0 131 [.agg [.c (.v (.int .i64 x0)), .c (.v (.int .i64 x1)), .c (.v (.string x2)), .c (.sl 3 x3 none), .c (.sl 5 x4 none)], .c (.v (.int .i64 x5)), .c (.v (.int .i64 x6))] (fun r bs => (∃ (y0 : Int) (y1 : Int) (y2 : ByteArray) (y3 : EL) (y4 : EL) (o0 : OV) (o1 : OV) (o2 : OV), (r = .agg [.c (.v (.int .i64 y0)), .c (.v (.int .i64 y1)), .c (.v (.string y2)), .c (.sl 3 y3 none), .c (.sl 5 y4 none)] ∧ bs = [o0, o1, o2]) ∧ K0 y0 y1 y2 y3 y4)) := by
  obtain ⟨O, hO⟩ : ∃ O, O = std 0 T G0 (Den Try.prog G0) := ⟨_, rfl⟩
  have hLO : L = O.len := by rw [hN, hO]; rfl
  subst hLO
  refine den_h hO tiA mixed tabOk (fn := Try.f131) (sh := true) (by kernel_rfl) rfl rfl rfl rfl ?_
  intro Q hQ
  unfold p131_b at h
  conv => cbv
  refine call_h hO [.shut] (d_p135 fu O.len hN h) ?_
  intro os Q hos hQ
  conv => cbv
  refine ⟨(by (rw [hos]) <;> (subst hO; rfl)), ?_⟩
  intro r bs hq
  rw [hQ] at hq
  clear hos hQ h
  rcases hq with hq | hq
  · obtain ⟨y1, y2, y3, y4, y5, _, ⟨rfl, rfl, rfl, rfl⟩, h⟩ := hq
    conv => cbv
    refine reg_join hO tiA [1, 2, 3, 6, 7, 19] [4000, 7000, 8000] [] (fun tm m => ∃ (j6 : Bool), ((tm = frame 0 51 [(1, .c (.v (.int .i64 x5))), (2, .c (.v (.int .i64 x6))), (3, .p 4000 0 0), (6, .p 7000 0 0), (7, .p 8000 0 0), (19, .c (.v (.bool j6)))] ∧ m = ⟨[(4000, .blk 0 [.c (.v (.int .i64 x0)), .c (.v (.int .i64 x1)), .c (.v (.string x2)), .c (.sl 3 x3 none), .c (.sl 5 x4 none)]), (7000, .blk 0 [.c (.v (.int .i64 0)), .c (.v (.int .i64 0)), .c (.v (.string ⟨#[]⟩)), .c (.sl 3 [] (some [])), .c (.sl 5 [] (some []))]), (8000, .blk 0 [.c (.v (.int .i64 y1)), .c (.v (.int .i64 y2)), .c (.v (.string y3)), .c (.sl 3 [] (some [])), .c (.sl 5 [] (some []))])], 1⟩)) ∧ p131_3 False fu (p131 False fu) K0 x0 x1 x4 x5 x6 y1 y2 y3 nilE nilE j6) (fun L hL_3 => ?_) ?_
    · conv => cbv
      refine br_h hO h (by subst hO; rfl) (fun hc3 h => ?_) (fun hc3 h => ?_)
      · conv => cbv
        refine br_t hO hc3 ?_
        conv => cbv
        refine br_t hO hc3 ?_
        conv => cbv
        refine br_t hO hc3 ?_
        conv => cbv
        refine br_t hO hc3 ?_
        conv => cbv
        exact hL_3 _ _ ⟨(cmpStd .geq x1 x6), ⟨(by (conv => lhs; cbv) <;> (subst hO; rfl)), (by (conv => lhs; cbv) <;> (subst hO; rfl))⟩, h⟩
      · conv => cbv
        refine br_f hO hc3 ?_
        conv => cbv
        refine br_f hO hc3 ?_
        conv => cbv
        refine br_f hO hc3 ?_
        conv => cbv
        refine br_f hO hc3 ?_
        conv => cbv
        exact hL_3 _ _ ⟨false, ⟨(by (conv => lhs; cbv) <;> (subst hO; rfl)), (by (conv => lhs; cbv) <;> (subst hO; rfl))⟩, h⟩
    · rintro tm m ⟨j6, hs, h⟩
      unfold p131_3 at h
      obtain ⟨rfl, rfl⟩ := hs
      conv => cbv
      refine br_join_h hO tiA h (by subst hO; rfl) [1, 2, 3, 6, 7] [4000, 7000, 8000] [] (fun tm m => ∃ (j7 : Int), ((tm = frame 0 51 [(1, .c (.v (.int .i64 x5))), (2, .c (.v (.int .i64 x6))), (3, .p 4000 0 0), (6, .p 7000 0 0), (7, .p 8000 0 0)] ∧ m = ⟨[(4000, .blk 0 [.c (.v (.int .i64 x0)), .c (.v (.int .i64 x1)), .c (.v (.string x2)), .c (.sl 3 x3 none), .c (.sl 5 x4 none)]), (7000, .blk 0 [.c (.v (.int .i64 0)), .c (.v (.int .i64 0)), .c (.v (.string ⟨#[]⟩)), .c (.sl 3 [] (some [])), .c (.sl 5 [] (some []))]), (8000, .blk 0 [.c (.v (.int .i64 y1)), .c (.v (.int .i64 j7)), .c (.v (.string y3)), .c (.sl 3 [] (some [])), .c (.sl 5 [] (some []))])], 1⟩)) ∧ p131_2 False fu (p131 False fu) K0 x0 x4 x5 x6 y1 y3 nilE nilE j7) (fun hc2 h L hL_2 => ?_) (fun hc2 h L hL_2 => ?_) ?_
      · conv => cbv
        exact hL_2 _ _ ⟨binStd .add .i64 x1 x5, ⟨(by (conv => lhs; cbv) <;> (subst hO; rfl)), (by (conv => lhs; cbv) <;> (subst hO; rfl))⟩, h⟩
      · conv => cbv
        exact hL_2 _ _ ⟨y2, ⟨(by (conv => lhs; cbv) <;> (subst hO; rfl)), (by (conv => lhs; cbv) <;> (subst hO; rfl))⟩, h⟩
      · rintro tm m ⟨j7, hs, h⟩
        unfold p131_2 at h
        obtain ⟨rfl, rfl⟩ := hs
        conv => cbv
        refine loop_of hO tiA [1, 2, 3, 6, 7, 8] [4000, 7000, 8000, 49000] [] (fun (n : Nat) tm m => ∃ (z8 : EL) (z9 : Int), ((z8 = [] ∧ tm = frame 0 51 [(1, .c (.v (.int .i64 x5))), (2, .c (.v (.int .i64 x6))), (3, .p 4000 0 0), (6, .p 7000 0 0), (7, .p 8000 0 0), (8, .c (.v (.int .i64 z9)))] ∧ m = ⟨[(4000, .blk 0 [.c (.v (.int .i64 x0)), .c (.v (.int .i64 x1)), .c (.v (.string x2)), .c (.sl 3 x3 none), .c (.sl 5 x4 none)]), (7000, .blk 0 [.c (.v (.int .i64 0)), .c (.v (.int .i64 0)), .c (.v (.string ⟨#[]⟩)), .c (.sl 3 [] (some [])), .c (.sl 5 [] (some []))]), (8000, .blk 0 [.c (.v (.int .i64 y1)), .c (.v (.int .i64 j7)), .c (.v (.string y3)), .c (.sl 3 [] (some [])), .c (.sl 5 [] (some []))])], 1⟩) ∨ (tm = frame 0 51 [(1, .c (.v (.int .i64 x5))), (2, .c (.v (.int .i64 x6))), (3, .p 4000 0 0), (6, .p 7000 0 0), (7, .p 8000 0 0), (8, .c (.v (.int .i64 z9)))] ∧ m = ⟨[(4000, .blk 0 [.c (.v (.int .i64 x0)), .c (.v (.int .i64 x1)), .c (.v (.string x2)), .c (.sl 3 x3 none), .c (.sl 5 x4 none)]), (7000, .blk 0 [.c (.v (.int .i64 0)), .c (.v (.int .i64 0)), .c (.v (.string ⟨#[]⟩)), .c (.sl 3 [] (some [])), .c (.sl 5 [] (some []))]), (8000, .blk 0 [.c (.v (.int .i64 y1)), .c (.v (.int .i64 j7)), .c (.v (.string y3)), .c (.sl 3 [] (some [])), .t 49000 0 (O.len z8)]), (49000, .arr 0 5 z8 none false)], 1⟩)) ∧ p131_1L False fu (p131 False fu) K0 x0 x4 x5 x6 y1 y3 nilE j7 n z8 z9) (fun n => n) fu ⟨nilE, 0, (.inl ⟨rfl, (by (conv => lhs; cbv) <;> (subst hO; rfl)), (by (conv => lhs; cbv) <;> (subst hO; rfl))⟩), h⟩ ?_
        rintro n1 tm m L ⟨z8, z9, hs, h⟩ hLn1
        cases n1 with
        | zero => rw [p131_1L] at h; exact h.elim
        | succ n1 =>
          rw [p131_1L] at h
          unfold p131_1 at h
          rcases hs with hs | hs
          · obtain ⟨rfl, rfl, rfl⟩ := hs
            conv => cbv
            refine br_h hO h (by subst hO; rfl) (fun hc1 h => ?_) (fun hc1 h => ?_)
            · conv => cbv
              refine join_all hO ?_
              conv => cbv
              refine drawn_of hO tiA [[], [], [], [], [], []] [(0, true, false), (1, true, false), (2, true, false), (3, true, false), (4, true, false), (5, true, false), (6, true, false), (7, true, false), (8, true, false), (9, true, false), (10, true, false), (11, true, false), (12, false, false), (13, true, false), (14, false, false), (15, false, false), (16, false, true), (17, true, true), (18, false, true)] (by kernel_rfl) ?_
              conv => cbv
              refine and_h h (fun g => (by subst hO; exact g)) (fun h => ?_)
              refine and_h h (fun g => (by subst hO; exact g)) (fun h => ?_)
              obtain ⟨c10, c11, c12, c13, c14, hr, h⟩ := rw_i64_i64_s_l3_l5_inv h
              refine elem_of hO _ (by subst hO; exact hr) ?_
              clear hr
              conv => cbv
              refine call_h hO [.shut, .shut] (d_p142 fu O.len hN h) ?_
              intro os Q hos hQ
              conv => cbv
              refine ⟨(by (rw [hos]) <;> (subst hO; rfl)), ?_⟩
              intro r bs hq
              rw [hQ] at hq
              clear hos hQ h
              obtain ⟨y15, _, _, ⟨rfl, rfl⟩, h⟩ := hq
              conv => cbv
              refine ⟨agree_of hO (Nat.le_of_ble_eq_true rfl) rfl, ?_⟩
              refine call_h hO [.shut, .shut, .shut] (ih_p131 O.len hN h) ?_
              intro os Q hos hQ
              conv => cbv
              refine ⟨(by (rw [hos]) <;> (subst hO; rfl)), ?_⟩
              intro r bs hq
              rw [hQ] at hq
              clear hos hQ h
              obtain ⟨y16, y17, y18, y19, y20, _, _, _, ⟨rfl, rfl⟩, h⟩ := hq
              conv => cbv
              refine ⟨agree_of hO (Nat.le_of_ble_eq_true rfl) rfl, ?_⟩
              refine ⟨agree_of hO (Nat.le_of_ble_eq_true rfl) rfl, ?_⟩
              refine view_h hO h (fun g => (by subst hO; exact g)) (fun h => ?_)
              conv => cbv
              refine and_h h (fun g => (by subst hO; exact g)) (fun h => ?_)
              refine emp_no hO (by subst hO; exact List.cons_ne_nil _ _) ?_
              conv => cbv
              refine join_all hO ?_
              conv => cbv
              exact hLn1 n1 _ _ (Nat.lt_succ_self n1) ⟨(nilE ++ (List.take 1 [[(CV.v (.int .i64 y16)), (CV.v (.int .i64 y17)), (CV.v (.string y18)), (CV.sl 3 y19 none), (CV.sl 5 y20 none)]])), binStd .add .i64 z9 1, (.inr ⟨(by (conv => lhs; cbv) <;> (subst hO; rfl)), (by (conv => lhs; cbv) <;> (subst hO; rfl))⟩), h⟩
            · conv => cbv
              rw [hQ]
              exact ⟨y1, j7, y3, nilE, nilE, _, _, _, ⟨(by subst hO; rfl), (by subst hO; rfl)⟩, h⟩
          · obtain ⟨rfl, rfl⟩ := hs
            conv => cbv
            refine br_h hO h (by subst hO; rfl) (fun hc1 h => ?_) (fun hc1 h => ?_)
            · conv => cbv
              refine join_all hO ?_
              conv => cbv
              refine drawn_of hO tiA [[], [], [], [], [], []] [(0, true, false), (1, true, false), (2, true, false), (3, true, false), (4, true, false), (5, true, false), (6, true, false), (7, true, false), (8, true, false), (9, true, false), (10, true, false), (11, true, false), (12, false, false), (13, true, false), (14, false, false), (15, false, false), (16, false, true), (17, true, true), (18, false, true)] (by kernel_rfl) ?_
              conv => cbv
              refine and_h h (fun g => (by subst hO; exact g)) (fun h => ?_)
              refine and_h h (fun g => (by subst hO; exact g)) (fun h => ?_)
              obtain ⟨c10, c11, c12, c13, c14, hr, h⟩ := rw_i64_i64_s_l3_l5_inv h
              refine elem_of hO _ (by subst hO; exact hr) ?_
              clear hr
              conv => cbv
              refine call_h hO [.shut, .shut] (d_p142 fu O.len hN h) ?_
              intro os Q hos hQ
              conv => cbv
              refine ⟨(by (rw [hos]) <;> (subst hO; rfl)), ?_⟩
              intro r bs hq
              rw [hQ] at hq
              clear hos hQ h
              obtain ⟨y15, _, _, ⟨rfl, rfl⟩, h⟩ := hq
              conv => cbv
              refine ⟨agree_of hO (Nat.le_of_ble_eq_true rfl) rfl, ?_⟩
              refine call_h hO [.shut, .shut, .shut] (ih_p131 O.len hN h) ?_
              intro os Q hos hQ
              conv => cbv
              refine ⟨(by (rw [hos]) <;> (subst hO; rfl)), ?_⟩
              intro r bs hq
              rw [hQ] at hq
              clear hos hQ h
              obtain ⟨y16, y17, y18, y19, y20, _, _, _, ⟨rfl, rfl⟩, h⟩ := hq
              conv => cbv
              refine ⟨agree_of hO (Nat.le_of_ble_eq_true rfl) rfl, ?_⟩
              refine ⟨agree_of hO (Nat.le_of_ble_eq_true rfl) rfl, ?_⟩
              refine view_h hO h (fun g => (by subst hO; exact g)) (fun h => ?_)
              conv => cbv
              refine ⟨(by subst hO; rfl), ?_⟩
              refine and_h h (fun g => (by subst hO; exact g)) (fun h => ?_)
              refine join_all hO ?_
              conv => cbv
              exact hLn1 n1 _ _ (Nat.lt_succ_self n1) ⟨(z8 ++ (List.take 1 [[(CV.v (.int .i64 y16)), (CV.v (.int .i64 y17)), (CV.v (.string y18)), (CV.sl 3 y19 none), (CV.sl 5 y20 none)]])), binStd .add .i64 z9 1, (.inr ⟨(by (conv => lhs; cbv) <;> (subst hO; rfl)), (by (conv => lhs; cbv) <;> (subst hO; rfl))⟩), h⟩
            · conv => cbv
              refine view_full hO ?_
              conv => cbv
              rw [hQ]
              exact ⟨y1, j7, y3, nilE, z8, _, _, _, ⟨(by subst hO; rfl), (by subst hO; rfl)⟩, h⟩
  · obtain ⟨y1, y2, y3, y4, y5, _, ⟨rfl, rfl, rfl⟩, h⟩ := hq
    conv => cbv
    refine reg_join hO tiA [1, 2, 3, 6, 7, 19] [4000, 7000, 8000, 11000] [] (fun tm m => ∃ (j6 : Bool), ((tm = frame 0 51 [(1, .c (.v (.int .i64 x5))), (2, .c (.v (.int .i64 x6))), (3, .p 4000 0 0), (6, .p 7000 0 0), (7, .p 8000 0 0), (19, .c (.v (.bool j6)))] ∧ m = ⟨[(4000, .blk 0 [.c (.v (.int .i64 x0)), .c (.v (.int .i64 x1)), .c (.v (.string x2)), .c (.sl 3 x3 none), .c (.sl 5 x4 none)]), (7000, .blk 0 [.c (.v (.int .i64 0)), .c (.v (.int .i64 0)), .c (.v (.string ⟨#[]⟩)), .c (.sl 3 [] (some [])), .c (.sl 5 [] (some []))]), (8000, .blk 0 [.c (.v (.int .i64 y1)), .c (.v (.int .i64 y2)), .c (.v (.string y3)), .t 11000 0 (O.len y4), .c (.sl 5 [] (some []))]), (11000, .arr 0 3 y4 none false)], 1⟩)) ∧ p131_3 False fu (p131 False fu) K0 x0 x1 x4 x5 x6 y1 y2 y3 y4 nilE j6) (fun L hL_3 => ?_) ?_
    · conv => cbv
      refine br_h hO h (by subst hO; rfl) (fun hc3 h => ?_) (fun hc3 h => ?_)
      · conv => cbv
        refine br_t hO hc3 ?_
        conv => cbv
        refine br_t hO hc3 ?_
        conv => cbv
        refine br_t hO hc3 ?_
        conv => cbv
        refine br_t hO hc3 ?_
        conv => cbv
        exact hL_3 _ _ ⟨(cmpStd .geq x1 x6), ⟨(by (conv => lhs; cbv) <;> (subst hO; rfl)), (by (conv => lhs; cbv) <;> (subst hO; rfl))⟩, h⟩
      · conv => cbv
        refine br_f hO hc3 ?_
        conv => cbv
        refine br_f hO hc3 ?_
        conv => cbv
        refine br_f hO hc3 ?_
        conv => cbv
        refine br_f hO hc3 ?_
        conv => cbv
        exact hL_3 _ _ ⟨false, ⟨(by (conv => lhs; cbv) <;> (subst hO; rfl)), (by (conv => lhs; cbv) <;> (subst hO; rfl))⟩, h⟩
    · rintro tm m ⟨j6, hs, h⟩
      unfold p131_3 at h
      obtain ⟨rfl, rfl⟩ := hs
      conv => cbv
      refine br_join_h hO tiA h (by subst hO; rfl) [1, 2, 3, 6, 7] [4000, 7000, 8000, 11000] [] (fun tm m => ∃ (j7 : Int), ((tm = frame 0 51 [(1, .c (.v (.int .i64 x5))), (2, .c (.v (.int .i64 x6))), (3, .p 4000 0 0), (6, .p 7000 0 0), (7, .p 8000 0 0)] ∧ m = ⟨[(4000, .blk 0 [.c (.v (.int .i64 x0)), .c (.v (.int .i64 x1)), .c (.v (.string x2)), .c (.sl 3 x3 none), .c (.sl 5 x4 none)]), (7000, .blk 0 [.c (.v (.int .i64 0)), .c (.v (.int .i64 0)), .c (.v (.string ⟨#[]⟩)), .c (.sl 3 [] (some [])), .c (.sl 5 [] (some []))]), (8000, .blk 0 [.c (.v (.int .i64 y1)), .c (.v (.int .i64 j7)), .c (.v (.string y3)), .t 11000 0 (O.len y4), .c (.sl 5 [] (some []))]), (11000, .arr 0 3 y4 none false)], 1⟩)) ∧ p131_2 False fu (p131 False fu) K0 x0 x4 x5 x6 y1 y3 y4 nilE j7) (fun hc2 h L hL_2 => ?_) (fun hc2 h L hL_2 => ?_) ?_
      · conv => cbv
        exact hL_2 _ _ ⟨binStd .add .i64 x1 x5, ⟨(by (conv => lhs; cbv) <;> (subst hO; rfl)), (by (conv => lhs; cbv) <;> (subst hO; rfl))⟩, h⟩
      · conv => cbv
        exact hL_2 _ _ ⟨y2, ⟨(by (conv => lhs; cbv) <;> (subst hO; rfl)), (by (conv => lhs; cbv) <;> (subst hO; rfl))⟩, h⟩
      · rintro tm m ⟨j7, hs, h⟩
        unfold p131_2 at h
        obtain ⟨rfl, rfl⟩ := hs
        conv => cbv
        refine loop_of hO tiA [1, 2, 3, 6, 7, 8] [4000, 7000, 8000, 11000, 49000] [] (fun (n : Nat) tm m => ∃ (z8 : EL) (z9 : Int), ((z8 = [] ∧ tm = frame 0 51 [(1, .c (.v (.int .i64 x5))), (2, .c (.v (.int .i64 x6))), (3, .p 4000 0 0), (6, .p 7000 0 0), (7, .p 8000 0 0), (8, .c (.v (.int .i64 z9)))] ∧ m = ⟨[(4000, .blk 0 [.c (.v (.int .i64 x0)), .c (.v (.int .i64 x1)), .c (.v (.string x2)), .c (.sl 3 x3 none), .c (.sl 5 x4 none)]), (7000, .blk 0 [.c (.v (.int .i64 0)), .c (.v (.int .i64 0)), .c (.v (.string ⟨#[]⟩)), .c (.sl 3 [] (some [])), .c (.sl 5 [] (some []))]), (8000, .blk 0 [.c (.v (.int .i64 y1)), .c (.v (.int .i64 j7)), .c (.v (.string y3)), .t 11000 0 (O.len y4), .c (.sl 5 [] (some []))]), (11000, .arr 0 3 y4 none false)], 1⟩) ∨ (tm = frame 0 51 [(1, .c (.v (.int .i64 x5))), (2, .c (.v (.int .i64 x6))), (3, .p 4000 0 0), (6, .p 7000 0 0), (7, .p 8000 0 0), (8, .c (.v (.int .i64 z9)))] ∧ m = ⟨[(4000, .blk 0 [.c (.v (.int .i64 x0)), .c (.v (.int .i64 x1)), .c (.v (.string x2)), .c (.sl 3 x3 none), .c (.sl 5 x4 none)]), (7000, .blk 0 [.c (.v (.int .i64 0)), .c (.v (.int .i64 0)), .c (.v (.string ⟨#[]⟩)), .c (.sl 3 [] (some [])), .c (.sl 5 [] (some []))]), (8000, .blk 0 [.c (.v (.int .i64 y1)), .c (.v (.int .i64 j7)), .c (.v (.string y3)), .t 11000 0 (O.len y4), .t 49000 0 (O.len z8)]), (11000, .arr 0 3 y4 none false), (49000, .arr 0 5 z8 none false)], 1⟩)) ∧ p131_1L False fu (p131 False fu) K0 x0 x4 x5 x6 y1 y3 y4 j7 n z8 z9) (fun n => n) fu ⟨nilE, 0, (.inl ⟨rfl, (by (conv => lhs; cbv) <;> (subst hO; rfl)), (by (conv => lhs; cbv) <;> (subst hO; rfl))⟩), h⟩ ?_
        rintro n1 tm m L ⟨z8, z9, hs, h⟩ hLn1
        cases n1 with
        | zero => rw [p131_1L] at h; exact h.elim
        | succ n1 =>
          rw [p131_1L] at h
          unfold p131_1 at h
          rcases hs with hs | hs
          · obtain ⟨rfl, rfl, rfl⟩ := hs
            conv => cbv
            refine br_h hO h (by subst hO; rfl) (fun hc1 h => ?_) (fun hc1 h => ?_)
            · conv => cbv
              refine join_all hO ?_
              conv => cbv
              refine drawn_of hO tiA [[], [], [], [], [], []] [(0, true, false), (1, true, false), (2, true, false), (3, true, false), (4, true, false), (5, true, false), (6, true, false), (7, true, false), (8, true, false), (9, true, false), (10, true, false), (11, true, false), (12, false, false), (13, true, false), (14, false, false), (15, false, false), (16, false, true), (17, true, true), (18, false, true)] (by kernel_rfl) ?_
              conv => cbv
              refine and_h h (fun g => (by subst hO; exact g)) (fun h => ?_)
              refine and_h h (fun g => (by subst hO; exact g)) (fun h => ?_)
              obtain ⟨c10, c11, c12, c13, c14, hr, h⟩ := rw_i64_i64_s_l3_l5_inv h
              refine elem_of hO _ (by subst hO; exact hr) ?_
              clear hr
              conv => cbv
              refine call_h hO [.shut, .shut] (d_p142 fu O.len hN h) ?_
              intro os Q hos hQ
              conv => cbv
              refine ⟨(by (rw [hos]) <;> (subst hO; rfl)), ?_⟩
              intro r bs hq
              rw [hQ] at hq
              clear hos hQ h
              obtain ⟨y15, _, _, ⟨rfl, rfl⟩, h⟩ := hq
              conv => cbv
              refine ⟨agree_of hO (Nat.le_of_ble_eq_true rfl) rfl, ?_⟩
              refine call_h hO [.shut, .shut, .shut] (ih_p131 O.len hN h) ?_
              intro os Q hos hQ
              conv => cbv
              refine ⟨(by (rw [hos]) <;> (subst hO; rfl)), ?_⟩
              intro r bs hq
              rw [hQ] at hq
              clear hos hQ h
              obtain ⟨y16, y17, y18, y19, y20, _, _, _, ⟨rfl, rfl⟩, h⟩ := hq
              conv => cbv
              refine ⟨agree_of hO (Nat.le_of_ble_eq_true rfl) rfl, ?_⟩
              refine ⟨agree_of hO (Nat.le_of_ble_eq_true rfl) rfl, ?_⟩
              refine view_h hO h (fun g => (by subst hO; exact g)) (fun h => ?_)
              conv => cbv
              refine and_h h (fun g => (by subst hO; exact g)) (fun h => ?_)
              refine emp_no hO (by subst hO; exact List.cons_ne_nil _ _) ?_
              conv => cbv
              refine join_all hO ?_
              conv => cbv
              exact hLn1 n1 _ _ (Nat.lt_succ_self n1) ⟨(nilE ++ (List.take 1 [[(CV.v (.int .i64 y16)), (CV.v (.int .i64 y17)), (CV.v (.string y18)), (CV.sl 3 y19 none), (CV.sl 5 y20 none)]])), binStd .add .i64 z9 1, (.inr ⟨(by (conv => lhs; cbv) <;> (subst hO; rfl)), (by (conv => lhs; cbv) <;> (subst hO; rfl))⟩), h⟩
            · conv => cbv
              refine view_full hO ?_
              conv => cbv
              rw [hQ]
              exact ⟨y1, j7, y3, y4, nilE, _, _, _, ⟨(by subst hO; rfl), (by subst hO; rfl)⟩, h⟩
          · obtain ⟨rfl, rfl⟩ := hs
            conv => cbv
            refine br_h hO h (by subst hO; rfl) (fun hc1 h => ?_) (fun hc1 h => ?_)
            · conv => cbv
              refine join_all hO ?_
              conv => cbv
              refine drawn_of hO tiA [[], [], [], [], [], []] [(0, true, false), (1, true, false), (2, true, false), (3, true, false), (4, true, false), (5, true, false), (6, true, false), (7, true, false), (8, true, false), (9, true, false), (10, true, false), (11, true, false), (12, false, false), (13, true, false), (14, false, false), (15, false, false), (16, false, true), (17, true, true), (18, false, true)] (by kernel_rfl) ?_
              conv => cbv
              refine and_h h (fun g => (by subst hO; exact g)) (fun h => ?_)
              refine and_h h (fun g => (by subst hO; exact g)) (fun h => ?_)
              obtain ⟨c10, c11, c12, c13, c14, hr, h⟩ := rw_i64_i64_s_l3_l5_inv h
              refine elem_of hO _ (by subst hO; exact hr) ?_
              clear hr
              conv => cbv
              refine call_h hO [.shut, .shut] (d_p142 fu O.len hN h) ?_
              intro os Q hos hQ
              conv => cbv
              refine ⟨(by (rw [hos]) <;> (subst hO; rfl)), ?_⟩
              intro r bs hq
              rw [hQ] at hq
              clear hos hQ h
              obtain ⟨y15, _, _, ⟨rfl, rfl⟩, h⟩ := hq
              conv => cbv
              refine ⟨agree_of hO (Nat.le_of_ble_eq_true rfl) rfl, ?_⟩
              refine call_h hO [.shut, .shut, .shut] (ih_p131 O.len hN h) ?_
              intro os Q hos hQ
              conv => cbv
              refine ⟨(by (rw [hos]) <;> (subst hO; rfl)), ?_⟩
              intro r bs hq
              rw [hQ] at hq
              clear hos hQ h
              obtain ⟨y16, y17, y18, y19, y20, _, _, _, ⟨rfl, rfl⟩, h⟩ := hq
              conv => cbv
              refine ⟨agree_of hO (Nat.le_of_ble_eq_true rfl) rfl, ?_⟩
              refine ⟨agree_of hO (Nat.le_of_ble_eq_true rfl) rfl, ?_⟩
              refine view_h hO h (fun g => (by subst hO; exact g)) (fun h => ?_)
              conv => cbv
              refine ⟨(by subst hO; rfl), ?_⟩
              refine and_h h (fun g => (by subst hO; exact g)) (fun h => ?_)
              refine join_all hO ?_
              conv => cbv
              exact hLn1 n1 _ _ (Nat.lt_succ_self n1) ⟨(z8 ++ (List.take 1 [[(CV.v (.int .i64 y16)), (CV.v (.int .i64 y17)), (CV.v (.string y18)), (CV.sl 3 y19 none), (CV.sl 5 y20 none)]])), binStd .add .i64 z9 1, (.inr ⟨(by (conv => lhs; cbv) <;> (subst hO; rfl)), (by (conv => lhs; cbv) <;> (subst hO; rfl))⟩), h⟩
            · conv => cbv
              refine view_full hO ?_
              conv => cbv
              refine view_full hO ?_
              conv => cbv
              rw [hQ]
              exact ⟨y1, j7, y3, y4, z8, _, _, _, ⟨(by subst hO; rfl), (by subst hO; rfl)⟩, h⟩
theorem dd_p131 (fu : Nat) : D_p131 fu := by
  induction fu with
  | zero => unfold D_p131; intros; rename_i h; rw [p131] at h; exact h.elim
  | succ n ih =>
    exact (by unfold D_p131; intro K0 L hN x0 x1 x2 x3 x4 x5 x6 h; exact b_p131 n ih L hN (by rw [p131] at h; exact h))
theorem d_p131 (fu : Nat) {K0 : Int → Int → ByteArray → EL → EL → Prop} (L : EL → Nat) (hL : L = List.length) {x0 : Int} {x1 : Int} {x2 : ByteArray} {x3 : EL} {x4 : EL} {x5 : Int} {x6 : Int} (h : p131 False fu K0 x0 x1 x2 x3 x4 x5 x6) : Den Try.prog G0 131 [.agg [.c (.v (.int .i64 x0)), .c (.v (.int .i64 x1)), .c (.v (.string x2)), .c (.sl 3 x3 none), .c (.sl 5 x4 none)], .c (.v (.int .i64 x5)), .c (.v (.int .i64 x6))] (fun r bs => (∃ (y0 : Int) (y1 : Int) (y2 : ByteArray) (y3 : EL) (y4 : EL) (o0 : OV) (o1 : OV) (o2 : OV), (r = .agg [.c (.v (.int .i64 y0)), .c (.v (.int .i64 y1)), .c (.v (.string y2)), .c (.sl 3 y3 none), .c (.sl 5 y4 none)] ∧ bs = [o0, o1, o2]) ∧ K0 y0 y1 y2 y3 y4)) := dd_p131 fu L hL h
end Go.Proofs.Ythncmjlcmlmnmaa

namespace Go.Proofs.Ythncmjlcmlmnmaa
open Go V
set_option maxRecDepth 100000
set_option maxHeartbeats 4000000
/-- ref5.Copy -/
def p100 {ρ : Type} (fail : ρ) (fu : Nat)  (K0 : Int → Int → ByteArray → EL → EL → ρ) (x0 : Int) (x1 : Int) (x2 : ByteArray) (x3 : EL) (x4 : EL) : ρ :=
  p131 fail fu (fun y1 y2 y3 y4 y5 => K0 y1 y2 y3 y4 y5) x0 x1 x2 x3 x4 0 0
theorem d_p100 (fu : Nat)  {K0 : Int → Int → ByteArray → EL → EL → Prop} (L : EL → Nat) (hN : L = List.length) {x0 : Int} {x1 : Int} {x2 : ByteArray} {x3 : EL} {x4 : EL} (h : p100 False fu K0 x0 x1 x2 x3 x4) : Den Try.prog G0 100 [.agg [.c (.v (.int .i64 x0)), .c (.v (.int .i64 x1)), .c (.v (.string x2)), .c (.sl 3 x3 none), .c (.sl 5 x4 none)]] (fun r bs => (∃ (y0 : Int) (y1 : Int) (y2 : ByteArray) (y3 : EL) (y4 : EL) (o0 : OV), (r = .agg [.c (.v (.int .i64 y0)), .c (.v (.int .i64 y1)), .c (.v (.string y2)), .c (.sl 3 y3 none), .c (.sl 5 y4 none)] ∧ bs = [o0]) ∧ K0 y0 y1 y2 y3 y4)) := by
  obtain ⟨O, hO⟩ : ∃ O, O = std 0 T G0 (Den Try.prog G0) := ⟨_, rfl⟩
  have hLO : L = O.len := by rw [hN, hO]; rfl
  subst hLO
  refine den_h hO tiA mixed tabOk (fn := Try.f100) (sh := true) (by kernel_rfl) rfl rfl rfl rfl ?_
  intro Q hQ
  unfold p100 at h
  conv => cbv
  refine call_h hO [.shut, .shut, .shut] (d_p131 fu O.len hN h) ?_
  intro os Q hos hQ
  conv => cbv
  refine ⟨(by (rw [hos]) <;> (subst hO; rfl)), ?_⟩
  intro r bs hq
  rw [hQ] at hq
  clear hos hQ h
  obtain ⟨y1, y2, y3, y4, y5, _, _, _, ⟨rfl, rfl⟩, h⟩ := hq
  conv => cbv
  rw [hQ]
  exact ⟨y1, y2, y3, y4, y5, _, ⟨(by subst hO; rfl), (by subst hO; rfl)⟩, h⟩
end Go.Proofs.Ythncmjlcmlmnmaa

namespace Go.Proofs.Ythncmjlcmlmnmaa
open Go V
set_option maxRecDepth 100000
set_option maxHeartbeats 4000000
/-- ref5.Pi -/
def p48 {ρ : Type} (fail : ρ) (fu : Nat)  (K0 : Int → Int → ByteArray → EL → EL → ρ) (x0 : Int) (x1 : Int) (x2 : ByteArray) (x3 : EL) (x4 : EL) (x5 : Int) (x6 : Int) (x7 : ByteArray) (x8 : EL) (x9 : EL) : ρ :=
  p100 fail fu (fun y1 y2 y3 y4 y5 => gd (2 ≤ [[(CV.v (.int .i64 y1)), (CV.v (.int .i64 y2)), (CV.v (.string y3)), (CV.sl 3 y4 none), (CV.sl 5 y5 none)], [(CV.v (.int .i64 x5)), (CV.v (.int .i64 x6)), (CV.v (.string x7)), (CV.sl 3 x8 none), (CV.sl 5 x9 none)]].length) fail (K0 5 0 ⟨#[]⟩ nilE (List.take 2 [[(CV.v (.int .i64 y1)), (CV.v (.int .i64 y2)), (CV.v (.string y3)), (CV.sl 3 y4 none), (CV.sl 5 y5 none)], [(CV.v (.int .i64 x5)), (CV.v (.int .i64 x6)), (CV.v (.string x7)), (CV.sl 3 x8 none), (CV.sl 5 x9 none)]]))) x0 x1 x2 x3 x4
theorem d_p48 (fu : Nat)  {K0 : Int → Int → ByteArray → EL → EL → Prop} (L : EL → Nat) (hN : L = List.length) {x0 : Int} {x1 : Int} {x2 : ByteArray} {x3 : EL} {x4 : EL} {x5 : Int} {x6 : Int} {x7 : ByteArray} {x8 : EL} {x9 : EL} (h : p48 False fu K0 x0 x1 x2 x3 x4 x5 x6 x7 x8 x9) : Den Try.prog G0 48 [.agg [.c (.v (.int .i64 x0)), .c (.v (.int .i64 x1)), .c (.v (.string x2)), .c (.sl 3 x3 none), .c (.sl 5 x4 none)], .agg [.c (.v (.int .i64 x5)), .c (.v (.int .i64 x6)), .c (.v (.string x7)), .c (.sl 3 x8 none), .c (.sl 5 x9 none)]] (fun r bs => (∃ (y0 : Int) (y1 : Int) (y2 : ByteArray) (y3 : EL) (y4 : EL) (o0 : OV) (o1 : OV), (r = .agg [.c (.v (.int .i64 y0)), .c (.v (.int .i64 y1)), .c (.v (.string y2)), .c (.sl 3 y3 none), .c (.sl 5 y4 none)] ∧ bs = [o0, o1]) ∧ K0 y0 y1 y2 y3 y4)) := by
  obtain ⟨O, hO⟩ : ∃ O, O = std 0 T G0 (Den Try.prog G0) := ⟨_, rfl⟩
  have hLO : L = O.len := by rw [hN, hO]; rfl
  subst hLO
  refine den_h hO tiA mixed tabOk (fn := Try.f48) (sh := true) (by kernel_rfl) rfl rfl rfl rfl ?_
  intro Q hQ
  unfold p48 at h
  conv => cbv
  refine drawn_of hO tiA [[], [], [], []] [(0, true, false), (2, true, false), (1, false, false), (3, false, true), (4, true, true), (5, false, true)] (by kernel_rfl) ?_
  conv => cbv
  refine call_h hO [.shut] (d_p100 fu O.len hN h) ?_
  intro os Q hos hQ
  conv => cbv
  refine ⟨(by (rw [hos]) <;> (subst hO; rfl)), ?_⟩
  intro r bs hq
  rw [hQ] at hq
  clear hos hQ h
  obtain ⟨y1, y2, y3, y4, y5, _, ⟨rfl, rfl⟩, h⟩ := hq
  conv => cbv
  refine ⟨agree_of hO (Nat.le_of_ble_eq_true rfl) rfl, ?_⟩
  refine join_all hO ?_
  conv => cbv
  refine view_h hO h (fun g => (by subst hO; exact g)) (fun h => ?_)
  conv => cbv
  rw [hQ]
  exact ⟨5, 0, ⟨#[]⟩, nilE, List.take 2 [[(CV.v (.int .i64 y1)), (CV.v (.int .i64 y2)), (CV.v (.string y3)), (CV.sl 3 y4 none), (CV.sl 5 y5 none)], [(CV.v (.int .i64 x5)), (CV.v (.int .i64 x6)), (CV.v (.string x7)), (CV.sl 3 x8 none), (CV.sl 5 x9 none)]], _, _, ⟨(by subst hO; rfl), (by subst hO; rfl)⟩, h⟩
end Go.Proofs.Ythncmjlcmlmnmaa

namespace Go.Proofs.Ythncmjlcmlmnmaa
open Go V
set_option maxRecDepth 100000
set_option maxHeartbeats 4000000
def p13_1 {ρ : Type} (fail : ρ) (fu : Nat)  (K0 : Bool → ρ)   (j27 : Bool) : ρ :=
  K0 j27
/-- law6.begun -/
def p13 {ρ : Type} (fail : ρ) (fu : Nat)  (K0 : Bool → ρ)  : ρ :=
  p50 fail fu (fun y1 y2 y3 => p49 fail fu (fun y4 y5 y6 y7 y8 => p51 fail fu (fun y9 y10 y11 y12 y13 => p48 fail fu (fun y14 y15 y16 y17 y18 => p17 fail fu (fun y19 => gd (1 ≤ [[(CV.v (.int .u8 9))]].length) fail (gd ((y19.length + (List.take 1 [[(CV.v (.int .u8 9))]]).length) * 1 ≤ 35184372088832) fail (p18 fail fu (fun y20 y21 y22 y23 y24 y25 y26 => tobP fail y19 (fun s28 => bif (scmpStd .eql s28 ⟨#[5, 1, 0, 0, 0]⟩) then (bif (cmpStd .eql y26 0) then (bif (cmpStd .eql y25 5) then (p19 fail fu (fun y29 => bif y29 then (p26 fail fu (fun y30 => p13_1 fail fu  K0  (cmpStd .eql ((y30.length : Nat) : Int) 1)) nilE 0 0 nilE) else (p13_1 fail fu  K0  false)) y14 y15 y16 y17 y18 y20 y21 y22 y23 y24) else (p13_1 fail fu  K0  false)) else (p13_1 fail fu  K0  false)) else (p13_1 fail fu  K0  false))) (y19 ++ (List.take 1 [[(CV.v (.int .u8 9))]]))))) nilE y14 y15 y16 y17 y18) y4 y5 y6 y7 y8 y9 y10 y11 y12 y13) 0) y1 y2 y3) 
theorem d_p13 (fu : Nat)  {K0 : Bool → Prop} (L : EL → Nat) (hN : L = List.length)  (h : p13 False fu K0 ) : Den Try.prog G0 13 [] (fun r bs => (∃ (y0 : Bool), (r = .c (.v (.bool y0)) ∧ bs = []) ∧ K0 y0)) := by
  obtain ⟨O, hO⟩ : ∃ O, O = std 0 T G0 (Den Try.prog G0) := ⟨_, rfl⟩
  have hLO : L = O.len := by rw [hN, hO]; rfl
  subst hLO
  refine den_h hO tiA mixed tabOk (fn := Try.f13) (sh := true) (by kernel_rfl) rfl rfl rfl rfl ?_
  intro Q hQ
  unfold p13 at h
  conv => cbv
  refine call_h hO [] (d_p50 fu O.len hN h) ?_
  intro os Q hos hQ
  conv => cbv
  refine ⟨(by (rw [hos]) <;> (subst hO; rfl)), ?_⟩
  intro r bs hq
  rw [hQ] at hq
  clear hos hQ h
  obtain ⟨y1, y2, y3, ⟨rfl, rfl⟩, h⟩ := hq
  conv => cbv
  refine call_h hO [.shut] (d_p49 fu O.len hN h) ?_
  intro os Q hos hQ
  conv => cbv
  refine ⟨(by (rw [hos]) <;> (subst hO; rfl)), ?_⟩
  intro r bs hq
  rw [hQ] at hq
  clear hos hQ h
  obtain ⟨y4, y5, y6, y7, y8, _, ⟨rfl, rfl⟩, h⟩ := hq
  conv => cbv
  refine call_h hO [.shut] (d_p51 fu O.len hN h) ?_
  intro os Q hos hQ
  conv => cbv
  refine ⟨(by (rw [hos]) <;> (subst hO; rfl)), ?_⟩
  intro r bs hq
  rw [hQ] at hq
  clear hos hQ h
  obtain ⟨y9, y10, y11, y12, y13, _, ⟨rfl, rfl⟩, h⟩ := hq
  conv => cbv
  refine call_h hO [.shut, .shut] (d_p48 fu O.len hN h) ?_
  intro os Q hos hQ
  conv => cbv
  refine ⟨(by (rw [hos]) <;> (subst hO; rfl)), ?_⟩
  intro r bs hq
  rw [hQ] at hq
  clear hos hQ h
  obtain ⟨y14, y15, y16, y17, y18, _, _, ⟨rfl, rfl⟩, h⟩ := hq
  conv => cbv
  refine call_h hO [.shut, .shut] (d_p17 fu O.len hN h) ?_
  intro os Q hos hQ
  conv => cbv
  refine ⟨(by (rw [hos]) <;> (subst hO; rfl)), ?_⟩
  intro r bs hq
  rw [hQ] at hq
  clear hos hQ h
  obtain ⟨y19, _, _, ⟨rfl, rfl⟩, h⟩ := hq
  conv => cbv
  refine alt_r hO ?_
  conv => cbv
  refine view_full hO ?_
  conv => cbv
  refine view_h hO h (fun g => (by subst hO; exact g)) (fun h => ?_)
  conv => cbv
  refine ⟨(by subst hO; rfl), ?_⟩
  refine and_h h (fun g => (by subst hO; exact g)) (fun h => ?_)
  refine call_h hO [.shut] (d_p18 fu O.len hN h) ?_
  intro os Q hos hQ
  conv => cbv
  refine view_full hO ?_
  conv => cbv
  refine ⟨(by (rw [hos]) <;> (subst hO; rfl)), ?_⟩
  intro r bs hq
  rw [hQ] at hq
  clear hos hQ h
  obtain ⟨y20, y21, y22, y23, y24, y25, y26, _, ⟨rfl, rfl⟩, h⟩ := hq
  conv => cbv
  refine reg_join hO tiA [0] [] [] (fun tm m => ∃ (j27 : Bool), ((tm = frame 0 42 [(0, .c (.v (.bool j27)))] ∧ m = ⟨[], 1⟩)) ∧ p13_1 False fu  K0  j27) (fun L hL_1 => ?_) ?_
  · conv => cbv
    refine tob_h hO h (by subst hO; rfl) (fun s28 h => ?_)
    conv => cbv
    refine br_h hO h (by subst hO; rfl) (fun hc1 h => ?_) (fun hc1 h => ?_)
    · conv => cbv
      refine br_t hO hc1 ?_
      conv => cbv
      refine br_t hO hc1 ?_
      conv => cbv
      refine br_h hO h (by subst hO; rfl) (fun hc2 h => ?_) (fun hc2 h => ?_)
      · conv => cbv
        refine br_t hO hc2 ?_
        conv => cbv
        refine br_t hO hc2 ?_
        conv => cbv
        refine br_h hO h (by subst hO; rfl) (fun hc3 h => ?_) (fun hc3 h => ?_)
        · conv => cbv
          refine br_t hO hc3 ?_
          conv => cbv
          refine br_t hO hc3 ?_
          conv => cbv
          refine call_h hO [.shut, .shut] (d_p19 fu O.len hN h) ?_
          intro os Q hos hQ
          conv => cbv
          refine ⟨(by (rw [hos]) <;> (subst hO; rfl)), ?_⟩
          intro r bs hq
          rw [hQ] at hq
          clear hos hQ h
          obtain ⟨y29, _, _, ⟨rfl, rfl⟩, h⟩ := hq
          conv => cbv
          refine br_t hO hc3 ?_
          conv => cbv
          refine br_h hO h (by subst hO; rfl) (fun hc4 h => ?_) (fun hc4 h => ?_)
          · conv => cbv
            refine br_t hO hc4 ?_
            conv => cbv
            refine call_h hO [.shut, .shut] (d_p26 fu O.len hN h) ?_
            intro os Q hos hQ
            conv => cbv
            refine ⟨(by (rw [hos]) <;> (subst hO; rfl)), ?_⟩
            intro r bs hq
            rw [hQ] at hq
            clear hos hQ h
            obtain ⟨y30, _, _, ⟨rfl, rfl⟩, h⟩ := hq
            conv => cbv
            refine br_t hO hc4 ?_
            conv => cbv
            refine br_t hO hc4 ?_
            conv => cbv
            refine br_t hO hc4 ?_
            conv => cbv
            exact hL_1 _ _ ⟨(cmpStd .eql ((y30.length : Nat) : Int) 1), ⟨(by (conv => lhs; cbv) <;> (subst hO; rfl)), (by (conv => lhs; cbv) <;> (subst hO; rfl))⟩, h⟩
          · conv => cbv
            refine br_f hO hc4 ?_
            conv => cbv
            refine br_f hO hc4 ?_
            conv => cbv
            refine br_f hO hc4 ?_
            conv => cbv
            refine br_f hO hc4 ?_
            conv => cbv
            exact hL_1 _ _ ⟨false, ⟨(by (conv => lhs; cbv) <;> (subst hO; rfl)), (by (conv => lhs; cbv) <;> (subst hO; rfl))⟩, h⟩
        · conv => cbv
          refine br_f hO hc3 ?_
          conv => cbv
          refine br_f hO hc3 ?_
          conv => cbv
          refine br_f hO hc3 ?_
          conv => cbv
          refine br_f hO rfl ?_
          conv => cbv
          refine br_f hO rfl ?_
          conv => cbv
          refine br_f hO rfl ?_
          conv => cbv
          refine br_f hO rfl ?_
          conv => cbv
          refine br_f hO rfl ?_
          conv => cbv
          exact hL_1 _ _ ⟨false, ⟨(by (conv => lhs; cbv) <;> (subst hO; rfl)), (by (conv => lhs; cbv) <;> (subst hO; rfl))⟩, h⟩
      · conv => cbv
        refine br_f hO hc2 ?_
        conv => cbv
        refine br_f hO hc2 ?_
        conv => cbv
        refine br_f hO rfl ?_
        conv => cbv
        refine br_f hO rfl ?_
        conv => cbv
        refine br_f hO rfl ?_
        conv => cbv
        refine br_f hO rfl ?_
        conv => cbv
        refine br_f hO rfl ?_
        conv => cbv
        refine br_f hO rfl ?_
        conv => cbv
        refine br_f hO rfl ?_
        conv => cbv
        refine br_f hO rfl ?_
        conv => cbv
        refine br_f hO rfl ?_
        conv => cbv
        exact hL_1 _ _ ⟨false, ⟨(by (conv => lhs; cbv) <;> (subst hO; rfl)), (by (conv => lhs; cbv) <;> (subst hO; rfl))⟩, h⟩
    · conv => cbv
      refine br_f hO hc1 ?_
      conv => cbv
      refine br_f hO hc1 ?_
      conv => cbv
      refine br_f hO rfl ?_
      conv => cbv
      refine br_f hO rfl ?_
      conv => cbv
      refine br_f hO rfl ?_
      conv => cbv
      refine br_f hO rfl ?_
      conv => cbv
      refine br_f hO rfl ?_
      conv => cbv
      refine br_f hO rfl ?_
      conv => cbv
      refine br_f hO rfl ?_
      conv => cbv
      refine br_f hO rfl ?_
      conv => cbv
      refine br_f hO rfl ?_
      conv => cbv
      refine br_f hO rfl ?_
      conv => cbv
      refine br_f hO rfl ?_
      conv => cbv
      refine br_f hO rfl ?_
      conv => cbv
      exact hL_1 _ _ ⟨false, ⟨(by (conv => lhs; cbv) <;> (subst hO; rfl)), (by (conv => lhs; cbv) <;> (subst hO; rfl))⟩, h⟩
  · rintro tm m ⟨j27, hs, h⟩
    unfold p13_1 at h
    obtain ⟨rfl, rfl⟩ := hs
    conv => cbv
    rw [hQ]
    exact ⟨j27, ⟨(by subst hO; rfl), (by subst hO; rfl)⟩, h⟩
end Go.Proofs.Ythncmjlcmlmnmaa

namespace Go.Proofs.Ythncmjlcmlmnmaa
open Go V
set_option maxRecDepth 100000
set_option maxHeartbeats 4000000
/-- ref6.TakeLevel -/
def p33 {ρ : Type} (fail : ρ) (fu : Nat)  (K0 : Int → Int → EL → Int → Int → ρ) (x0 : EL) : ρ :=
  p74 fail fu (fun y1 y2 y3 y4 y5 y6 => bif (cmpStd .neq y6 0) then (K0 0 0 nilE 0 y6) else (K0 y1 y2 y3 y5 0)) x0 0 0
theorem d_p33 (fu : Nat)  {K0 : Int → Int → EL → Int → Int → Prop} (L : EL → Nat) (hN : L = List.length) {x0 : EL} (h : p33 False fu K0 x0) : Den Try.prog G0 33 [.c (.sl 1 x0 none)] (fun r bs => (∃ (y0 : Int) (y1 : Int) (y2 : EL) (y3 : Int) (y4 : Int) (o0 : OV), (r = .tup [.agg [.c (.v (.int .i64 y0)), .c (.v (.int .i64 y1)), .c (.sl 3 y2 none)], .c (.v (.int .i64 y3)), .c (.v (.int .i64 y4))] ∧ bs = [o0]) ∧ K0 y0 y1 y2 y3 y4)) := by
  obtain ⟨O, hO⟩ : ∃ O, O = std 0 T G0 (Den Try.prog G0) := ⟨_, rfl⟩
  have hLO : L = O.len := by rw [hN, hO]; rfl
  subst hLO
  refine den_h hO tiA mixed tabOk (fn := Try.f33) (sh := true) (by kernel_rfl) rfl rfl rfl rfl ?_
  intro Q hQ
  unfold p33 at h
  conv => cbv
  refine call_h hO [.ref 3] (d_p74 fu O.len hN h) ?_
  intro os Q hos hQ
  conv => cbv
  refine ⟨(by (rw [hos]) <;> (subst hO; rfl)), ?_⟩
  intro r bs hq
  rw [hQ] at hq
  clear hos hQ h
  obtain ⟨y1, y2, y3, y4, y5, y6, ⟨rfl, rfl⟩, h⟩ := hq
  conv => cbv
  refine br_h hO h (by subst hO; rfl) (fun hc1 h => ?_) (fun hc1 h => ?_)
  · conv => cbv
    refine drawn_of hO tiA [[], []] [(0, true, false), (1, true, false), (2, true, false), (3, true, false), (4, true, false), (5, false, false), (6, true, false), (7, true, true)] (by kernel_rfl) ?_
    conv => cbv
    refine ⟨agree_of hO (Nat.le_of_ble_eq_true rfl) rfl, ?_⟩
    refine join_all hO ?_
    conv => cbv
    rw [hQ]
    exact ⟨0, 0, nilE, 0, y6, _, ⟨(by subst hO; rfl), (by subst hO; rfl)⟩, h⟩
  · conv => cbv
    refine join_all hO ?_
    conv => cbv
    refine drawn_of hO tiA [[3000], []] [(0, true, false), (1, true, false), (2, true, false), (3, true, false), (4, true, false), (5, false, false), (6, true, true), (7, true, true)] (by kernel_rfl) ?_
    conv => cbv
    refine ⟨agree_of hO (Nat.le_of_ble_eq_true rfl) rfl, ?_⟩
    refine join_all hO ?_
    conv => cbv
    rw [hQ]
    exact ⟨y1, y2, y3, y5, 0, _, ⟨(by subst hO; rfl), (by subst hO; rfl)⟩, h⟩
end Go.Proofs.Ythncmjlcmlmnmaa

namespace Go.Proofs.Ythncmjlcmlmnmaa
open Go V
set_option maxRecDepth 100000
set_option maxHeartbeats 4000000
/-- ref6.TakeTerm -/
def p34 {ρ : Type} (fail : ρ) (fu : Nat)  (K0 : Int → Int → ByteArray → EL → EL → Int → Int → ρ) (x0 : EL) : ρ :=
  p75 fail fu (fun y1 y2 y3 y4 y5 y6 y7 y8 => bif (cmpStd .neq y8 0) then (K0 0 0 ⟨#[]⟩ nilE nilE 0 y8) else (K0 y1 y2 y3 y4 y5 y7 0)) x0 0 0
theorem d_p34 (fu : Nat)  {K0 : Int → Int → ByteArray → EL → EL → Int → Int → Prop} (L : EL → Nat) (hN : L = List.length) {x0 : EL} (h : p34 False fu K0 x0) : Den Try.prog G0 34 [.c (.sl 1 x0 none)] (fun r bs => (∃ (y0 : Int) (y1 : Int) (y2 : ByteArray) (y3 : EL) (y4 : EL) (y5 : Int) (y6 : Int) (o0 : OV), (r = .tup [.agg [.c (.v (.int .i64 y0)), .c (.v (.int .i64 y1)), .c (.v (.string y2)), .c (.sl 3 y3 none), .c (.sl 5 y4 none)], .c (.v (.int .i64 y5)), .c (.v (.int .i64 y6))] ∧ bs = [o0]) ∧ K0 y0 y1 y2 y3 y4 y5 y6)) := by
  obtain ⟨O, hO⟩ : ∃ O, O = std 0 T G0 (Den Try.prog G0) := ⟨_, rfl⟩
  have hLO : L = O.len := by rw [hN, hO]; rfl
  subst hLO
  refine den_h hO tiA mixed tabOk (fn := Try.f34) (sh := true) (by kernel_rfl) rfl rfl rfl rfl ?_
  intro Q hQ
  unfold p34 at h
  conv => cbv
  refine call_h hO [.ref 3] (d_p75 fu O.len hN h) ?_
  intro os Q hos hQ
  conv => cbv
  refine ⟨(by (rw [hos]) <;> (subst hO; rfl)), ?_⟩
  intro r bs hq
  rw [hQ] at hq
  clear hos hQ h
  obtain ⟨y1, y2, y3, y4, y5, y6, y7, y8, ⟨rfl, rfl⟩, h⟩ := hq
  conv => cbv
  refine br_h hO h (by subst hO; rfl) (fun hc1 h => ?_) (fun hc1 h => ?_)
  · conv => cbv
    refine drawn_of hO tiA [[], []] [(0, true, false), (1, true, false), (2, true, false), (3, true, false), (4, true, false), (5, false, false), (6, true, false), (7, true, true)] (by kernel_rfl) ?_
    conv => cbv
    refine ⟨agree_of hO (Nat.le_of_ble_eq_true rfl) rfl, ?_⟩
    refine join_all hO ?_
    conv => cbv
    rw [hQ]
    exact ⟨0, 0, ⟨#[]⟩, nilE, nilE, 0, y8, _, ⟨(by subst hO; rfl), (by subst hO; rfl)⟩, h⟩
  · conv => cbv
    refine join_all hO ?_
    conv => cbv
    refine drawn_of hO tiA [[3000], []] [(0, true, false), (1, true, false), (2, true, false), (3, true, false), (4, true, false), (5, false, false), (6, true, true), (7, true, true)] (by kernel_rfl) ?_
    conv => cbv
    refine ⟨agree_of hO (Nat.le_of_ble_eq_true rfl) rfl, ?_⟩
    refine join_all hO ?_
    conv => cbv
    rw [hQ]
    exact ⟨y1, y2, y3, y4, y5, y7, 0, _, ⟨(by subst hO; rfl), (by subst hO; rfl)⟩, h⟩
end Go.Proofs.Ythncmjlcmlmnmaa

