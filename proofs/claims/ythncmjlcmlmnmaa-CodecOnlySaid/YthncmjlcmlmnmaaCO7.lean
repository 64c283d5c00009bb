/- Functions without memory, and that the Go functions are followed by them. Printed by gen.py. Conditions: none. -/
import Derived.Test.YthncmjlcmlmnmaaG
import Derived.Test.YthncmjlcmlmnmaaPR
import Derived.Test.YthncmjlcmlmnmaaCO6
import Derived.Test.YthncmjlcmlmnmaaCO3
import Derived.Test.YthncmjlcmlmnmaaCO4
import Derived.Test.YthncmjlcmlmnmaaCO5
namespace Go.Proofs.Ythncmjlcmlmnmaa
open Go V
set_option maxRecDepth 100000
set_option maxHeartbeats 4000000
/-- codec.TakeDecl -/
def p35 {ρ : Type} (fail : ρ) (fu : Nat)  (K0 : Int → Int → Int → ByteArray → ByteArray → Int → Int → ByteArray → EL → EL → Int → Int → ByteArray → EL → EL → EL → Int → Int → ρ) (x0 : EL) : ρ :=
  p76 fail fu (fun y1 y2 y3 y4 y5 y6 y7 y8 y9 y10 y11 y12 y13 y14 y15 y16 y17 y18 => p66 fail fu (fun y19 y20 y21 y22 => bif (cmpStd .neq y20 0) then (K0 0 0 0 ⟨#[]⟩ ⟨#[]⟩ 0 0 ⟨#[]⟩ nilE nilE 0 0 ⟨#[]⟩ nilE nilE nilE 0 y20) else (K0 y1 y2 y3 y4 y5 y6 y7 y8 y9 y10 y11 y12 y13 y14 y15 y16 y19 0)) y17 y18 x0) x0 0
theorem d_p35 (fu : Nat)  {K0 : Int → Int → Int → ByteArray → ByteArray → Int → Int → ByteArray → EL → EL → Int → Int → ByteArray → EL → EL → EL → Int → Int → Prop} (L : EL → Nat) (hN : L = List.length) {x0 : EL} (h : p35 False fu K0 x0) : Den Try.prog G0 35 [.c (.sl 1 x0 none)] (fun r bs => (∃ (y0 : Int) (y1 : Int) (y2 : Int) (y3 : ByteArray) (y4 : ByteArray) (y5 : Int) (y6 : Int) (y7 : ByteArray) (y8 : EL) (y9 : EL) (y10 : Int) (y11 : Int) (y12 : ByteArray) (y13 : EL) (y14 : EL) (y15 : EL) (y16 : Int) (y17 : Int) (o0 : OV), (r = .tup [.agg [.c (.v (.int .i64 y0)), .c (.v (.int .i64 y1)), .c (.v (.int .i64 y2)), .c (.v (.string y3)), .c (.v (.string y4)), .c (.v (.int .i64 y5)), .c (.v (.int .i64 y6)), .c (.v (.string y7)), .c (.sl 3 y8 none), .c (.sl 5 y9 none), .c (.v (.int .i64 y10)), .c (.v (.int .i64 y11)), .c (.v (.string y12)), .c (.sl 3 y13 none), .c (.sl 5 y14 none), .c (.sl 6 y15 none)], .c (.v (.int .i64 y16)), .c (.v (.int .i64 y17))] ∧ bs = [o0]) ∧ K0 y0 y1 y2 y3 y4 y5 y6 y7 y8 y9 y10 y11 y12 y13 y14 y15 y16 y17)) := by
  obtain ⟨O, hO⟩ : ∃ O, O = std 0 T G0 (Den Try.prog G0) := ⟨_, rfl⟩
  have hLO : L = O.len := by rw [hN, hO]; rfl
  subst hLO
  refine den_h hO tiA mixed tabOk (fn := Try.f35) (sh := true) (by kernel_rfl) rfl rfl rfl rfl ?_
  intro Q hQ
  unfold p35 at h
  conv => cbv
  refine call_h hO [.ref 2] (d_p76 fu O.len hN h) ?_
  intro os Q hos hQ
  conv => cbv
  refine ⟨(by (rw [hos]) <;> (subst hO; rfl)), ?_⟩
  intro r bs hq
  rw [hQ] at hq
  clear hos hQ h
  obtain ⟨y1, y2, y3, y4, y5, y6, y7, y8, y9, y10, y11, y12, y13, y14, y15, y16, y17, y18, ⟨rfl, rfl⟩, h⟩ := hq
  conv => cbv
  refine call_h hO [.ref 2, .shut] (d_p66 fu O.len hN h) ?_
  intro os Q hos hQ
  conv => cbv
  refine ⟨(by (rw [hos]) <;> (subst hO; rfl)), ?_⟩
  intro r bs hq
  rw [hQ] at hq
  clear hos hQ h
  obtain ⟨y19, y20, y21, y22, _, ⟨rfl, rfl⟩, h⟩ := hq
  conv => cbv
  refine br_h hO h (by subst hO; rfl) (fun hc1 h => ?_) (fun hc1 h => ?_)
  · conv => cbv
    rw [hQ]
    exact ⟨0, 0, 0, ⟨#[]⟩, ⟨#[]⟩, 0, 0, ⟨#[]⟩, nilE, nilE, 0, 0, ⟨#[]⟩, nilE, nilE, nilE, 0, y20, _, ⟨(by subst hO; rfl), (by subst hO; rfl)⟩, h⟩
  · conv => cbv
    refine join_all hO ?_
    conv => cbv
    rw [hQ]
    exact ⟨y1, y2, y3, y4, y5, y6, y7, y8, y9, y10, y11, y12, y13, y14, y15, y16, y19, 0, _, ⟨(by subst hO; rfl), (by subst hO; rfl)⟩, h⟩
end Go.Proofs.Ythncmjlcmlmnmaa

namespace Go.Proofs.Ythncmjlcmlmnmaa
open Go V
set_option maxRecDepth 100000
set_option maxHeartbeats 4000000
def p71_1 {ρ : Type} (fail : ρ) (fu : Nat)  (K0 : EL → ρ) (rec1 : EL → Int → Int → ρ) (x16 : EL) (z7 : EL) (z8 : Int) (z9 : Int) : ρ :=
  bif (cmpStd .lss z9 z8) then (gd ((0 : Int) ≤ z9) fail (gd ((z9 : Int) < (x16.length : Nat)) fail (rw_s_i64_i64_s_l3_l5 fail (List.getD x16 ((z9 : Int).toNat) []) (fun c10 c11 c12 c13 c14 c15 => gd (c10.size ≤ (encB c10.data.toList).length) fail (p87 fail fu (fun y16 => p64 fail fu (fun y17 => rec1 y17 z8 (binStd .add .i64 z9 1)) y16 c11 c12 c13 c14 c15) z7 (List.take c10.size (encB c10.data.toList))))))) else (K0 z7)
def p71_1L {ρ : Type} (fail : ρ) (fu : Nat)  (K0 : EL → ρ)  (x16 : EL) : Nat → EL → Int → Int → ρ
  | 0, _, _, _ => fail
  | n + 1, z7, z8, z9 => p71_1 fail fu  K0 (p71_1L fail fu  K0  x16 n) x16 z7 z8 z9
def p71_2 {ρ : Type} (fail : ρ) (fu : Nat)  (K0 : EL → ρ)  (x16 : EL) (j5 : EL) : ρ :=
  gd (1 ≤ [[(CV.v (.int .i64 ((x16.length : Nat) : Int)))]].length) fail (p83 fail fu (fun y6 => p71_1L fail fu  K0 x16 fu y6 ((x16.length : Nat) : Int) 0) j5 (List.take 1 [[(CV.v (.int .i64 ((x16.length : Nat) : Int)))]]))
/-- (*codec.Writer).Decl -/
def p71 {ρ : Type} (fail : ρ) (fu : Nat)  (K0 : EL → ρ) (x0 : EL) (x1 : Int) (x2 : Int) (x3 : Int) (x4 : ByteArray) (x5 : ByteArray) (x6 : Int) (x7 : Int) (x8 : ByteArray) (x9 : EL) (x10 : EL) (x11 : Int) (x12 : Int) (x13 : ByteArray) (x14 : EL) (x15 : EL) (x16 : EL) : ρ :=
  gd (3 ≤ [[(CV.v (.int .i64 x1))], [(CV.v (.int .i64 x2))], [(CV.v (.int .i64 x3))]].length) fail (p83 fail fu (fun y1 => gd (x4.size ≤ (encB x4.data.toList).length) fail (p87 fail fu (fun y2 => gd (x5.size ≤ (encB x5.data.toList).length) fail (p87 fail fu (fun y3 => p64 fail fu (fun y4 => bif (cmpStd .eql x1 2) then (gd (1 ≤ [[(CV.v (.int .i64 1))]].length) fail (p83 fail fu (fun y18 => p64 fail fu (fun y19 => p71_2 fail fu  K0 x16 y19) y18 x11 x12 x13 x14 x15) y4 (List.take 1 [[(CV.v (.int .i64 1))]]))) else (gd (1 ≤ [[(CV.v (.int .i64 0))]].length) fail (p83 fail fu (fun y20 => p71_2 fail fu  K0 x16 y20) y4 (List.take 1 [[(CV.v (.int .i64 0))]])))) y3 x6 x7 x8 x9 x10) y2 (List.take x5.size (encB x5.data.toList)))) y1 (List.take x4.size (encB x4.data.toList)))) x0 (List.take 3 [[(CV.v (.int .i64 x1))], [(CV.v (.int .i64 x2))], [(CV.v (.int .i64 x3))]]))
theorem d_p71 (fu : Nat)  {K0 : EL → Prop} (L : EL → Nat) (hN : L = List.length) {x0 : EL} {x1 : Int} {x2 : Int} {x3 : Int} {x4 : ByteArray} {x5 : ByteArray} {x6 : Int} {x7 : Int} {x8 : ByteArray} {x9 : EL} {x10 : EL} {x11 : Int} {x12 : Int} {x13 : ByteArray} {x14 : EL} {x15 : EL} {x16 : EL} (h : p71 False fu K0 x0 x1 x2 x3 x4 x5 x6 x7 x8 x9 x10 x11 x12 x13 x14 x15 x16) : Den Try.prog G0 71 [.ptr [.arr 1 x0 none false (L x0)], .agg [.c (.v (.int .i64 x1)), .c (.v (.int .i64 x2)), .c (.v (.int .i64 x3)), .c (.v (.string x4)), .c (.v (.string x5)), .c (.v (.int .i64 x6)), .c (.v (.int .i64 x7)), .c (.v (.string x8)), .c (.sl 3 x9 none), .c (.sl 5 x10 none), .c (.v (.int .i64 x11)), .c (.v (.int .i64 x12)), .c (.v (.string x13)), .c (.sl 3 x14 none), .c (.sl 5 x15 none), .c (.sl 6 x16 none)]] (fun r bs => (∃ (y0 : EL) (o1 : OV), (r = .tup [] ∧ bs = [.ptr [.arr 1 y0 none false (L y0)], o1]) ∧ K0 y0)) := by
  obtain ⟨O, hO⟩ : ∃ O, O = std 2 T G0 (Den Try.prog G0) := ⟨_, rfl⟩
  have hLO : L = O.len := by rw [hN, hO]; rfl
  subst hLO
  refine den_h hO tiA mixed tabOk (fn := Try.f71) (sh := true) (by kernel_rfl) rfl rfl rfl rfl ?_
  intro Q hQ
  unfold p71 at h
  conv => cbv
  obtain ⟨hc9, h⟩ := gd_inv h
  refine call_h hO [.ref 1, .shut] (d_p83 fu O.len hN h) ?_
  intro os Q hos hQ
  conv => cbv
  refine ⟨(by subst hO; exact Nat.le_refl _), ?_⟩
  refine view_of hO (by subst hO; exact hc9) ?_
  conv => cbv
  refine ⟨(by (rw [hos]) <;> (subst hO; rfl)), ?_⟩
  intro r bs hq
  rw [hQ] at hq
  clear hos hQ h
  obtain ⟨y1, _, ⟨rfl, rfl⟩, h⟩ := hq
  conv => cbv
  obtain ⟨hc8, h⟩ := gd_inv h
  refine call_h hO [.ref 1, .shut] (d_p87 fu O.len hN h) ?_
  intro os Q hos hQ
  conv => cbv
  refine ⟨(by subst hO; exact Nat.le_refl _), ?_⟩
  refine view_of hO (by subst hO; exact hc8) ?_
  conv => cbv
  refine ⟨(by (rw [hos]) <;> (subst hO; rfl)), ?_⟩
  intro r bs hq
  rw [hQ] at hq
  clear hos hQ h
  obtain ⟨y2, _, ⟨rfl, rfl⟩, h⟩ := hq
  conv => cbv
  obtain ⟨hc7, h⟩ := gd_inv h
  refine call_h hO [.ref 1, .shut] (d_p87 fu O.len hN h) ?_
  intro os Q hos hQ
  conv => cbv
  refine ⟨(by subst hO; exact Nat.le_refl _), ?_⟩
  refine view_of hO (by subst hO; exact hc7) ?_
  conv => cbv
  refine ⟨(by (rw [hos]) <;> (subst hO; rfl)), ?_⟩
  intro r bs hq
  rw [hQ] at hq
  clear hos hQ h
  obtain ⟨y3, _, ⟨rfl, rfl⟩, h⟩ := hq
  conv => cbv
  refine call_h hO [.ref 1, .shut] (d_p64 fu O.len hN h) ?_
  intro os Q hos hQ
  conv => cbv
  refine ⟨(by subst hO; exact Nat.le_refl _), ?_⟩
  refine ⟨(by (rw [hos]) <;> (subst hO; rfl)), ?_⟩
  intro r bs hq
  rw [hQ] at hq
  clear hos hQ h
  obtain ⟨y4, _, ⟨rfl, rfl⟩, h⟩ := hq
  conv => cbv
  refine br_join_h hO tiA h (by subst hO; rfl) [0, 3] [0, 4000, 1000000] [] (fun tm m => ∃ (j5 : EL), ((tm = frame 0 65 [(0, .p 0 1 0), (3, .p 4000 2 0)] ∧ m = ⟨[(0, .blk 1 [.t 1000000 2 (O.len j5)]), (4000, .blk 2 [.c (.v (.int .i64 x1)), .c (.v (.int .i64 x2)), .c (.v (.int .i64 x3)), .c (.v (.string x4)), .c (.v (.string x5)), .c (.v (.int .i64 x6)), .c (.v (.int .i64 x7)), .c (.v (.string x8)), .c (.sl 3 x9 none), .c (.sl 5 x10 none), .c (.v (.int .i64 x11)), .c (.v (.int .i64 x12)), .c (.v (.string x13)), .c (.sl 3 x14 none), .c (.sl 5 x15 none), .c (.sl 6 x16 none)]), (1000000, .arr 2 1 j5 none false)], 3⟩)) ∧ p71_2 False fu  K0 x16 j5) (fun hc4 h L hL_2 => ?_) (fun hc4 h L hL_2 => ?_) ?_
  · conv => cbv
    obtain ⟨hc5, h⟩ := gd_inv h
    refine call_h hO [.ref 1, .shut] (d_p83 fu O.len hN h) ?_
    intro os Q hos hQ
    conv => cbv
    refine ⟨(by subst hO; exact Nat.le_refl _), ?_⟩
    refine view_of hO (by subst hO; exact hc5) ?_
    conv => cbv
    refine ⟨(by (rw [hos]) <;> (subst hO; rfl)), ?_⟩
    intro r bs hq
    rw [hQ] at hq
    clear hos hQ h
    obtain ⟨y18, _, ⟨rfl, rfl⟩, h⟩ := hq
    conv => cbv
    refine call_h hO [.ref 1, .shut] (d_p64 fu O.len hN h) ?_
    intro os Q hos hQ
    conv => cbv
    refine ⟨(by subst hO; exact Nat.le_refl _), ?_⟩
    refine ⟨(by (rw [hos]) <;> (subst hO; rfl)), ?_⟩
    intro r bs hq
    rw [hQ] at hq
    clear hos hQ h
    obtain ⟨y19, _, ⟨rfl, rfl⟩, h⟩ := hq
    conv => cbv
    exact hL_2 _ _ ⟨y19, ⟨(by (conv => lhs; cbv) <;> (subst hO; rfl)), (by (conv => lhs; cbv) <;> (subst hO; rfl))⟩, h⟩
  · conv => cbv
    obtain ⟨hc6, h⟩ := gd_inv h
    refine call_h hO [.ref 1, .shut] (d_p83 fu O.len hN h) ?_
    intro os Q hos hQ
    conv => cbv
    refine ⟨(by subst hO; exact Nat.le_refl _), ?_⟩
    refine view_of hO (by subst hO; exact hc6) ?_
    conv => cbv
    refine ⟨(by (rw [hos]) <;> (subst hO; rfl)), ?_⟩
    intro r bs hq
    rw [hQ] at hq
    clear hos hQ h
    obtain ⟨y20, _, ⟨rfl, rfl⟩, h⟩ := hq
    conv => cbv
    exact hL_2 _ _ ⟨y20, ⟨(by (conv => lhs; cbv) <;> (subst hO; rfl)), (by (conv => lhs; cbv) <;> (subst hO; rfl))⟩, h⟩
  · rintro tm m ⟨j5, hs, h⟩
    unfold p71_2 at h
    obtain ⟨rfl, rfl⟩ := hs
    conv => cbv
    obtain ⟨hc3, h⟩ := gd_inv h
    refine call_h hO [.ref 1, .shut] (d_p83 fu O.len hN h) ?_
    intro os Q hos hQ
    conv => cbv
    refine ⟨(by subst hO; exact Nat.le_refl _), ?_⟩
    refine view_of hO (by subst hO; exact hc3) ?_
    conv => cbv
    refine ⟨(by (rw [hos]) <;> (subst hO; rfl)), ?_⟩
    intro r bs hq
    rw [hQ] at hq
    clear hos hQ h
    obtain ⟨y6, _, ⟨rfl, rfl⟩, h⟩ := hq
    conv => cbv
    refine loop_of hO tiA [0, 49, 50, 51] [0, 1000000] [] (fun (n : Nat) tm m => ∃ (z7 : EL) (z8 : Int) (z9 : Int), ((tm = frame 0 65 [(0, .p 0 1 0), (49, .c (.sl 6 x16 none)), (50, .c (.v (.int .i64 z8))), (51, .c (.v (.int .i64 z9)))] ∧ m = ⟨[(0, .blk 1 [.t 1000000 2 (O.len z7)]), (1000000, .arr 2 1 z7 none false)], 3⟩)) ∧ p71_1L False fu  K0 x16 n z7 z8 z9) (fun n => n) fu ⟨y6, ((x16.length : Nat) : Int), 0, ⟨(by (conv => lhs; cbv) <;> (subst hO; rfl)), (by (conv => lhs; cbv) <;> (subst hO; rfl))⟩, h⟩ ?_
    rintro n1 tm m L ⟨z7, z8, z9, hs, h⟩ hLn1
    cases n1 with
    | zero => rw [p71_1L] at h; exact h.elim
    | succ n1 =>
      rw [p71_1L] at h
      unfold p71_1 at h
      obtain ⟨rfl, rfl⟩ := hs
      conv => cbv
      refine br_h hO h (by subst hO; rfl) (fun hc1 h => ?_) (fun hc1 h => ?_)
      · conv => cbv
        refine join_all hO ?_
        conv => cbv
        refine and_h h (fun g => (by subst hO; exact g)) (fun h => ?_)
        refine and_h h (fun g => (by subst hO; exact g)) (fun h => ?_)
        obtain ⟨c10, c11, c12, c13, c14, c15, hr, h⟩ := rw_s_i64_i64_s_l3_l5_inv h
        refine elem_of hO _ (by subst hO; exact hr) ?_
        clear hr
        conv => cbv
        obtain ⟨hc2, h⟩ := gd_inv h
        refine call_h hO [.ref 1, .shut] (d_p87 fu O.len hN h) ?_
        intro os Q hos hQ
        conv => cbv
        refine ⟨(by subst hO; exact Nat.le_refl _), ?_⟩
        refine view_of hO (by subst hO; exact hc2) ?_
        conv => cbv
        refine ⟨(by (rw [hos]) <;> (subst hO; rfl)), ?_⟩
        intro r bs hq
        rw [hQ] at hq
        clear hos hQ h
        obtain ⟨y16, _, ⟨rfl, rfl⟩, h⟩ := hq
        conv => cbv
        refine call_h hO [.ref 1, .shut] (d_p64 fu O.len hN h) ?_
        intro os Q hos hQ
        conv => cbv
        refine ⟨(by subst hO; exact Nat.le_refl _), ?_⟩
        refine ⟨(by (rw [hos]) <;> (subst hO; rfl)), ?_⟩
        intro r bs hq
        rw [hQ] at hq
        clear hos hQ h
        obtain ⟨y17, _, ⟨rfl, rfl⟩, h⟩ := hq
        conv => cbv
        exact hLn1 n1 _ _ (Nat.lt_succ_self n1) ⟨y17, z8, binStd .add .i64 z9 1, ⟨(by (conv => lhs; cbv) <;> (subst hO; rfl)), (by (conv => lhs; cbv) <;> (subst hO; rfl))⟩, h⟩
      · conv => cbv
        refine ⟨(by subst hO; exact Nat.le_refl _), ?_⟩
        rw [hQ]
        exact ⟨z7, _, ⟨(by subst hO; rfl), (by subst hO; rfl)⟩, h⟩
end Go.Proofs.Ythncmjlcmlmnmaa

namespace Go.Proofs.Ythncmjlcmlmnmaa
open Go V
set_option maxRecDepth 100000
set_option maxHeartbeats 4000000
/-- codec.Decl -/
def p27 {ρ : Type} (fail : ρ) (fu : Nat)  (K0 : EL → ρ) (x0 : EL) (x1 : Int) (x2 : Int) (x3 : Int) (x4 : ByteArray) (x5 : ByteArray) (x6 : Int) (x7 : Int) (x8 : ByteArray) (x9 : EL) (x10 : EL) (x11 : Int) (x12 : Int) (x13 : ByteArray) (x14 : EL) (x15 : EL) (x16 : EL) : ρ :=
  p63 fail fu (fun y1 => p71 fail fu (fun y2 => K0 y2) y1 x1 x2 x3 x4 x5 x6 x7 x8 x9 x10 x11 x12 x13 x14 x15 x16) x0
theorem d_p27 (fu : Nat)  {K0 : EL → Prop} (L : EL → Nat) (hN : L = List.length) {x0 : EL} {x1 : Int} {x2 : Int} {x3 : Int} {x4 : ByteArray} {x5 : ByteArray} {x6 : Int} {x7 : Int} {x8 : ByteArray} {x9 : EL} {x10 : EL} {x11 : Int} {x12 : Int} {x13 : ByteArray} {x14 : EL} {x15 : EL} {x16 : EL} (h : p27 False fu K0 x0 x1 x2 x3 x4 x5 x6 x7 x8 x9 x10 x11 x12 x13 x14 x15 x16) : Den Try.prog G0 27 [.c (.sl 1 x0 none), .agg [.c (.v (.int .i64 x1)), .c (.v (.int .i64 x2)), .c (.v (.int .i64 x3)), .c (.v (.string x4)), .c (.v (.string x5)), .c (.v (.int .i64 x6)), .c (.v (.int .i64 x7)), .c (.v (.string x8)), .c (.sl 3 x9 none), .c (.sl 5 x10 none), .c (.v (.int .i64 x11)), .c (.v (.int .i64 x12)), .c (.v (.string x13)), .c (.sl 3 x14 none), .c (.sl 5 x15 none), .c (.sl 6 x16 none)]] (fun r bs => (∃ (y0 : EL) (o0 : OV) (o1 : OV), (r = .c (.sl 1 y0 none) ∧ bs = [o0, o1]) ∧ K0 y0)) := by
  obtain ⟨O, hO⟩ : ∃ O, O = std 0 T G0 (Den Try.prog G0) := ⟨_, rfl⟩
  have hLO : L = O.len := by rw [hN, hO]; rfl
  subst hLO
  refine den_h hO tiA mixed tabOk (fn := Try.f27) (sh := true) (by kernel_rfl) rfl rfl rfl rfl ?_
  intro Q hQ
  unfold p27 at h
  conv => cbv
  refine call_h hO [.shut] (d_p63 fu O.len hN h) ?_
  intro os Q hos hQ
  conv => cbv
  refine ⟨(by (rw [hos]) <;> (subst hO; rfl)), ?_⟩
  intro r bs hq
  rw [hQ] at hq
  clear hos hQ h
  obtain ⟨y1, _, ⟨rfl, rfl⟩, h⟩ := hq
  conv => cbv
  refine call_h hO [.ref 1, .shut] (d_p71 fu O.len hN h) ?_
  intro os Q hos hQ
  conv => cbv
  refine ⟨(by subst hO; exact Nat.le_refl _), ?_⟩
  refine ⟨(by (rw [hos]) <;> (subst hO; rfl)), ?_⟩
  intro r bs hq
  rw [hQ] at hq
  clear hos hQ h
  obtain ⟨y2, _, ⟨rfl, rfl⟩, h⟩ := hq
  conv => cbv
  refine view_full hO ?_
  conv => cbv
  rw [hQ]
  exact ⟨y2, _, _, ⟨(by subst hO; rfl), (by subst hO; rfl)⟩, h⟩
end Go.Proofs.Ythncmjlcmlmnmaa

namespace Go.Proofs.Ythncmjlcmlmnmaa
open Go V
set_option maxRecDepth 100000
set_option maxHeartbeats 2000000
theorem many_only {α : Type} {f : Nat → List UInt8 → Except Int (α × List UInt8 × Nat)} {g : α → List UInt8} {gs : List α → List UInt8} (h0 : gs [] = []) (h1 : ∀ a l, gs (a :: l) = g a ++ gs l) (hf : ∀ p bs a r q, f p bs = .ok (a, r, q) → bs = g a ++ r) :
    ∀ (n p : Nat) (bs : List UInt8) (l : List α) (r : List UInt8) (q : Nat), many f n p bs = .ok (l, r, q) → bs = gs l ++ r
  | 0, p, bs, l, r, q, h => by simp only [many] at h; injection h with h; injection h with h2 h; injection h with h3 _; subst h2 h3; rw [h0]; rfl
  | n + 1, p, bs, l, r, q, h => by
    simp only [many] at h
    split at h
    · cases h
    · rename_i a bs1 p1 ha
      split at h
      · cases h
      · rename_i l' bs2 p2 h2
        injection h with h; injection h with h3 h; injection h with h4 h5; subst h3 h4 h5
        rw [h1, hf _ _ _ _ _ ha, many_only h0 h1 hf n p1 bs1 l' bs2 p2 h2, List.append_assoc]
theorem rdLv_only : ∀ (left p : Nat) (bs : List UInt8) (l : Lv) (r : List UInt8) (q : Nat), rdLv left p bs = .ok (l, r, q) → bs = l.enc ++ r
  | 0, p, bs, l, r, q, h => by simp only [rdLv] at h; split at h <;> cases h
  | left + 1, p, bs, l, r, q, h => by
    simp only [rdLv] at h
    split at h
    · cases h
    · split at h
      · cases h
      · rename_i k bs1 hk
        obtain ⟨_, h1, _, h2⟩ := rdKind_ok hk
        split at h
        · rename_i k4
          split at h
          · cases h
          · rename_i n bs2 hn
            obtain ⟨h3, _, h4⟩ := rdNum_ok hn
            split at h
            · cases h
            · injection h with h; injection h with h5 h; injection h with h6 h7; subst h5 h6 h7
              rw [h2, h4, k4]
              simp only [Lv.enc, Lv.encs, if_pos, uv_nat n (by omega), List.append_nil, List.append_assoc]
              rfl
        · rename_i k4
          split at h
          · cases h
          · rename_i l2 bs2 p2 hm
            injection h with h; injection h with h5 h; injection h with h6 h7; subst h5 h6 h7
            have := many_only (g := Lv.enc) (gs := Lv.encs) rfl (fun _ _ => rfl) (fun p bs a r q => rdLv_only left p bs a r q) _ _ _ _ _ _ hm
            rw [h2, this]
            simp only [Lv.enc, uv_nat k (by omega), if_neg (show ¬ ((k : Nat) : Int) = 4 by omega), List.nil_append, List.append_assoc]
theorem rdLevel_only {bs r : List UInt8} {l : Lv} (h : rdLevel bs = .ok (l, r)) : bs = l.enc ++ r := by
  unfold rdLevel at h; split at h
  · rename_i l' r' q h'
    injection h with h; injection h with h1 h2; subst h1 h2
    exact rdLv_only _ _ _ _ _ _ h'
  · cases h
theorem rdLevelP_only (p : Nat) (bs : List UInt8) (a : Lv) (r : List UInt8) (q : Nat) (h : rdLevelP p bs = .ok (a, r, q)) : bs = a.enc ++ r := by
  unfold rdLevelP at h; split at h
  · rename_i l' r' h'
    injection h with h; injection h with h1 h; injection h with h2 h3; subst h1 h2 h3
    exact rdLevel_only h'
  · cases h
theorem levelP_len : ∀ (n p : Nat) (bs : List UInt8) (l : List Lv) (r : List UInt8) (q : Nat), many rdLevelP n p bs = .ok (l, r, q) → l.length = n := fun n p bs l r q h =>
  (many_sub (m := p) rdLevelP_sub n p bs l r q (Nat.le_refl _) h).2.2
theorem rdTm_only : ∀ (left p : Nat) (bs : List UInt8) (t : Tm) (r : List UInt8) (q : Nat), rdTm left p bs = .ok (t, r, q) → bs = t.enc ++ r
  | 0, p, bs, t, r, q, h => by simp only [rdTm] at h; split at h <;> cases h
  | left + 1, p, bs, t, r, q, h => by
    simp only [rdTm] at h
    split at h
    · cases h
    · split at h
      · cases h
      · rename_i k bs1 hk
        obtain ⟨_, h1, _, h2⟩ := rdKind_ok hk
        split at h
        · rename_i k0
          split at h
          · cases h
          · rename_i n bs2 hn
            obtain ⟨h3, _, h4⟩ := rdNum_ok hn
            injection h with h; injection h with h5 h; injection h with h6 h7; subst h5 h6 h7
            rw [h2, h4, k0]
            simp only [Tm.enc, Tm.encs, Lv.encs, if_pos, uv_nat n (by omega), List.append_nil, List.append_assoc]
            rfl
        · rename_i k0
          split at h
          · rename_i k1
            split at h
            · cases h
            · rename_i l2 bs2 p2 hm
              injection h with h; injection h with h5 h; injection h with h6 h7; subst h5 h6 h7
              have := many_only (g := Lv.enc) (gs := Lv.encs) rfl (fun _ _ => rfl) rdLevelP_only _ _ _ _ _ _ hm
              rw [h2, this, k1]
              simp only [Tm.enc, Tm.encs, List.append_nil, List.append_assoc]
              rfl
          · rename_i k1
            split at h
            · rename_i k2
              split at h
              · cases h
              · rename_i s bs2 hs
                obtain ⟨h3, _, h4, h5⟩ := rdTxt_ok hs
                split at h
                · cases h
                · rename_i n bs3 hn
                  obtain ⟨h6, _, h7⟩ := rdNum_ok hn
                  split at h
                  · cases h
                  · split at h
                    · cases h
                    · rename_i l2 bs4 p2 hm
                      injection h with h; injection h with h8 h; injection h with h9 h10; subst h8 h9 h10
                      have := many_only (g := Lv.enc) (gs := Lv.encs) rfl (fun _ _ => rfl) rdLevelP_only _ _ _ _ _ _ hm
                      have hl := levelP_len _ _ _ _ _ _ hm
                      have hsz : (⟨s.toArray⟩ : ByteArray).size = s.length := by simp [ByteArray.size]
                      rw [h2, h4, h7, this, k2]
                      simp only [Tm.enc, Tm.encs, txB, hsz, hl, List.append_nil, List.append_assoc]
                      rw [if_neg (show ¬ (2 : Int) = 0 by decide), if_pos trivial, show uv 2 = 2 from rfl]
                      simp only [List.append_assoc]
            · rename_i k2
              split at h
              · cases h
              · rename_i l2 bs2 p2 hm
                injection h with h; injection h with h5 h; injection h with h6 h7; subst h5 h6 h7
                have := many_only (g := Tm.enc) (gs := Tm.encs) rfl (fun _ _ => rfl) (fun p bs a r q => rdTm_only left p bs a r q) _ _ _ _ _ _ hm
                rw [h2, this]
                simp only [Tm.enc, Lv.encs, uv_nat k (by omega), if_neg (show ¬ ((k : Nat) : Int) = 0 by omega), if_neg (show ¬ ((k : Nat) : Int) = 2 by omega), List.nil_append, List.append_assoc]
theorem rdTerm_only {bs r : List UInt8} {t : Tm} (h : rdTerm bs = .ok (t, r)) : bs = t.enc ++ r := by
  unfold rdTerm at h; split at h
  · rename_i l' r' q h'
    injection h with h; injection h with h1 h2; subst h1 h2
    exact rdTm_only _ _ _ _ _ _ h'
  · cases h
theorem rdTerm_sub {bs r : List UInt8} {t : Tm} (h : rdTerm bs = .ok (t, r)) : r.length ≤ bs.length := by
  rw [rdTerm_only h, List.length_append]; omega
/-- How great what was read is. -/
theorem many_sz {α : Type} {f : Nat → List UInt8 → Except Int (α × List UInt8 × Nat)} {g : α → Nat} {gs : List α → Nat} (h0 : gs [] = 0) (h1 : ∀ a l, gs (a :: l) = 1 + g a + gs l) (hf : ∀ p bs a r q, f p bs = .ok (a, r, q) → 1 + g a + 2 * r.length ≤ 2 * bs.length) :
    ∀ (n p : Nat) (bs : List UInt8) (l : List α) (r : List UInt8) (q : Nat), many f n p bs = .ok (l, r, q) → gs l + 2 * r.length ≤ 2 * bs.length
  | 0, p, bs, l, r, q, h => by simp only [many] at h; injection h with h; injection h with h2 h; injection h with h3 _; subst h2 h3; rw [h0]; omega
  | n + 1, p, bs, l, r, q, h => by
    simp only [many] at h
    split at h
    · cases h
    · rename_i a bs1 p1 ha
      split at h
      · cases h
      · rename_i l' bs2 p2 h2
        injection h with h; injection h with h3 h; injection h with h4 h5; subst h3 h4 h5
        have := hf _ _ _ _ _ ha
        have h6 := many_sz h0 h1 hf n p1 bs1 l' bs2 p2 h2
        rw [h1]; omega
theorem rdLevelP_sz (p : Nat) (bs : List UInt8) (a : Lv) (r : List UInt8) (q : Nat) (h : rdLevelP p bs = .ok (a, r, q)) : 1 + a.sz + 2 * r.length ≤ 2 * bs.length := by
  have := Lv.sz_enc a
  rw [rdLevelP_only _ _ _ _ _ h, List.length_append]; omega
theorem rdTm_sz : ∀ (left p : Nat) (bs : List UInt8) (t : Tm) (r : List UInt8) (q : Nat), rdTm left p bs = .ok (t, r, q) → 1 + t.sz + 2 * r.length ≤ 2 * bs.length
  | 0, p, bs, t, r, q, h => by simp only [rdTm] at h; split at h <;> cases h
  | left + 1, p, bs, t, r, q, h => by
    simp only [rdTm] at h
    split at h
    · cases h
    · split at h
      · cases h
      · rename_i k bs1 hk
        obtain ⟨_, h1, h2, _⟩ := rdKind_ok hk
        split at h
        · split at h
          · cases h
          · rename_i n bs2 hn
            obtain ⟨h3, h4, _⟩ := rdNum_ok hn
            injection h with h; injection h with h5 h; injection h with h6 h7; subst h5 h6 h7
            simp only [Tm.sz, Lv.szs, Tm.szs]
            have : (⟨#[]⟩ : ByteArray).size = 0 := rfl
            omega
        · split at h
          · split at h
            · cases h
            · rename_i l2 bs2 p2 hm
              injection h with h; injection h with h5 h; injection h with h6 h7; subst h5 h6 h7
              have := many_sz (g := Lv.sz) (gs := Lv.szs) rfl (fun _ _ => rfl) rdLevelP_sz _ _ _ _ _ _ hm
              simp only [Tm.sz, Tm.szs]
              have : (⟨#[]⟩ : ByteArray).size = 0 := rfl
              omega
          · split at h
            · split at h
              · cases h
              · rename_i s bs2 hs
                obtain ⟨h3, _, h4, h5⟩ := rdTxt_ok hs
                split at h
                · cases h
                · rename_i n bs3 hn
                  obtain ⟨h6, h7, _⟩ := rdNum_ok hn
                  split at h
                  · cases h
                  · split at h
                    · cases h
                    · rename_i l2 bs4 p2 hm
                      injection h with h; injection h with h8 h; injection h with h9 h10; subst h8 h9 h10
                      have := many_sz (g := Lv.sz) (gs := Lv.szs) rfl (fun _ _ => rfl) rdLevelP_sz _ _ _ _ _ _ hm
                      have hsz : (⟨s.toArray⟩ : ByteArray).size = s.length := by simp [ByteArray.size]
                      have hb1 : bs1.length = (varB s.length).length + (s.length + bs2.length) := by rw [h4]; simp
                      simp only [Tm.sz, Tm.szs, hsz]
                      omega
            · split at h
              · cases h
              · rename_i l2 bs2 p2 hm
                injection h with h; injection h with h5 h; injection h with h6 h7; subst h5 h6 h7
                have := many_sz (g := Tm.sz) (gs := Tm.szs) rfl (fun _ _ => rfl) (fun p bs a r q => rdTm_sz left p bs a r q) _ _ _ _ _ _ hm
                simp only [Tm.sz, Lv.szs]
                have : (⟨#[]⟩ : ByteArray).size = 0 := rfl
                omega
theorem rdTerm_sz {bs r : List UInt8} {t : Tm} (h : rdTerm bs = .ok (t, r)) : 1 + t.sz + 2 * r.length ≤ 2 * bs.length := by
  unfold rdTerm at h; split at h
  · rename_i l' r' q h'
    injection h with h; injection h with h1 h2; subst h1 h2
    exact rdTm_sz _ _ _ _ _ _ h'
  · cases h
end Go.Proofs.Ythncmjlcmlmnmaa

namespace Go.Proofs.Ythncmjlcmlmnmaa
open Go V
set_option maxRecDepth 100000
set_option maxHeartbeats 2000000
/-- A constructor's row. -/
def ctRow (c : ByteArray × Tm) : List CV := [.v (.string c.1), .v (.int .i64 c.2.k), .v (.int .i64 c.2.n), .v (.string c.2.nm), .sl 3 (Lv.rows c.2.ls) none, .sl 5 (Tm.rows c.2.args) none]
structure Dc where
  k : Int
  pa : Int
  ct : Int
  nm : ByteArray
  fam : ByteArray
  ty : Tm
  val : Tm
  cs : List (ByteArray × Tm)
def tm0 : Tm := .mk 0 0 ⟨#[]⟩ [] []
def rdCt (p : Nat) (bs : List UInt8) : Except Int ((ByteArray × Tm) × List UInt8 × Nat) := match rdTxt 24 bs with
  | .error e => .error e
  | .ok (s, bs) => match rdTerm bs with
    | .error e => .error e
    | .ok (t, bs) => .ok ((⟨s.toArray⟩, t), bs, p)
def rdVal (k : Nat) (bs : List UInt8) : Except Int (Tm × List UInt8) := match rdV bs with
  | .error e => .error e
  | .ok (v, bs) => if 1 < v ∨ ((v = 1) ↔ ¬ (k = 2)) then .error 5 else if v = 1 then rdTerm bs else .ok (tm0, bs)
def rdCts (bs : List UInt8) : Except Int (List (ByteArray × Tm) × List UInt8) := match rdNum bs with
  | .error e => .error e
  | .ok (n, bs) => if 5 < n then .error 3 else match many rdCt n 0 bs with
    | .error e => .error e
    | .ok (l, bs, _) => .ok (l, bs)
/-- The value and the constructors. -/
def rdTail (k : Nat) (bs : List UInt8) : Except Int (Tm × List (ByteArray × Tm) × List UInt8) := match rdVal k bs with
  | .error e => .error e
  | .ok (val, bs) => match rdCts bs with
    | .error e => .error e
    | .ok (cs, bs) => .ok (val, cs, bs)
def rdD6 (k : Nat) (bs : List UInt8) : Except Int (Tm × Tm × List (ByteArray × Tm) × List UInt8) := match rdTerm bs with
  | .error e => .error e
  | .ok (ty, bs) => match rdTail k bs with
    | .error e => .error e
    | .ok (val, cs, bs) => .ok (ty, val, cs, bs)
def rdD5 (k : Nat) (bs : List UInt8) : Except Int (ByteArray × Tm × Tm × List (ByteArray × Tm) × List UInt8) := match rdTxt 24 bs with
  | .error e => .error e
  | .ok (s, bs) => match rdD6 k bs with
    | .error e => .error e
    | .ok x => .ok (⟨s.toArray⟩, x)
def rdD4 (k : Nat) (bs : List UInt8) : Except Int (ByteArray × ByteArray × Tm × Tm × List (ByteArray × Tm) × List UInt8) := match rdTxt 24 bs with
  | .error e => .error e
  | .ok (s, bs) => match rdD5 k bs with
    | .error e => .error e
    | .ok x => .ok (⟨s.toArray⟩, x)
def rdD3 (k : Nat) (bs : List UInt8) : Except Int (Nat × ByteArray × ByteArray × Tm × Tm × List (ByteArray × Tm) × List UInt8) := match rdNum bs with
  | .error e => .error e
  | .ok (n, bs) => match rdD4 k bs with
    | .error e => .error e
    | .ok x => .ok (n, x)
def rdD2 (k : Nat) (bs : List UInt8) : Except Int (Nat × Nat × ByteArray × ByteArray × Tm × Tm × List (ByteArray × Tm) × List UInt8) := match rdNum bs with
  | .error e => .error e
  | .ok (n, bs) => match rdD3 k bs with
    | .error e => .error e
    | .ok x => .ok (n, x)
/-- A declaration that begins bytes. -/
def rdDecl (bs : List UInt8) : Except Int (Dc × List UInt8) := match rdKind 1 5 bs with
  | .error e => .error e
  | .ok (k, bs) => match rdD2 k bs with
    | .error e => .error e
    | .ok (pa, ct, nm, fam, ty, val, cs, bs) => .ok (⟨(k : Nat), (pa : Nat), (ct : Nat), nm, fam, ty, val, cs⟩, bs)
abbrev DK (ρ : Type) := Int → Int → Int → ByteArray → ByteArray → Int → Int → ByteArray → EL → EL → Int → Int → ByteArray → EL → EL → EL → EL → Int → ρ
def DErr {ρ : Type} (p : DK ρ → ρ) (e : Int) : Prop := e ≠ 0 ∧ ∃ a b c d f g h i j k l m n o q r s, ∀ K : DK ρ, p K = K a b c d f g h i j k l m n o q r s e
def DOut {ρ : Type} (p : DK ρ → ρ) : Except Int (Dc × List UInt8) → Prop
  | .ok (d, bs) => ∀ K : DK ρ, p K = K d.k d.pa d.ct d.nm d.fam d.ty.k d.ty.n d.ty.nm (Lv.rows d.ty.ls) (Tm.rows d.ty.args) d.val.k d.val.n d.val.nm (Lv.rows d.val.ls) (Tm.rows d.val.args) (d.cs.map ctRow) (encB bs) 0
  | .error e => DErr p e
theorem DErr.of {ρ : Type} {p : DK ρ → ρ} {e : Int} (he : e ≠ 0) {a b c : Int} {d f : ByteArray} {g h : Int} {i : ByteArray} {j k : EL} {l m : Int} {n : ByteArray} {o q r s : EL} (hp : ∀ K : DK ρ, p K = K a b c d f g h i j k l m n o q r s e) : DErr p e := ⟨he, a, b, c, d, f, g, h, i, j, k, l, m, n, o, q, r, s, hp⟩
theorem DErr.eq {ρ : Type} {p p' : DK ρ → ρ} {e : Int} (h : DErr p' e) (hp : ∀ K, p K = p' K) : DErr p e := by
  obtain ⟨he, a, b, c, d, f, g, h, i, j, k, l, m, n, o, q, r, s, h1⟩ := h
  exact DErr.of he fun K => (hp K).trans (h1 K)
section
variable {ρ : Type} (fail : ρ) (fu : Nat) (hfu : 200 ≤ fu)
section
variable (y1 y4 y7 : Int) (s13 s17 : ByteArray) (j20 j21 : Int) (j22 : ByteArray) (j23 j24 : EL)
section
variable (j34 j35 : Int) (j36 : ByteArray) (j37 j38 : EL)
include hfu
theorem ctLoop (N : Nat) (hN : N ≤ 1099511627776) : ∀ (r n : Nat) (bs : List UInt8) (p : Nat) (z : EL) (i : Nat), bs.length ≤ N → z.length ≤ i → i + r ≤ 1000 → r < n →
    match many rdCt r p bs with
    | .ok (l, bs', _) => ∀ K : DK ρ, p76_2L fail fu K y1 y4 y7 s13 s17 j20 j21 j22 j23 j24 j34 j35 j36 j37 j38 ((i + r : Nat) : Int) n (encB bs) 0 z (i : Nat) = K y1 y4 y7 s13 s17 j20 j21 j22 j23 j24 j34 j35 j36 j37 j38 (z ++ l.map ctRow) (encB bs') 0
    | .error e => DErr (fun K => p76_2L fail fu K y1 y4 y7 s13 s17 j20 j21 j22 j23 j24 j34 j35 j36 j37 j38 ((i + r : Nat) : Int) n (encB bs) 0 z (i : Nat)) e
  | 0, n + 1, bs, p, z, i, hb, hz, hi, hn => by
    simp only [many]
    intro K
    rw [p76_2L, p76_2, lssF (by omega), cond_false]
    simp
  | r + 1, n + 1, bs, p, z, i, hb, hz, hi, hn => by
    have htxt := text_eq (ρ := ρ) fail fu (by omega) bs (by omega) 24 (by omega)
    simp only [many]
    have step : ∀ K : DK ρ, p76_2L fail fu K y1 y4 y7 s13 s17 j20 j21 j22 j23 j24 j34 j35 j36 j37 j38 ((i + (r + 1) : Nat) : Int) (n + 1) (encB bs) 0 z (i : Nat) = p95 fail fu (fun y48 y49 y50 => tobP fail y48 (fun s51 => bif (cmpStd .eql y50 0) then (p65 fail fu (fun y59 y60 y61 y62 y63 y64 y65 => p76_2L fail fu K y1 y4 y7 s13 s17 j20 j21 j22 j23 j24 j34 j35 j36 j37 j38 ((i + 1 + r : Nat) : Int) n y64 y65 (z ++ [[.v (.string s51), .v (.int .i64 y59), .v (.int .i64 y60), .v (.string y61), .sl 3 y62 none, .sl 5 y63 none]]) ((i + 1 : Nat) : Int)) y49 y50) else (p76_2L fail fu K y1 y4 y7 s13 s17 j20 j21 j22 j23 j24 j34 j35 j36 j37 j38 ((i + 1 + r : Nat) : Int) n y49 y50 (z ++ [[.v (.string s51), .v (.int .i64 0), .v (.int .i64 0), .v (.string ⟨#[]⟩), .sl 3 nilE none, .sl 5 nilE none]]) ((i + 1 : Nat) : Int)))) (encB bs) 0 ((24 : Nat) : Int) := fun K => by
      have h1 : ∀ (a : ByteArray) (b c : Int) (d : ByteArray) (l g B : EL) (e : Int), p76_1 fail fu K (p76_2L fail fu K y1 y4 y7 s13 s17 j20 j21 j22 j23 j24 j34 j35 j36 j37 j38 ((i + 1 + r : Nat) : Int) n) z ((i : Nat) : Int) a B e b c d l g = p76_2L fail fu K y1 y4 y7 s13 s17 j20 j21 j22 j23 j24 j34 j35 j36 j37 j38 ((i + 1 + r : Nat) : Int) n B e (z ++ [[.v (.string a), .v (.int .i64 b), .v (.int .i64 c), .v (.string d), .sl 3 l none, .sl 5 g none]]) ((i + 1 : Nat) : Int) := fun a b c d l g B e => by
        rw [p76_1, gd_y (by simp), gd_y (by simp; omega), addZ (by omega) (by omega), show ((i : Nat) : Int) + 1 = ((i + 1 : Nat) : Int) by omega]
        rfl
      rw [p76_2L, p76_2, lssT (by omega), cond_true, neqF rfl, cond_false, show i + (r + 1) = i + 1 + r by omega]
      simp only [h1]
      rfl
    have dead : ∀ (B : EL) (e : Int) (w : EL), e ≠ 0 → ∀ K : DK ρ, p76_2L fail fu K y1 y4 y7 s13 s17 j20 j21 j22 j23 j24 j34 j35 j36 j37 j38 ((i + 1 + r : Nat) : Int) n B e w ((i + 1 : Nat) : Int) = K y1 y4 y7 s13 s17 j20 j21 j22 j23 j24 j34 j35 j36 j37 j38 w B e := fun B e w he K => by
      obtain ⟨n, rfl⟩ : ∃ n', n = n' + 1 := ⟨n - 1, by omega⟩
      rw [p76_2L, p76_2]
      by_cases h0 : r = 0
      · rw [lssF (by omega), cond_false]
      · rw [lssT (by omega), cond_true, neqT he, cond_true]
    unfold rdCt
    cases ht : rdTxt 24 bs with
    | error e =>
      rw [ht] at htxt
      obtain ⟨he, B, hB⟩ := htxt
      dsimp only at hB
      refine DErr.of (a := y1) (b := y4) (c := y7) (d := s13) (f := s17) (g := j20) (h := j21) (i := j22) (j := j23) (k := j24) (l := j34) (m := j35) (n := j36) (o := j37) (q := j38) (r := z ++ [[.v (.string ⟨#[]⟩), .v (.int .i64 0), .v (.int .i64 0), .v (.string ⟨#[]⟩), .sl 3 nilE none, .sl 5 nilE none]]) (s := B) he fun K => ?_
      exact (step K).trans ((hB _).trans (by rw [show (nilE : EL) = encB [] from rfl, tobP_enc, eqlF he, cond_false]; exact dead B e _ he K))
    | ok x =>
      obtain ⟨sx, bs1⟩ := x
      have ht1 := rdTxt_ok ht
      rw [ht] at htxt
      simp only [SOut] at htxt
      have htm := Term_rd (ρ := ρ) fail fu (by omega) bs1 (by omega)
      have step2 : ∀ K : DK ρ, p76_2L fail fu K y1 y4 y7 s13 s17 j20 j21 j22 j23 j24 j34 j35 j36 j37 j38 ((i + (r + 1) : Nat) : Int) (n + 1) (encB bs) 0 z (i : Nat) = p65 fail fu (fun y59 y60 y61 y62 y63 y64 y65 => p76_2L fail fu K y1 y4 y7 s13 s17 j20 j21 j22 j23 j24 j34 j35 j36 j37 j38 ((i + 1 + r : Nat) : Int) n y64 y65 (z ++ [[.v (.string ⟨sx.toArray⟩), .v (.int .i64 y59), .v (.int .i64 y60), .v (.string y61), .sl 3 y62 none, .sl 5 y63 none]]) ((i + 1 : Nat) : Int)) (encB bs1) 0 := fun K => by
        rw [step, htxt, tobP_enc, eqlT rfl, cond_true]
      try dsimp only
      cases htt : rdTerm bs1 with
      | error e =>
        rw [htt] at htm
        obtain ⟨he, a, b, c, l, g, B, hB⟩ := htm
        dsimp only at hB
        refine DErr.of (a := y1) (b := y4) (c := y7) (d := s13) (f := s17) (g := j20) (h := j21) (i := j22) (j := j23) (k := j24) (l := j34) (m := j35) (n := j36) (o := j37) (q := j38) (r := z ++ [[.v (.string ⟨sx.toArray⟩), .v (.int .i64 a), .v (.int .i64 b), .v (.string c), .sl 3 l none, .sl 5 g none]]) (s := B) he fun K => ?_
        exact (step2 K).trans ((hB _).trans (dead B e _ he K))
      | ok x =>
        obtain ⟨t, bs2⟩ := x
        have hsub := rdTerm_sub htt
        rw [htt] at htm
        simp only [TmO2] at htm
        have ih := ctLoop N hN r n bs2 p (z ++ [ctRow (⟨sx.toArray⟩, t)]) (i + 1) (by omega) (by simp; omega) (by omega) (by omega)
        have hrow : ∀ K : DK ρ, p76_2L fail fu K y1 y4 y7 s13 s17 j20 j21 j22 j23 j24 j34 j35 j36 j37 j38 ((i + (r + 1) : Nat) : Int) (n + 1) (encB bs) 0 z (i : Nat) = p76_2L fail fu K y1 y4 y7 s13 s17 j20 j21 j22 j23 j24 j34 j35 j36 j37 j38 ((i + 1 + r : Nat) : Int) n (encB bs2) 0 (z ++ [ctRow (⟨sx.toArray⟩, t)]) ((i + 1 : Nat) : Int) := fun K => by
          rw [step2, htm]; rfl
        try dsimp only
        have hfold : many (fun p bs => match rdTxt 24 bs with | .error e => Except.error e | .ok (s, bs) => match rdTerm bs with | .error e => .error e | .ok (t, bs) => .ok (((⟨s.toArray⟩ : ByteArray), t), bs, p)) r p bs2 = many rdCt r p bs2 := rfl
        rw [hfold]
        cases hm : many rdCt r p bs2 with
        | error e =>
          rw [hm] at ih
          exact DErr.eq ih hrow
        | ok x =>
          obtain ⟨l, bs3, p2⟩ := x
          rw [hm] at ih
          intro K
          rw [hrow, ih, List.append_assoc]; rfl
/-- Behind an error nothing more is read: the constructors. -/
theorem dead4 (B : EL) (e : Int) (he : e ≠ 0) (K : DK ρ) : p76_4 fail fu K y1 y4 y7 s13 s17 j20 j21 j22 j23 j24 B e j34 j35 j36 j37 j38 = K y1 y4 y7 s13 s17 j20 j21 j22 j23 j24 j34 j35 j36 j37 j38 nilE B e := by
  rw [p76_4, numE _ _ _ _ _ he, gtrF (by omega), cond_false, p76_3]
  obtain ⟨m, hm⟩ : ∃ m, fu = m + 1 := ⟨fu - 1, by omega⟩
  have : ∀ m', m' = m + 1 → p76_2L fail fu K y1 y4 y7 s13 s17 j20 j21 j22 j23 j24 j34 j35 j36 j37 j38 0 m' B e nilE 0 = K y1 y4 y7 s13 s17 j20 j21 j22 j23 j24 j34 j35 j36 j37 j38 nilE B e := fun m' h => by
    subst h; rw [p76_2L, p76_2, lssF (by omega), cond_false]
  exact this fu hm
theorem cts_rd (bs : List UInt8) (hb : bs.length ≤ 1099511627776) : match rdCts bs with
    | .ok (l, bs') => ∀ K : DK ρ, p76_4 fail fu K y1 y4 y7 s13 s17 j20 j21 j22 j23 j24 (encB bs) 0 j34 j35 j36 j37 j38 = K y1 y4 y7 s13 s17 j20 j21 j22 j23 j24 j34 j35 j36 j37 j38 (l.map ctRow) (encB bs') 0
    | .error e => DErr (fun K => p76_4 fail fu K y1 y4 y7 s13 s17 j20 j21 j22 j23 j24 (encB bs) 0 j34 j35 j36 j37 j38) e := by
  have hnum := num_eq (ρ := ρ) fail fu (by omega) bs hb
  unfold rdCts
  cases hn : rdNum bs with
  | error e =>
    rw [hn] at hnum
    obtain ⟨he, B, hB⟩ := hnum
    dsimp only at hB
    refine DErr.of (a := y1) (b := y4) (c := y7) (d := s13) (f := s17) (g := j20) (h := j21) (i := j22) (j := j23) (k := j24) (l := j34) (m := j35) (n := j36) (o := j37) (q := j38) (r := nilE) (s := B) he fun K => ?_
    try dsimp only
    rw [p76_4, hB, gtrF (by omega), cond_false, p76_3]
    obtain ⟨m, hm⟩ : ∃ m, fu = m + 1 := ⟨fu - 1, by omega⟩
    have : ∀ m', m' = m + 1 → p76_2L fail fu K y1 y4 y7 s13 s17 j20 j21 j22 j23 j24 j34 j35 j36 j37 j38 0 m' B e nilE 0 = K y1 y4 y7 s13 s17 j20 j21 j22 j23 j24 j34 j35 j36 j37 j38 nilE B e := fun m' h => by
      subst h; rw [p76_2L, p76_2, lssF (by omega), cond_false]
    exact this fu hm
  | ok x =>
    obtain ⟨n, bs1⟩ := x
    have hn1 := rdNum_ok hn
    rw [hn] at hnum
    simp only [KOut] at hnum
    try dsimp only
    by_cases h5 : 5 < n
    · rw [if_pos h5]
      refine DErr.of (a := y1) (b := y4) (c := y7) (d := s13) (f := s17) (g := j20) (h := j21) (i := j22) (j := j23) (k := j24) (l := j34) (m := j35) (n := j36) (o := j37) (q := j38) (r := nilE) (s := encB bs1) (show (3 : Int) ≠ 0 by decide) fun K => ?_
      try dsimp only
      rw [p76_4, hnum, gtrT (by omega), cond_true, fails0, p76_3]
      obtain ⟨m, hm⟩ : ∃ m, fu = m + 1 := ⟨fu - 1, by omega⟩
      have : ∀ m', m' = m + 1 → p76_2L fail fu K y1 y4 y7 s13 s17 j20 j21 j22 j23 j24 j34 j35 j36 j37 j38 ((n : Nat) : Int) m' (encB bs1) 3 nilE 0 = K y1 y4 y7 s13 s17 j20 j21 j22 j23 j24 j34 j35 j36 j37 j38 nilE (encB bs1) 3 := fun m' h => by
        subst h; rw [p76_2L, p76_2, lssT (by omega), cond_true, neqT (by omega), cond_true]
      exact this fu hm
    · rw [if_neg h5]
      have hstep : ∀ K : DK ρ, p76_4 fail fu K y1 y4 y7 s13 s17 j20 j21 j22 j23 j24 (encB bs) 0 j34 j35 j36 j37 j38 = p76_2L fail fu K y1 y4 y7 s13 s17 j20 j21 j22 j23 j24 j34 j35 j36 j37 j38 ((0 + n : Nat) : Int) fu (encB bs1) 0 nilE ((0 : Nat) : Int) := fun K => by
        rw [p76_4, hnum, gtrF (by omega), cond_false, p76_3, Nat.zero_add]; rfl
      have := ctLoop (ρ := ρ) fail fu hfu y1 y4 y7 s13 s17 j20 j21 j22 j23 j24 j34 j35 j36 j37 j38 1099511627776 (by omega) n fu bs1 0 nilE 0 (by omega) (by simp) (by omega) (by omega)
      cases hm : many rdCt n 0 bs1 with
      | error e =>
        rw [hm] at this
        exact DErr.eq this hstep
      | ok x =>
        obtain ⟨l, bs2, p2⟩ := x
        rw [hm] at this
        intro K
        rw [hstep, this K]; rfl
end
include hfu
theorem dead8 (B : EL) (e : Int) (he : e ≠ 0) (K : DK ρ) : p76_8 fail fu K y1 y4 y7 s13 s17 B e j20 j21 j22 j23 j24 = K y1 y4 y7 s13 s17 j20 j21 j22 j23 j24 0 0 ⟨#[]⟩ nilE nilE nilE B e := by
  rw [p76_8, rawE _ _ _ _ _ he, gtrF (by omega), cond_false, p76_7]
  cases (!((cmpStd .eql 0 1) == (cmpStd .eql y1 2))) with
  | true => rw [cond_true, failsE _ _ _ _ _ _ he, p76_6, eqlF he, cond_false, p76_5, cond_false, dead4 fail fu hfu _ _ _ _ _ _ _ _ _ _ _ _ _ _ _ B e he]
  | false => rw [cond_false, p76_6, eqlF he, cond_false, p76_5, cond_false, dead4 fail fu hfu _ _ _ _ _ _ _ _ _ _ _ _ _ _ _ B e he]
theorem tail_rd (k : Nat) (hk : k ≤ 5) (hy : y1 = (k : Nat)) (bs : List UInt8) (hb : bs.length ≤ 1099511627776) : match rdTail k bs with
    | .ok (val, l, bs') => ∀ K : DK ρ, p76_8 fail fu K y1 y4 y7 s13 s17 (encB bs) 0 j20 j21 j22 j23 j24 = K y1 y4 y7 s13 s17 j20 j21 j22 j23 j24 val.k val.n val.nm (Lv.rows val.ls) (Tm.rows val.args) (l.map ctRow) (encB bs') 0
    | .error e => DErr (fun K => p76_8 fail fu K y1 y4 y7 s13 s17 (encB bs) 0 j20 j21 j22 j23 j24) e := by
  have hraw := fun K => raw_eq (ρ := ρ) fail fu (by omega) K bs hb
  unfold rdTail rdVal
  cases hr : rdV bs with
  | error e =>
    have he := rdV_err hr
    rw [hr] at hraw
    have he0 : e ≠ 0 := by omega
    refine DErr.of (a := y1) (b := y4) (c := y7) (d := s13) (f := s17) (g := j20) (h := j21) (i := j22) (j := j23) (k := j24) (l := 0) (m := 0) (n := ⟨#[]⟩) (o := nilE) (q := nilE) (r := nilE) (s := encB bs) he0 fun K => ?_
    try dsimp only
    rw [p76_8, hraw]
    simp only [rdK]
    rw [gtrF (by omega), cond_false, p76_7]
    cases (!((cmpStd .eql 0 1) == (cmpStd .eql y1 2))) with
    | true => rw [cond_true, failsE _ _ _ _ _ _ he0, p76_6, eqlF he0, cond_false, p76_5, cond_false, dead4 fail fu hfu _ _ _ _ _ _ _ _ _ _ _ _ _ _ _ (encB bs) e he0]
    | false => rw [cond_false, p76_6, eqlF he0, cond_false, p76_5, cond_false, dead4 fail fu hfu _ _ _ _ _ _ _ _ _ _ _ _ _ _ _ (encB bs) e he0]
  | ok x =>
    obtain ⟨v, bs1⟩ := x
    have hv := rdV_ok hr
    rw [hr] at hraw
    try dsimp only
    have hc : ∀ K : DK ρ, p76_8 fail fu K y1 y4 y7 s13 s17 (encB bs) 0 j20 j21 j22 j23 j24 = p76_7 fail fu K y1 y4 y7 s13 s17 j20 j21 j22 j23 j24 ((v : Nat) : Int) (encB bs1) 0 (decide (1 < v ∨ ((v = 1) ↔ ¬ (k = 2)))) := fun K => by
      rw [p76_8, hraw]
      simp only [rdK]
      by_cases h1 : 1 < v
      · rw [gtrT (by omega), cond_true, decide_eq_true (.inl h1)]
      · rw [gtrF (by omega), cond_false]
        have e1 : cmpStd .eql ((v : Nat) : Int) 1 = decide (v = 1) := by
          by_cases q : v = 1
          · rw [eqlT (by omega), decide_eq_true q]
          · rw [eqlF (by omega), decide_eq_false q]
        have e2 : cmpStd .eql y1 2 = decide (k = 2) := by
          by_cases q : k = 2
          · rw [eqlT (by omega), decide_eq_true q]
          · rw [eqlF (by omega), decide_eq_false q]
        rw [e1, e2]
        congr 1
        by_cases hv1 : v = 1 <;> by_cases hk2 : k = 2 <;> simp [hv1, hk2, h1]
    by_cases hbad : 1 < v ∨ ((v = 1) ↔ ¬ (k = 2))
    · rw [if_pos hbad]
      have he0 : (5 : Int) ≠ 0 := by decide
      refine DErr.of (a := y1) (b := y4) (c := y7) (d := s13) (f := s17) (g := j20) (h := j21) (i := j22) (j := j23) (k := j24) (l := 0) (m := 0) (n := ⟨#[]⟩) (o := nilE) (q := nilE) (r := nilE) (s := encB bs1) he0 fun K => ?_
      try dsimp only
      rw [hc, decide_eq_true hbad, p76_7, cond_true, fails0, p76_6, eqlF he0, cond_false, p76_5, cond_false, dead4 fail fu hfu _ _ _ _ _ _ _ _ _ _ _ _ _ _ _ (encB bs1) 5 he0]
    · rw [if_neg hbad]
      have hc2 : ∀ K : DK ρ, p76_8 fail fu K y1 y4 y7 s13 s17 (encB bs) 0 j20 j21 j22 j23 j24 = p76_5 fail fu K y1 y4 y7 s13 s17 j20 j21 j22 j23 j24 (encB bs1) 0 (cmpStd .eql ((v : Nat) : Int) 1) := fun K => by
        rw [hc, decide_eq_false hbad, p76_7, cond_false, p76_6, eqlT rfl, cond_true]
      by_cases hv1 : v = 1
      · rw [if_pos hv1]
        have htm := Term_rd (ρ := ρ) fail fu (by omega) bs1 (by omega)
        have hc3 : ∀ K : DK ρ, p76_8 fail fu K y1 y4 y7 s13 s17 (encB bs) 0 j20 j21 j22 j23 j24 = p65 fail fu (fun y68 y69 y70 y71 y72 y73 y74 => p76_4 fail fu K y1 y4 y7 s13 s17 j20 j21 j22 j23 j24 y73 y74 y68 y69 y70 y71 y72) (encB bs1) 0 := fun K => by
          rw [hc2, eqlT (by omega), p76_5, cond_true]
        cases htt : rdTerm bs1 with
        | error e =>
          rw [htt] at htm
          obtain ⟨he, a, b, c, l, g, B, hB⟩ := htm
          dsimp only at hB
          refine DErr.of (a := y1) (b := y4) (c := y7) (d := s13) (f := s17) (g := j20) (h := j21) (i := j22) (j := j23) (k := j24) (l := a) (m := b) (n := c) (o := l) (q := g) (r := nilE) (s := B) he fun K => ?_
          exact (hc3 K).trans ((hB _).trans (dead4 fail fu hfu _ _ _ _ _ _ _ _ _ _ _ _ _ _ _ B e he K))
        | ok x =>
          obtain ⟨t, bs2⟩ := x
          have hsub := rdTerm_sub htt
          rw [htt] at htm
          simp only [TmO2] at htm
          have hcts := cts_rd (ρ := ρ) fail fu hfu y1 y4 y7 s13 s17 j20 j21 j22 j23 j24 t.k t.n t.nm (Lv.rows t.ls) (Tm.rows t.args) bs2 (by omega)
          have hc4 : ∀ K : DK ρ, p76_8 fail fu K y1 y4 y7 s13 s17 (encB bs) 0 j20 j21 j22 j23 j24 = p76_4 fail fu K y1 y4 y7 s13 s17 j20 j21 j22 j23 j24 (encB bs2) 0 t.k t.n t.nm (Lv.rows t.ls) (Tm.rows t.args) := fun K => by rw [hc3, htm]
          try dsimp only
          cases hcc : rdCts bs2 with
          | error e => rw [hcc] at hcts; exact DErr.eq hcts hc4
          | ok x => obtain ⟨l, bs3⟩ := x; rw [hcc] at hcts; intro K; rw [hc4, hcts K]
      · rw [if_neg hv1]
        have hcts := cts_rd (ρ := ρ) fail fu hfu y1 y4 y7 s13 s17 j20 j21 j22 j23 j24 0 0 ⟨#[]⟩ nilE nilE bs1 (by omega)
        have hc3 : ∀ K : DK ρ, p76_8 fail fu K y1 y4 y7 s13 s17 (encB bs) 0 j20 j21 j22 j23 j24 = p76_4 fail fu K y1 y4 y7 s13 s17 j20 j21 j22 j23 j24 (encB bs1) 0 0 0 ⟨#[]⟩ nilE nilE := fun K => by
          rw [hc2, eqlF (by omega), p76_5, cond_false]
        try dsimp only
        cases hcc : rdCts bs1 with
        | error e => rw [hcc] at hcts; exact DErr.eq hcts hc3
        | ok x => obtain ⟨l, bs3⟩ := x; rw [hcc] at hcts; intro K; rw [hc3, hcts K]; rfl
end
end
end Go.Proofs.Ythncmjlcmlmnmaa

namespace Go.Proofs.Ythncmjlcmlmnmaa
open Go V
set_option maxRecDepth 100000
set_option maxHeartbeats 2000000
section
variable {ρ : Type} (fail : ρ) (fu : Nat)
def q6 (K0 : DK ρ) (y1 y4 y7 : Int) (s13 s17 : ByteArray) (B : EL) (e : Int) : ρ := bif (cmpStd .eql e 0) then (p65 fail fu (fun y77 y78 y79 y80 y81 y82 y83 => p76_8 fail fu K0 y1 y4 y7 s13 s17 y82 y83 y77 y78 y79 y80 y81) B e) else (p76_8 fail fu K0 y1 y4 y7 s13 s17 B e 0 0 ⟨#[]⟩ nilE nilE)
def q5 (K0 : DK ρ) (y1 y4 y7 : Int) (s13 : ByteArray) (B : EL) (e : Int) : ρ := p95 fail fu (fun y14 y15 y16 => tobP fail y14 (fun s17 => q6 fail fu K0 y1 y4 y7 s13 s17 y15 y16)) B e 24
def q4 (K0 : DK ρ) (y1 y4 y7 : Int) (B : EL) (e : Int) : ρ := p95 fail fu (fun y10 y11 y12 => tobP fail y10 (fun s13 => q5 fail fu K0 y1 y4 y7 s13 y11 y12)) B e 24
def q3 (K0 : DK ρ) (y1 y4 : Int) (B : EL) (e : Int) : ρ := p91 fail fu (fun y7 y8 y9 => q4 fail fu K0 y1 y4 y7 y8 y9) B e
def q2 (K0 : DK ρ) (y1 : Int) (B : EL) (e : Int) : ρ := p91 fail fu (fun y4 y5 y6 => q3 fail fu K0 y1 y4 y5 y6) B e
theorem decl_q (K0 : DK ρ) (B : EL) (e : Int) : p76 fail fu K0 B e = p93 fail fu (fun y1 y2 y3 => q2 fail fu K0 y1 y2 y3) B e 1 5 := rfl
variable (hfu : 200 ≤ fu)
include hfu
section
variable (K : DK ρ) (B : EL) (e : Int) (he : e ≠ 0)
include he
theorem dead6 (y1 y4 y7 : Int) (s13 s17 : ByteArray) : q6 fail fu K y1 y4 y7 s13 s17 B e = K y1 y4 y7 s13 s17 0 0 ⟨#[]⟩ nilE nilE 0 0 ⟨#[]⟩ nilE nilE nilE B e := by
  rw [q6, eqlF he, cond_false, dead8 fail fu hfu _ _ _ _ _ _ _ _ _ _ B e he]
theorem dead5 (y1 y4 y7 : Int) (s13 : ByteArray) : q5 fail fu K y1 y4 y7 s13 B e = K y1 y4 y7 s13 ⟨#[]⟩ 0 0 ⟨#[]⟩ nilE nilE 0 0 ⟨#[]⟩ nilE nilE nilE B e := by
  rw [q5, textE _ _ _ _ _ he, show (nilE : EL) = encB [] from rfl, tobP_enc]; exact dead6 fail fu hfu K B e he _ _ _ _ _
theorem deadq4 (y1 y4 y7 : Int) : q4 fail fu K y1 y4 y7 B e = K y1 y4 y7 ⟨#[]⟩ ⟨#[]⟩ 0 0 ⟨#[]⟩ nilE nilE 0 0 ⟨#[]⟩ nilE nilE nilE B e := by
  rw [q4, textE _ _ _ _ _ he, show (nilE : EL) = encB [] from rfl, tobP_enc]; exact dead5 fail fu hfu K B e he _ _ _ _
theorem dead3 (y1 y4 : Int) : q3 fail fu K y1 y4 B e = K y1 y4 0 ⟨#[]⟩ ⟨#[]⟩ 0 0 ⟨#[]⟩ nilE nilE 0 0 ⟨#[]⟩ nilE nilE nilE B e := by
  rw [q3, numE _ _ _ _ _ he]; exact deadq4 fail fu hfu K B e he _ _ _
theorem dead2 (y1 : Int) : q2 fail fu K y1 B e = K y1 0 0 ⟨#[]⟩ ⟨#[]⟩ 0 0 ⟨#[]⟩ nilE nilE 0 0 ⟨#[]⟩ nilE nilE nilE B e := by
  rw [q2, numE _ _ _ _ _ he]; exact dead3 fail fu hfu K B e he _ _
end
variable (k : Nat) (hk : k ≤ 5) (bs : List UInt8) (hb : bs.length ≤ 1099511627776)
include hk hb
theorem q6_rd (y4 y7 : Int) (s13 s17 : ByteArray) : match rdD6 k bs with
    | .ok (ty, val, l, bs') => ∀ K : DK ρ, q6 fail fu K (k : Nat) y4 y7 s13 s17 (encB bs) 0 = K (k : Nat) y4 y7 s13 s17 ty.k ty.n ty.nm (Lv.rows ty.ls) (Tm.rows ty.args) val.k val.n val.nm (Lv.rows val.ls) (Tm.rows val.args) (l.map ctRow) (encB bs') 0
    | .error e => DErr (fun K => q6 fail fu K (k : Nat) y4 y7 s13 s17 (encB bs) 0) e := by
  have htm := Term_rd (ρ := ρ) fail fu (by omega) bs hb
  have h1 : ∀ K : DK ρ, q6 fail fu K (k : Nat) y4 y7 s13 s17 (encB bs) 0 = p65 fail fu (fun y77 y78 y79 y80 y81 y82 y83 => p76_8 fail fu K (k : Nat) y4 y7 s13 s17 y82 y83 y77 y78 y79 y80 y81) (encB bs) 0 := fun K => by rw [q6, eqlT rfl, cond_true]
  unfold rdD6
  cases htt : rdTerm bs with
  | error e =>
    rw [htt] at htm
    obtain ⟨he, a, b, c, l, g, B, hB⟩ := htm
    dsimp only at hB
    exact DErr.of he fun K => (h1 K).trans ((hB _).trans (dead8 fail fu hfu _ _ _ _ _ _ _ _ _ _ B e he K))
  | ok x =>
    obtain ⟨t, bs2⟩ := x
    have hsub := rdTerm_sub htt
    rw [htt] at htm
    simp only [TmO2] at htm
    have ht := tail_rd (ρ := ρ) fail fu hfu (k : Nat) y4 y7 s13 s17 t.k t.n t.nm (Lv.rows t.ls) (Tm.rows t.args) k hk rfl bs2 (by omega)
    have h2 : ∀ K : DK ρ, q6 fail fu K (k : Nat) y4 y7 s13 s17 (encB bs) 0 = _ := fun K => (h1 K).trans (htm _)
    dsimp only
    cases hcc : rdTail k bs2 with
    | error e => rw [hcc] at ht; exact DErr.eq ht h2
    | ok x => obtain ⟨v, l, bs3⟩ := x; rw [hcc] at ht; intro K; exact (h2 K).trans (ht K)
theorem q5_rd (y4 y7 : Int) (s13 : ByteArray) : match rdD5 k bs with
    | .ok (s17, ty, val, l, bs') => ∀ K : DK ρ, q5 fail fu K (k : Nat) y4 y7 s13 (encB bs) 0 = K (k : Nat) y4 y7 s13 s17 ty.k ty.n ty.nm (Lv.rows ty.ls) (Tm.rows ty.args) val.k val.n val.nm (Lv.rows val.ls) (Tm.rows val.args) (l.map ctRow) (encB bs') 0
    | .error e => DErr (fun K => q5 fail fu K (k : Nat) y4 y7 s13 (encB bs) 0) e := by
  have htx := text_eq (ρ := ρ) fail fu (by omega) bs hb 24 (by omega)
  unfold rdD5
  cases htt : rdTxt 24 bs with
  | error e =>
    rw [htt] at htx
    obtain ⟨he, B, hB⟩ := htx
    dsimp only at hB
    exact DErr.of he fun K => (hB _).trans ((tobP_enc fail [] _).trans (dead6 fail fu hfu K B e he _ _ _ _ _))
  | ok x =>
    obtain ⟨s, bs2⟩ := x
    have hsub := rdTxt_ok htt
    rw [htt] at htx
    simp only [SOut] at htx
    have h2 : ∀ K : DK ρ, q5 fail fu K (k : Nat) y4 y7 s13 (encB bs) 0 = q6 fail fu K (k : Nat) y4 y7 s13 ⟨s.toArray⟩ (encB bs2) 0 := fun K => (htx _).trans (tobP_enc fail s _)
    have ht := q6_rd (ρ := ρ) fail fu hfu k hk bs2 (by omega) y4 y7 s13 ⟨s.toArray⟩
    dsimp only
    cases hcc : rdD6 k bs2 with
    | error e => rw [hcc] at ht; exact DErr.eq ht h2
    | ok x => obtain ⟨t, v, l, bs3⟩ := x; rw [hcc] at ht; intro K; exact (h2 K).trans (ht K)
theorem q4_rd (y4 y7 : Int) : match rdD4 k bs with
    | .ok (s13, s17, ty, val, l, bs') => ∀ K : DK ρ, q4 fail fu K (k : Nat) y4 y7 (encB bs) 0 = K (k : Nat) y4 y7 s13 s17 ty.k ty.n ty.nm (Lv.rows ty.ls) (Tm.rows ty.args) val.k val.n val.nm (Lv.rows val.ls) (Tm.rows val.args) (l.map ctRow) (encB bs') 0
    | .error e => DErr (fun K => q4 fail fu K (k : Nat) y4 y7 (encB bs) 0) e := by
  have htx := text_eq (ρ := ρ) fail fu (by omega) bs hb 24 (by omega)
  unfold rdD4
  cases htt : rdTxt 24 bs with
  | error e =>
    rw [htt] at htx
    obtain ⟨he, B, hB⟩ := htx
    dsimp only at hB
    exact DErr.of he fun K => (hB _).trans ((tobP_enc fail [] _).trans (dead5 fail fu hfu K B e he _ _ _ _))
  | ok x =>
    obtain ⟨s, bs2⟩ := x
    have hsub := rdTxt_ok htt
    rw [htt] at htx
    simp only [SOut] at htx
    have h2 : ∀ K : DK ρ, q4 fail fu K (k : Nat) y4 y7 (encB bs) 0 = q5 fail fu K (k : Nat) y4 y7 ⟨s.toArray⟩ (encB bs2) 0 := fun K => (htx _).trans (tobP_enc fail s _)
    have ht := q5_rd (ρ := ρ) fail fu hfu k hk bs2 (by omega) y4 y7 ⟨s.toArray⟩
    dsimp only
    cases hcc : rdD5 k bs2 with
    | error e => rw [hcc] at ht; exact DErr.eq ht h2
    | ok x => obtain ⟨s2, t, v, l, bs3⟩ := x; rw [hcc] at ht; intro K; exact (h2 K).trans (ht K)
theorem q3_rd (y4 : Int) : match rdD3 k bs with
    | .ok (ct, s13, s17, ty, val, l, bs') => ∀ K : DK ρ, q3 fail fu K (k : Nat) y4 (encB bs) 0 = K (k : Nat) y4 (ct : Nat) s13 s17 ty.k ty.n ty.nm (Lv.rows ty.ls) (Tm.rows ty.args) val.k val.n val.nm (Lv.rows val.ls) (Tm.rows val.args) (l.map ctRow) (encB bs') 0
    | .error e => DErr (fun K => q3 fail fu K (k : Nat) y4 (encB bs) 0) e := by
  have htx := num_eq (ρ := ρ) fail fu (by omega) bs hb
  unfold rdD3
  cases htt : rdNum bs with
  | error e =>
    rw [htt] at htx
    obtain ⟨he, B, hB⟩ := htx
    dsimp only at hB
    exact DErr.of he fun K => (hB _).trans (deadq4 fail fu hfu K B e he _ _ _)
  | ok x =>
    obtain ⟨n, bs2⟩ := x
    have hsub := rdNum_ok htt
    rw [htt] at htx
    simp only [KOut] at htx
    have h2 : ∀ K : DK ρ, q3 fail fu K (k : Nat) y4 (encB bs) 0 = q4 fail fu K (k : Nat) y4 (n : Nat) (encB bs2) 0 := fun K => htx _
    have ht := q4_rd (ρ := ρ) fail fu hfu k hk bs2 (by omega) y4 (n : Nat)
    dsimp only
    cases hcc : rdD4 k bs2 with
    | error e => rw [hcc] at ht; exact DErr.eq ht h2
    | ok x => obtain ⟨s1, s2, t, v, l, bs3⟩ := x; rw [hcc] at ht; intro K; exact (h2 K).trans (ht K)
theorem q2_rd : match rdD2 k bs with
    | .ok (pa, ct, s13, s17, ty, val, l, bs') => ∀ K : DK ρ, q2 fail fu K (k : Nat) (encB bs) 0 = K (k : Nat) (pa : Nat) (ct : Nat) s13 s17 ty.k ty.n ty.nm (Lv.rows ty.ls) (Tm.rows ty.args) val.k val.n val.nm (Lv.rows val.ls) (Tm.rows val.args) (l.map ctRow) (encB bs') 0
    | .error e => DErr (fun K => q2 fail fu K (k : Nat) (encB bs) 0) e := by
  have htx := num_eq (ρ := ρ) fail fu (by omega) bs hb
  unfold rdD2
  cases htt : rdNum bs with
  | error e =>
    rw [htt] at htx
    obtain ⟨he, B, hB⟩ := htx
    dsimp only at hB
    exact DErr.of he fun K => (hB _).trans (dead3 fail fu hfu K B e he _ _)
  | ok x =>
    obtain ⟨n, bs2⟩ := x
    have hsub := rdNum_ok htt
    rw [htt] at htx
    simp only [KOut] at htx
    have h2 : ∀ K : DK ρ, q2 fail fu K (k : Nat) (encB bs) 0 = q3 fail fu K (k : Nat) (n : Nat) (encB bs2) 0 := fun K => htx _
    have ht := q3_rd (ρ := ρ) fail fu hfu k hk bs2 (by omega) (n : Nat)
    dsimp only
    cases hcc : rdD3 k bs2 with
    | error e => rw [hcc] at ht; exact DErr.eq ht h2
    | ok x => obtain ⟨ct, s1, s2, t, v, l, bs3⟩ := x; rw [hcc] at ht; intro K; exact (h2 K).trans (ht K)
omit hk in
omit k in
theorem Decl_rd : DOut (fun K => p76 fail fu K (encB bs) 0) (rdDecl bs) := by
  have hkind := kind_eq (ρ := ρ) fail fu (by omega) bs hb 1 5 (by omega) (by omega)
  unfold rdDecl
  cases hk : rdKind 1 5 bs with
  | error e =>
    rw [hk] at hkind
    obtain ⟨he, B, hB⟩ := hkind
    dsimp only at hB
    exact DErr.of he fun K => (decl_q fail fu K _ _).trans ((hB _).trans (dead2 fail fu hfu K B e he _))
  | ok x =>
    obtain ⟨k, bs2⟩ := x
    have hk1 := rdKind_ok hk
    rw [hk] at hkind
    simp only [KOut] at hkind
    have h2 : ∀ K : DK ρ, p76 fail fu K (encB bs) 0 = q2 fail fu K (k : Nat) (encB bs2) 0 := fun K => (decl_q fail fu K _ _).trans (hkind _)
    have ht := q2_rd (ρ := ρ) fail fu hfu k (by omega) bs2 (by omega)
    dsimp only
    cases hcc : rdD2 k bs2 with
    | error e => rw [hcc] at ht; exact DErr.eq ht h2
    | ok x => obtain ⟨pa, ct, s1, s2, t, v, l, bs3⟩ := x; rw [hcc] at ht; intro K; exact (h2 K).trans (ht K)
end
end Go.Proofs.Ythncmjlcmlmnmaa
