/- Functions without memory, and that the Go functions are followed by them. Printed by gen.py. Conditions: none. -/
import Derived.Test.YthncmjlcmlmnmaaG
import Derived.Test.YthncmjlcmlmnmaaPR
import Derived.Test.YthncmjlcmlmnmaaRR11
import Derived.Test.YthncmjlcmlmnmaaRR8
namespace Go.Proofs.Ythncmjlcmlmnmaa
open Go V
set_option maxRecDepth 100000
set_option maxHeartbeats 4000000
/-- (*ref6.Reader).Term -/
def p75 {ρ : Type} (fail : ρ) (fu : Nat)  (K0 : Int → Int → ByteArray → EL → EL → EL → Int → Int → ρ) (x0 : EL) (x1 : Int) (x2 : Int) : ρ :=
  p115 fail fu (fun y1 y2 y3 y4 y5 y6 y7 y8 y9 => K0 y1 y2 y3 y4 y5 y6 y7 y8) x0 x1 x2 1 2000
theorem d_p75 (fu : Nat)  {K0 : Int → Int → ByteArray → EL → EL → EL → Int → Int → Prop} (L : EL → Nat) (hN : L = List.length) {x0 : EL} {x1 : Int} {x2 : Int} (h : p75 False fu K0 x0 x1 x2) : Den Try.prog G0 75 [.ptr [.c (.sl 1 x0 none), .c (.v (.int .i64 x1)), .c (.v (.int .i64 x2))]] (fun r bs => (∃ (y0 : Int) (y1 : Int) (y2 : ByteArray) (y3 : EL) (y4 : EL) (y5 : EL) (y6 : Int) (y7 : Int), (r = .agg [.c (.v (.int .i64 y0)), .c (.v (.int .i64 y1)), .c (.v (.string y2)), .c (.sl 3 y3 none), .c (.sl 5 y4 none)] ∧ bs = [.ptr [.c (.sl 1 y5 none), .c (.v (.int .i64 y6)), .c (.v (.int .i64 y7))]]) ∧ K0 y0 y1 y2 y3 y4 y5 y6 y7)) := by
  obtain ⟨O, hO⟩ : ∃ O, O = std 1 T G0 (Den Try.prog G0) := ⟨_, rfl⟩
  have hLO : L = O.len := by rw [hN, hO]; rfl
  subst hLO
  refine den_h hO tiA mixed tabOk (fn := Try.f75) (sh := true) (by kernel_rfl) rfl rfl rfl rfl ?_
  intro Q hQ
  unfold p75 at h
  conv => cbv
  refine call_h hO [.ref 3, .shut, .ref 1] (d_p115 fu O.len hN h) ?_
  intro os Q hos hQ
  conv => cbv
  refine ⟨(by (rw [hos]) <;> (subst hO; rfl)), ?_⟩
  intro r bs hq
  rw [hQ] at hq
  clear hos hQ h
  obtain ⟨y1, y2, y3, y4, y5, y6, y7, y8, y9, _, ⟨rfl, rfl⟩, h⟩ := hq
  conv => cbv
  rw [hQ]
  exact ⟨y1, y2, y3, y4, y5, y6, y7, y8, ⟨(by subst hO; rfl), (by subst hO; rfl)⟩, h⟩
end Go.Proofs.Ythncmjlcmlmnmaa

namespace Go.Proofs.Ythncmjlcmlmnmaa
open Go V
set_option maxRecDepth 100000
set_option maxHeartbeats 4000000
def p113_1 {ρ : Type} (fail : ρ) (fu : Nat)  (K0 : EL → ρ) (rec1 : Int → EL → ρ)  (z1 : Int) (z2 : EL) : ρ :=
  bif (cmpStd .geq z1 128) then (gd ((128 : Int) ≠ 0) fail (gd (1 ≤ [[(CV.v (.int .u8 (binStd .add .u8 (IntKind.u8.wrap (binStd .rem .u64 z1 128)) 128)))]].length) fail (gd ((z2.length + (List.take 1 [[(CV.v (.int .u8 (binStd .add .u8 (IntKind.u8.wrap (binStd .rem .u64 z1 128)) 128)))]]).length) * 1 ≤ 35184372088832) fail (gd ((128 : Int) ≠ 0) fail (rec1 (binStd .quo .u64 z1 128) (z2 ++ (List.take 1 [[(CV.v (.int .u8 (binStd .add .u8 (IntKind.u8.wrap (binStd .rem .u64 z1 128)) 128)))]]))))))) else (gd (1 ≤ [[(CV.v (.int .u8 (IntKind.u8.wrap z1)))]].length) fail (gd ((z2.length + (List.take 1 [[(CV.v (.int .u8 (IntKind.u8.wrap z1)))]]).length) * 1 ≤ 35184372088832) fail (K0 (z2 ++ (List.take 1 [[(CV.v (.int .u8 (IntKind.u8.wrap z1)))]])))))
def p113_1L {ρ : Type} (fail : ρ) (fu : Nat)  (K0 : EL → ρ)   : Nat → Int → EL → ρ
  | 0, _, _ => fail
  | n + 1, z1, z2 => p113_1 fail fu  K0 (p113_1L fail fu  K0   n)  z1 z2
/-- ref1.Var -/
def p113 {ρ : Type} (fail : ρ) (fu : Nat)  (K0 : EL → ρ) (x0 : EL) (x1 : Int) : ρ :=
  gd (0 = nilE.length) fail (gd ((nilE.length + x0.length) * 1 ≤ 35184372088832) fail (p113_1L fail fu  K0  fu x1 (nilE ++ x0)))
theorem d_p113 (fu : Nat)  {K0 : EL → Prop} (L : EL → Nat) (hN : L = List.length) {x0 : EL} {x1 : Int} (h : p113 False fu K0 x0 x1) : Den Try.prog G0 113 [.c (.sl 1 x0 none), .c (.v (.int .u64 x1))] (fun r bs => (∃ (y0 : EL) (o0 : OV) (o1 : OV), (r = .arr 1 y0 none false (L y0) ∧ bs = [o0, o1]) ∧ K0 y0)) := by
  obtain ⟨O, hO⟩ : ∃ O, O = std 0 T G0 (Den Try.prog G0) := ⟨_, rfl⟩
  have hLO : L = O.len := by rw [hN, hO]; rfl
  subst hLO
  refine den_h hO tiA mixed tabOk (fn := Try.f113) (sh := false) (by kernel_rfl) rfl rfl rfl rfl ?_
  intro Q hQ
  unfold p113 at h
  conv => cbv
  refine and_h h (fun g => (by subst hO; exact g)) (fun h => ?_)
  refine and_h h (fun g => (by subst hO; exact g)) (fun h => ?_)
  refine loop_of hO tiA [1, 5] [7000] [] (fun (n : Nat) tm m => ∃ (z1 : Int) (z2 : EL), ((tm = frame 0 25 [(1, .c (.v (.int .u64 z1))), (5, .t 7000 0 (O.len z2))] ∧ m = ⟨[(7000, .arr 0 1 z2 none false)], 1⟩)) ∧ p113_1L False fu  K0  n z1 z2) (fun n => n) fu ⟨x1, (nilE ++ x0), ⟨(by (conv => lhs; cbv) <;> (subst hO; rfl)), (by (conv => lhs; cbv) <;> (subst hO; rfl))⟩, h⟩ ?_
  rintro n1 tm m L ⟨z1, z2, hs, h⟩ hLn1
  cases n1 with
  | zero => rw [p113_1L] at h; exact h.elim
  | succ n1 =>
    rw [p113_1L] at h
    unfold p113_1 at h
    obtain ⟨rfl, rfl⟩ := hs
    conv => cbv
    refine br_h hO h (by subst hO; rfl) (fun hc1 h => ?_) (fun hc1 h => ?_)
    · conv => cbv
      refine join_all hO ?_
      conv => cbv
      refine alt_l hO ?_
      conv => cbv
      refine and_h h (fun g => (by subst hO; exact g)) (fun h => ?_)
      refine view_h hO h (fun g => (by subst hO; exact g)) (fun h => ?_)
      conv => cbv
      refine ⟨(by subst hO; rfl), ?_⟩
      refine and_h h (fun g => (by subst hO; exact g)) (fun h => ?_)
      refine and_h h (fun g => (by subst hO; exact g)) (fun h => ?_)
      exact hLn1 n1 _ _ (Nat.lt_succ_self n1) ⟨binStd .quo .u64 z1 128, (z2 ++ (List.take 1 [[(CV.v (.int .u8 (binStd .add .u8 (IntKind.u8.wrap (binStd .rem .u64 z1 128)) 128)))]])), ⟨(by (conv => lhs; cbv) <;> (subst hO; rfl)), (by (conv => lhs; cbv) <;> (subst hO; rfl))⟩, h⟩
    · conv => cbv
      refine alt_l hO ?_
      conv => cbv
      refine view_h hO h (fun g => (by subst hO; exact g)) (fun h => ?_)
      conv => cbv
      refine ⟨(by subst hO; rfl), ?_⟩
      refine and_h h (fun g => (by subst hO; exact g)) (fun h => ?_)
      refine ⟨(by subst hO; exact Nat.le_refl _), ?_⟩
      rw [hQ]
      exact ⟨(z2 ++ (List.take 1 [[(CV.v (.int .u8 (IntKind.u8.wrap z1)))]])), _, _, ⟨(by subst hO; rfl), (by subst hO; rfl)⟩, h⟩
end Go.Proofs.Ythncmjlcmlmnmaa

namespace Go.Proofs.Ythncmjlcmlmnmaa
open Go V
set_option maxRecDepth 100000
set_option maxHeartbeats 4000000
/-- ref25.num -/
def p88 {ρ : Type} (fail : ρ) (fu : Nat)  (K0 : EL → ρ) (x0 : EL) (x1 : Int) : ρ :=
  p113 fail fu (fun y1 => K0 y1) x0 (IntKind.u64.wrap x1)
theorem d_p88 (fu : Nat)  {K0 : EL → Prop} (L : EL → Nat) (hN : L = List.length) {x0 : EL} {x1 : Int} (h : p88 False fu K0 x0 x1) : Den Try.prog G0 88 [.c (.sl 1 x0 none), .c (.v (.int .i64 x1))] (fun r bs => (∃ (y0 : EL) (o0 : OV) (o1 : OV), (r = .c (.sl 1 y0 none) ∧ bs = [o0, o1]) ∧ K0 y0)) := by
  obtain ⟨O, hO⟩ : ∃ O, O = std 0 T G0 (Den Try.prog G0) := ⟨_, rfl⟩
  have hLO : L = O.len := by rw [hN, hO]; rfl
  subst hLO
  refine den_h hO tiA mixed tabOk (fn := Try.f88) (sh := true) (by kernel_rfl) rfl rfl rfl rfl ?_
  intro Q hQ
  unfold p88 at h
  conv => cbv
  refine call_h hO [.shut, .shut] (d_p113 fu O.len hN h) ?_
  intro os Q hos hQ
  conv => cbv
  refine ⟨(by (rw [hos]) <;> (subst hO; rfl)), ?_⟩
  intro r bs hq
  rw [hQ] at hq
  clear hos hQ h
  obtain ⟨y1, _, _, ⟨rfl, rfl⟩, h⟩ := hq
  conv => cbv
  refine view_full hO ?_
  conv => cbv
  rw [hQ]
  exact ⟨y1, _, _, ⟨(by subst hO; rfl), (by subst hO; rfl)⟩, h⟩
end Go.Proofs.Ythncmjlcmlmnmaa

namespace Go.Proofs.Ythncmjlcmlmnmaa
open Go V
set_option maxRecDepth 100000
set_option maxHeartbeats 4000000
def p124_1 {ρ : Type} (fail : ρ) (fu : Nat)  (K0 : EL → ρ) (rec1 : Int → EL → Nat → Nat → Int → ρ) (x0 : EL) (z1 : Int) (z2 : EL) (z3 : Nat) (z4 : Nat) (z5 : Int) : ρ :=
  bif (cmpStd .geq z5 0) then (gd ((256 : Int) ≠ 0) fail (gd (z4 ≤ z2.length) fail (gd ((0 : Int) ≤ z5) fail (gd ((z5 : Int) < (z4 : Nat)) fail (gd (((z5 : Int).toNat) + 1 ≤ z2.length) fail (gd (0 + 1 ≤ (List.getD z2 ((z5 : Int).toNat) []).length) fail (gd ((256 : Int) ≠ 0) fail (rec1 (binStd .quo .u64 z1 256) (List.set z2 ((z5 : Int).toNat) (putAt (List.getD z2 ((z5 : Int).toNat) []) 0 [(CV.v (.int .u8 (IntKind.u8.wrap (binStd .rem .u64 z1 256))))])) z3 z4 (binStd .sub .i64 z5 1))))))))) else (gd (0 = nilE.length) fail (gd ((nilE.length + x0.length) * 1 ≤ 35184372088832) fail (gd (z4 ≤ z2.length) fail (gd (((nilE ++ x0).length + (List.take z4 z2).length) * 1 ≤ 35184372088832) fail (K0 ((nilE ++ x0) ++ (List.take z4 z2)))))))
def p124_1L {ρ : Type} (fail : ρ) (fu : Nat)  (K0 : EL → ρ)  (x0 : EL) : Nat → Int → EL → Nat → Nat → Int → ρ
  | 0, _, _, _, _, _ => fail
  | n + 1, z1, z2, z3, z4, z5 => p124_1 fail fu  K0 (p124_1L fail fu  K0  x0 n) x0 z1 z2 z3 z4 z5
/-- ref1.Eight -/
def p124 {ρ : Type} (fail : ρ) (fu : Nat)  (K0 : EL → ρ) (x0 : EL) (x1 : Int) : ρ :=
  gd ((0 : Int) ≤ 8) fail (gd ((8 : Int) ≤ 8) fail (gd ((8 : Int) * (1 : Nat) ≤ 70368744177664) fail (p124_1L fail fu  K0 x0 fu x1 (List.replicate ((8 : Int).toNat) [(CV.v (.int .u8 0))]) ((8 : Int).toNat) ((8 : Int).toNat) 7)))
theorem d_p124 (fu : Nat)  {K0 : EL → Prop} (L : EL → Nat) (hN : L = List.length) {x0 : EL} {x1 : Int} (h : p124 False fu K0 x0 x1) : Den Try.prog G0 124 [.c (.sl 1 x0 none), .c (.v (.int .u64 x1))] (fun r bs => (∃ (y0 : EL) (o0 : OV) (o1 : OV), (r = .c (.sl 1 y0 none) ∧ bs = [o0, o1]) ∧ K0 y0)) := by
  obtain ⟨O, hO⟩ : ∃ O, O = std 0 T G0 (Den Try.prog G0) := ⟨_, rfl⟩
  have hLO : L = O.len := by rw [hN, hO]; rfl
  subst hLO
  refine den_h hO tiA mixed tabOk (fn := Try.f124) (sh := true) (by kernel_rfl) rfl rfl rfl rfl ?_
  intro Q hQ
  unfold p124 at h
  conv => cbv
  refine and_h h (fun g => (by subst hO; exact g)) (fun h => ?_)
  refine and_h h (fun g => (by subst hO; exact g)) (fun h => ?_)
  refine and_h h (fun g => (by subst hO; exact g)) (fun h => ?_)
  refine loop_of hO tiA [0, 1, 5, 6] [8000] [] (fun (n : Nat) tm m => ∃ (z1 : Int) (z2 : EL) (z3 : Nat) (z4 : Nat) (z5 : Int), ((tm = frame 0 25 [(0, .c (.sl 1 x0 none)), (1, .c (.v (.int .u64 z1))), (5, .t 8000 0 z4), (6, .c (.v (.int .i64 z5)))] ∧ m = ⟨[(8000, .arr 0 1 z2 (some z3) false)], 1⟩)) ∧ p124_1L False fu  K0 x0 n z1 z2 z3 z4 z5) (fun n => n) fu ⟨x1, List.replicate ((8 : Int).toNat) [(CV.v (.int .u8 0))], ((8 : Int).toNat), ((8 : Int).toNat), 7, ⟨(by (conv => lhs; cbv) <;> (subst hO; rfl)), (by (conv => lhs; cbv) <;> (subst hO; rfl))⟩, h⟩ ?_
  rintro n1 tm m L ⟨z1, z2, z3, z4, z5, hs, h⟩ hLn1
  cases n1 with
  | zero => rw [p124_1L] at h; exact h.elim
  | succ n1 =>
    rw [p124_1L] at h
    unfold p124_1 at h
    obtain ⟨rfl, rfl⟩ := hs
    conv => cbv
    refine br_h hO h (by subst hO; rfl) (fun hc1 h => ?_) (fun hc1 h => ?_)
    · conv => cbv
      refine join_all hO ?_
      conv => cbv
      refine alt_l hO ?_
      conv => cbv
      refine and_h h (fun g => (by subst hO; exact g)) (fun h => ?_)
      refine and_h h (fun g => (by subst hO; exact g)) (fun h => ?_)
      refine and_h h (fun g => (by subst hO; exact g)) (fun h => ?_)
      refine and_h h (fun g => (by subst hO; exact g)) (fun h => ?_)
      refine and_h h (fun g => (by subst hO; exact g)) (fun h => ?_)
      refine and_h h (fun g => (by subst hO; exact g)) (fun h => ?_)
      refine and_h h (fun g => (by subst hO; exact g)) (fun h => ?_)
      exact hLn1 n1 _ _ (Nat.lt_succ_self n1) ⟨binStd .quo .u64 z1 256, List.set z2 ((z5 : Int).toNat) (putAt (List.getD z2 ((z5 : Int).toNat) []) 0 [(CV.v (.int .u8 (IntKind.u8.wrap (binStd .rem .u64 z1 256))))]), z3, z4, binStd .sub .i64 z5 1, ⟨(by (conv => lhs; cbv) <;> (subst hO; rfl)), (by (conv => lhs; cbv) <;> (subst hO; rfl))⟩, h⟩
    · conv => cbv
      refine and_h h (fun g => (by subst hO; exact g)) (fun h => ?_)
      refine and_h h (fun g => (by subst hO; exact g)) (fun h => ?_)
      refine alt_l hO ?_
      conv => cbv
      refine view_h hO h (fun g => (by subst hO; exact g)) (fun h => ?_)
      conv => cbv
      refine ⟨(by subst hO; rfl), ?_⟩
      refine and_h h (fun g => (by subst hO; exact g)) (fun h => ?_)
      refine view_full hO ?_
      conv => cbv
      rw [hQ]
      exact ⟨((nilE ++ x0) ++ (List.take z4 z2)), _, _, ⟨(by subst hO; rfl), (by subst hO; rfl)⟩, h⟩
end Go.Proofs.Ythncmjlcmlmnmaa

namespace Go.Proofs.Ythncmjlcmlmnmaa
open Go V
set_option maxRecDepth 100000
set_option maxHeartbeats 4000000
/-- ref25.handle -/
def p89 {ρ : Type} (fail : ρ) (fu : Nat)  (K0 : EL → ρ) (x0 : EL) (x1 : Int) (x2 : Int) : ρ :=
  p124 fail fu (fun y1 => p124 fail fu (fun y2 => K0 y2) y1 x2) x0 x1
theorem d_p89 (fu : Nat)  {K0 : EL → Prop} (L : EL → Nat) (hN : L = List.length) {x0 : EL} {x1 : Int} {x2 : Int} (h : p89 False fu K0 x0 x1 x2) : Den Try.prog G0 89 [.c (.sl 1 x0 none), .agg [.c (.v (.int .u64 x1)), .c (.v (.int .u64 x2))]] (fun r bs => (∃ (y0 : EL) (o0 : OV) (o1 : OV), (r = .c (.sl 1 y0 none) ∧ bs = [o0, o1]) ∧ K0 y0)) := by
  obtain ⟨O, hO⟩ : ∃ O, O = std 0 T G0 (Den Try.prog G0) := ⟨_, rfl⟩
  have hLO : L = O.len := by rw [hN, hO]; rfl
  subst hLO
  refine den_h hO tiA mixed tabOk (fn := Try.f89) (sh := true) (by kernel_rfl) rfl rfl rfl rfl ?_
  intro Q hQ
  unfold p89 at h
  conv => cbv
  refine drawn_of hO tiA [[], [], []] [(0, true, false), (1, true, false), (2, true, false), (4, true, false), (5, true, false), (3, false, false), (6, false, true), (7, true, true)] (by kernel_rfl) ?_
  conv => cbv
  refine call_h hO [.shut, .shut] (d_p124 fu O.len hN h) ?_
  intro os Q hos hQ
  conv => cbv
  refine ⟨(by (rw [hos]) <;> (subst hO; rfl)), ?_⟩
  intro r bs hq
  rw [hQ] at hq
  clear hos hQ h
  obtain ⟨y1, _, _, ⟨rfl, rfl⟩, h⟩ := hq
  conv => cbv
  refine ⟨agree_of hO (Nat.le_of_ble_eq_true rfl) rfl, ?_⟩
  refine call_h hO [.shut, .shut] (d_p124 fu O.len hN h) ?_
  intro os Q hos hQ
  conv => cbv
  refine ⟨(by (rw [hos]) <;> (subst hO; rfl)), ?_⟩
  intro r bs hq
  rw [hQ] at hq
  clear hos hQ h
  obtain ⟨y2, _, _, ⟨rfl, rfl⟩, h⟩ := hq
  conv => cbv
  refine join_all hO ?_
  conv => cbv
  rw [hQ]
  exact ⟨y2, _, _, ⟨(by subst hO; rfl), (by subst hO; rfl)⟩, h⟩
end Go.Proofs.Ythncmjlcmlmnmaa

namespace Go.Proofs.Ythncmjlcmlmnmaa
open Go V
set_option maxRecDepth 100000
set_option maxHeartbeats 4000000
/-- ref6.num -/
def p72 {ρ : Type} (fail : ρ) (fu : Nat)  (K0 : EL → ρ) (x0 : EL) (x1 : Int) : ρ :=
  p113 fail fu (fun y1 => K0 y1) x0 (IntKind.u64.wrap x1)
theorem d_p72 (fu : Nat)  {K0 : EL → Prop} (L : EL → Nat) (hN : L = List.length) {x0 : EL} {x1 : Int} (h : p72 False fu K0 x0 x1) : Den Try.prog G0 72 [.c (.sl 1 x0 none), .c (.v (.int .i64 x1))] (fun r bs => (∃ (y0 : EL) (o0 : OV) (o1 : OV), (r = .c (.sl 1 y0 none) ∧ bs = [o0, o1]) ∧ K0 y0)) := by
  obtain ⟨O, hO⟩ : ∃ O, O = std 0 T G0 (Den Try.prog G0) := ⟨_, rfl⟩
  have hLO : L = O.len := by rw [hN, hO]; rfl
  subst hLO
  refine den_h hO tiA mixed tabOk (fn := Try.f72) (sh := true) (by kernel_rfl) rfl rfl rfl rfl ?_
  intro Q hQ
  unfold p72 at h
  conv => cbv
  refine call_h hO [.shut, .shut] (d_p113 fu O.len hN h) ?_
  intro os Q hos hQ
  conv => cbv
  refine ⟨(by (rw [hos]) <;> (subst hO; rfl)), ?_⟩
  intro r bs hq
  rw [hQ] at hq
  clear hos hQ h
  obtain ⟨y1, _, _, ⟨rfl, rfl⟩, h⟩ := hq
  conv => cbv
  refine view_full hO ?_
  conv => cbv
  rw [hQ]
  exact ⟨y1, _, _, ⟨(by subst hO; rfl), (by subst hO; rfl)⟩, h⟩
end Go.Proofs.Ythncmjlcmlmnmaa

namespace Go.Proofs.Ythncmjlcmlmnmaa
open Go V
set_option maxRecDepth 100000
set_option maxHeartbeats 4000000
def p28_1 {ρ : Type} (fail : ρ) (fu : Nat) (s_p28 : (EL → ρ) → EL → Int → Int → EL → ρ) (K0 : EL → ρ) (rec1 : EL → Int → ρ) (x3 : EL) (z3 : EL) (z4 : Int) : ρ :=
  bif (cmpStd .lss z4 ((x3.length : Nat) : Int)) then (gd ((0 : Int) ≤ z4) fail (gd ((z4 : Int) < (x3.length : Nat)) fail (rw_i64_i64_l3 fail (List.getD x3 ((z4 : Int).toNat) []) (fun c5 c6 c7 => s_p28 (fun y8 => rec1 y8 (binStd .add .i64 z4 1)) z3 c5 c6 c7)))) else (K0 z3)
def p28_1L {ρ : Type} (fail : ρ) (fu : Nat) (s_p28 : (EL → ρ) → EL → Int → Int → EL → ρ) (K0 : EL → ρ)  (x3 : EL) : Nat → EL → Int → ρ
  | 0, _, _ => fail
  | n + 1, z3, z4 => p28_1 fail fu s_p28 K0 (p28_1L fail fu s_p28 K0  x3 n) x3 z3 z4
def p28_2 {ρ : Type} (fail : ρ) (fu : Nat) (s_p28 : (EL → ρ) → EL → Int → Int → EL → ρ) (K0 : EL → ρ)  (x3 : EL) (j2 : EL) : ρ :=
  p28_1L fail fu s_p28 K0 x3 fu j2 0
/-- ref6.Level -/
def p28_b {ρ : Type} (fail : ρ) (fu : Nat) (s_p28 : (EL → ρ) → EL → Int → Int → EL → ρ) (K0 : EL → ρ) (x0 : EL) (x1 : Int) (x2 : Int) (x3 : EL) : ρ :=
  p72 fail fu (fun y1 => bif (cmpStd .eql x1 4) then (p72 fail fu (fun y9 => p28_2 fail fu s_p28 K0 x3 y9) y1 x2) else (p28_2 fail fu s_p28 K0 x3 y1)) x0 x1
def p28 {ρ : Type} (fail : ρ) : Nat → (EL → ρ) → EL → Int → Int → EL → ρ
  | 0, _, _, _, _, _ => fail
  | n + 1, K0, x0, x1, x2, x3 => p28_b fail n (p28 fail n) K0 x0 x1 x2 x3
def D_p28 (fu : Nat) : Prop := ∀ {K0 : EL → Prop} (L : EL → Nat) (_ : L = List.length) {x0 : EL} {x1 : Int} {x2 : Int} {x3 : EL} (_ : p28 False fu K0 x0 x1 x2 x3), Den Try.prog G0 28 [.c (.sl 1 x0 none), .agg [.c (.v (.int .i64 x1)), .c (.v (.int .i64 x2)), .c (.sl 3 x3 none)]] (fun r bs => (∃ (y0 : EL) (o0 : OV) (o1 : OV), (r = .c (.sl 1 y0 none) ∧ bs = [o0, o1]) ∧ K0 y0))
theorem b_p28 (fu : Nat) (ih_p28 : D_p28 fu) {K0 : EL → Prop} (L : EL → Nat) (hN : L = List.length) {x0 : EL} {x1 : Int} {x2 : Int} {x3 : EL} (h : p28_b False fu (p28 False fu) K0 x0 x1 x2 x3) : Den Try.prog G0 28 [.c (.sl 1 x0 none), .agg [.c (.v (.int .i64 x1)), .c (.v (.int .i64 x2)), .c (.sl 3 x3 none)]] (fun r bs => (∃ (y0 : EL) (o0 : OV) (o1 : OV), (r = .c (.sl 1 y0 none) ∧ bs = [o0, o1]) ∧ K0 y0)) := by
  obtain ⟨O, hO⟩ : ∃ O, O = std 0 T G0 (Den Try.prog G0) := ⟨_, rfl⟩
  have hLO : L = O.len := by rw [hN, hO]; rfl
  subst hLO
  refine den_h hO tiA mixed tabOk (fn := Try.f28) (sh := true) (by kernel_rfl) rfl rfl rfl rfl ?_
  intro Q hQ
  unfold p28_b at h
  conv => cbv
  refine call_h hO [.shut, .shut] (d_p72 fu O.len hN h) ?_
  intro os Q hos hQ
  conv => cbv
  refine ⟨(by (rw [hos]) <;> (subst hO; rfl)), ?_⟩
  intro r bs hq
  rw [hQ] at hq
  clear hos hQ h
  obtain ⟨y1, _, _, ⟨rfl, rfl⟩, h⟩ := hq
  conv => cbv
  refine br_join_h hO tiA h (by subst hO; rfl) [0, 3] [4000] [] (fun tm m => ∃ (j2 : EL), ((tm = frame 0 32 [(0, .c (.sl 1 j2 none)), (3, .p 4000 0 0)] ∧ m = ⟨[(4000, .blk 0 [.c (.v (.int .i64 x1)), .c (.v (.int .i64 x2)), .c (.sl 3 x3 none)])], 1⟩)) ∧ p28_2 False fu (p28 False fu) K0 x3 j2) (fun hc2 h L hL_2 => ?_) (fun hc2 h L hL_2 => ?_) ?_
  · conv => cbv
    refine call_h hO [.shut, .shut] (d_p72 fu O.len hN h) ?_
    intro os Q hos hQ
    conv => cbv
    refine ⟨(by (rw [hos]) <;> (subst hO; rfl)), ?_⟩
    intro r bs hq
    rw [hQ] at hq
    clear hos hQ h
    obtain ⟨y9, _, _, ⟨rfl, rfl⟩, h⟩ := hq
    conv => cbv
    exact hL_2 _ _ ⟨y9, ⟨(by (conv => lhs; cbv) <;> (subst hO; rfl)), (by (conv => lhs; cbv) <;> (subst hO; rfl))⟩, h⟩
  · conv => cbv
    exact hL_2 _ _ ⟨y1, ⟨(by (conv => lhs; cbv) <;> (subst hO; rfl)), (by (conv => lhs; cbv) <;> (subst hO; rfl))⟩, h⟩
  · rintro tm m ⟨j2, hs, h⟩
    unfold p28_2 at h
    obtain ⟨rfl, rfl⟩ := hs
    conv => cbv
    refine loop_of hO tiA [0, 3, 5] [4000] [] (fun (n : Nat) tm m => ∃ (z3 : EL) (z4 : Int), ((tm = frame 0 32 [(0, .c (.sl 1 z3 none)), (3, .p 4000 0 0), (5, .c (.v (.int .i64 z4)))] ∧ m = ⟨[(4000, .blk 0 [.c (.v (.int .i64 x1)), .c (.v (.int .i64 x2)), .c (.sl 3 x3 none)])], 1⟩)) ∧ p28_1L False fu (p28 False fu) K0 x3 n z3 z4) (fun n => n) fu ⟨j2, 0, ⟨(by (conv => lhs; cbv) <;> (subst hO; rfl)), (by (conv => lhs; cbv) <;> (subst hO; rfl))⟩, h⟩ ?_
    rintro n1 tm m L ⟨z3, z4, hs, h⟩ hLn1
    cases n1 with
    | zero => rw [p28_1L] at h; exact h.elim
    | succ n1 =>
      rw [p28_1L] at h
      unfold p28_1 at h
      obtain ⟨rfl, rfl⟩ := hs
      conv => cbv
      refine br_h hO h (by subst hO; rfl) (fun hc1 h => ?_) (fun hc1 h => ?_)
      · conv => cbv
        refine join_all hO ?_
        conv => cbv
        refine and_h h (fun g => (by subst hO; exact g)) (fun h => ?_)
        refine and_h h (fun g => (by subst hO; exact g)) (fun h => ?_)
        obtain ⟨c5, c6, c7, hr, h⟩ := rw_i64_i64_l3_inv h
        refine elem_of hO _ (by subst hO; exact hr) ?_
        clear hr
        conv => cbv
        refine call_h hO [.shut, .shut] (ih_p28 O.len hN h) ?_
        intro os Q hos hQ
        conv => cbv
        refine ⟨(by (rw [hos]) <;> (subst hO; rfl)), ?_⟩
        intro r bs hq
        rw [hQ] at hq
        clear hos hQ h
        obtain ⟨y8, _, _, ⟨rfl, rfl⟩, h⟩ := hq
        conv => cbv
        exact hLn1 n1 _ _ (Nat.lt_succ_self n1) ⟨y8, binStd .add .i64 z4 1, ⟨(by (conv => lhs; cbv) <;> (subst hO; rfl)), (by (conv => lhs; cbv) <;> (subst hO; rfl))⟩, h⟩
      · conv => cbv
        rw [hQ]
        exact ⟨z3, _, _, ⟨(by subst hO; rfl), (by subst hO; rfl)⟩, h⟩
theorem dd_p28 (fu : Nat) : D_p28 fu := by
  induction fu with
  | zero => unfold D_p28; intros; rename_i h; rw [p28] at h; exact h.elim
  | succ n ih =>
    exact (by unfold D_p28; intro K0 L hN x0 x1 x2 x3 h; exact b_p28 n ih L hN (by rw [p28] at h; exact h))
theorem d_p28 (fu : Nat) {K0 : EL → Prop} (L : EL → Nat) (hL : L = List.length) {x0 : EL} {x1 : Int} {x2 : Int} {x3 : EL} (h : p28 False fu K0 x0 x1 x2 x3) : Den Try.prog G0 28 [.c (.sl 1 x0 none), .agg [.c (.v (.int .i64 x1)), .c (.v (.int .i64 x2)), .c (.sl 3 x3 none)]] (fun r bs => (∃ (y0 : EL) (o0 : OV) (o1 : OV), (r = .c (.sl 1 y0 none) ∧ bs = [o0, o1]) ∧ K0 y0)) := dd_p28 fu L hL h
end Go.Proofs.Ythncmjlcmlmnmaa

namespace Go.Proofs.Ythncmjlcmlmnmaa
open Go V
set_option maxRecDepth 100000
set_option maxHeartbeats 4000000
/-- ref1.Text -/
def p90 {ρ : Type} (fail : ρ) (fu : Nat)  (K0 : EL → ρ) (x0 : EL) (x1 : EL) : ρ :=
  p113 fail fu (fun y1 => gd ((y1.length + x1.length) * 1 ≤ 35184372088832) fail (K0 (y1 ++ x1))) x0 (IntKind.u64.wrap ((x1.length : Nat) : Int))
theorem d_p90 (fu : Nat)  {K0 : EL → Prop} (L : EL → Nat) (hN : L = List.length) {x0 : EL} {x1 : EL} (h : p90 False fu K0 x0 x1) : Den Try.prog G0 90 [.c (.sl 1 x0 none), .c (.sl 1 x1 none)] (fun r bs => (∃ (y0 : EL) (o0 : OV) (o1 : OV), (r = .c (.sl 1 y0 none) ∧ bs = [o0, o1]) ∧ K0 y0)) := by
  obtain ⟨O, hO⟩ : ∃ O, O = std 0 T G0 (Den Try.prog G0) := ⟨_, rfl⟩
  have hLO : L = O.len := by rw [hN, hO]; rfl
  subst hLO
  refine den_h hO tiA mixed tabOk (fn := Try.f90) (sh := true) (by kernel_rfl) rfl rfl rfl rfl ?_
  intro Q hQ
  unfold p90 at h
  conv => cbv
  refine call_h hO [.shut, .shut] (d_p113 fu O.len hN h) ?_
  intro os Q hos hQ
  conv => cbv
  refine ⟨(by (rw [hos]) <;> (subst hO; rfl)), ?_⟩
  intro r bs hq
  rw [hQ] at hq
  clear hos hQ h
  obtain ⟨y1, _, _, ⟨rfl, rfl⟩, h⟩ := hq
  conv => cbv
  refine ⟨(by subst hO; rfl), ?_⟩
  refine and_h h (fun g => (by subst hO; exact g)) (fun h => ?_)
  refine view_full hO ?_
  conv => cbv
  rw [hQ]
  exact ⟨(y1 ++ x1), _, _, ⟨(by subst hO; rfl), (by subst hO; rfl)⟩, h⟩
end Go.Proofs.Ythncmjlcmlmnmaa

namespace Go.Proofs.Ythncmjlcmlmnmaa
open Go V
set_option maxRecDepth 100000
set_option maxHeartbeats 4000000
/-- ref6.text -/
def p73 {ρ : Type} (fail : ρ) (fu : Nat)  (K0 : EL → ρ) (x0 : EL) (x1 : ByteArray) : ρ :=
  gd (x1.size ≤ (encB x1.data.toList).length) fail (p90 fail fu (fun y1 => K0 y1) x0 (List.take x1.size (encB x1.data.toList)))
theorem d_p73 (fu : Nat)  {K0 : EL → Prop} (L : EL → Nat) (hN : L = List.length) {x0 : EL} {x1 : ByteArray} (h : p73 False fu K0 x0 x1) : Den Try.prog G0 73 [.c (.sl 1 x0 none), .c (.v (.string x1))] (fun r bs => (∃ (y0 : EL) (o0 : OV) (o1 : OV), (r = .c (.sl 1 y0 none) ∧ bs = [o0, o1]) ∧ K0 y0)) := by
  obtain ⟨O, hO⟩ : ∃ O, O = std 0 T G0 (Den Try.prog G0) := ⟨_, rfl⟩
  have hLO : L = O.len := by rw [hN, hO]; rfl
  subst hLO
  refine den_h hO tiA mixed tabOk (fn := Try.f73) (sh := true) (by kernel_rfl) rfl rfl rfl rfl ?_
  intro Q hQ
  unfold p73 at h
  conv => cbv
  obtain ⟨hc1, h⟩ := gd_inv h
  refine call_h hO [.shut, .shut] (d_p90 fu O.len hN h) ?_
  intro os Q hos hQ
  conv => cbv
  refine view_of hO (by subst hO; exact hc1) ?_
  conv => cbv
  refine ⟨(by (rw [hos]) <;> (subst hO; rfl)), ?_⟩
  intro r bs hq
  rw [hQ] at hq
  clear hos hQ h
  obtain ⟨y1, _, _, ⟨rfl, rfl⟩, h⟩ := hq
  conv => cbv
  rw [hQ]
  exact ⟨y1, _, _, ⟨(by subst hO; rfl), (by subst hO; rfl)⟩, h⟩
end Go.Proofs.Ythncmjlcmlmnmaa

namespace Go.Proofs.Ythncmjlcmlmnmaa
open Go V
set_option maxRecDepth 100000
set_option maxHeartbeats 4000000
def p29_1 {ρ : Type} (fail : ρ) (fu : Nat) (s_p29 : (EL → ρ) → EL → Int → Int → ByteArray → EL → EL → ρ) (K0 : EL → ρ) (rec1 : EL → Int → ρ) (x5 : EL) (z3 : EL) (z4 : Int) : ρ :=
  bif (cmpStd .lss z4 ((x5.length : Nat) : Int)) then (gd ((0 : Int) ≤ z4) fail (gd ((z4 : Int) < (x5.length : Nat)) fail (rw_i64_i64_s_l3_l5 fail (List.getD x5 ((z4 : Int).toNat) []) (fun c5 c6 c7 c8 c9 => s_p29 (fun y10 => rec1 y10 (binStd .add .i64 z4 1)) z3 c5 c6 c7 c8 c9)))) else (K0 z3)
def p29_1L {ρ : Type} (fail : ρ) (fu : Nat) (s_p29 : (EL → ρ) → EL → Int → Int → ByteArray → EL → EL → ρ) (K0 : EL → ρ)  (x5 : EL) : Nat → EL → Int → ρ
  | 0, _, _ => fail
  | n + 1, z3, z4 => p29_1 fail fu s_p29 K0 (p29_1L fail fu s_p29 K0  x5 n) x5 z3 z4
def p29_2 {ρ : Type} (fail : ρ) (fu : Nat) (s_p29 : (EL → ρ) → EL → Int → Int → ByteArray → EL → EL → ρ) (K0 : EL → ρ)  (x5 : EL) (j2 : EL) : ρ :=
  p29_1L fail fu s_p29 K0 x5 fu j2 0
def p29_3 {ρ : Type} (fail : ρ) (fu : Nat) (s_p29 : (EL → ρ) → EL → Int → Int → ByteArray → EL → EL → ρ) (K0 : EL → ρ)  (x5 : EL) (j12 : EL) : ρ :=
  p29_2 fail fu s_p29 K0 x5 j12
def p29_4 {ρ : Type} (fail : ρ) (fu : Nat) (s_p29 : (EL → ρ) → EL → Int → Int → ByteArray → EL → EL → ρ) (K0 : EL → ρ)  (x5 : EL) (j17 : EL) : ρ :=
  p29_3 fail fu s_p29 K0 x5 j17
def p29_5 {ρ : Type} (fail : ρ) (fu : Nat) (s_p29 : (EL → ρ) → EL → Int → Int → ByteArray → EL → EL → ρ) (K0 : EL → ρ) (rec2 : EL → Int → ρ) (x4 : EL) (x5 : EL) (z20 : EL) (z21 : Int) : ρ :=
  bif (cmpStd .lss z21 ((x4.length : Nat) : Int)) then (gd ((0 : Int) ≤ z21) fail (gd ((z21 : Int) < (x4.length : Nat)) fail (rw_i64_i64_l3 fail (List.getD x4 ((z21 : Int).toNat) []) (fun c22 c23 c24 => p28 fail fu (fun y25 => rec2 y25 (binStd .add .i64 z21 1)) z20 c22 c23 c24)))) else (p29_4 fail fu s_p29 K0 x5 z20)
def p29_5L {ρ : Type} (fail : ρ) (fu : Nat) (s_p29 : (EL → ρ) → EL → Int → Int → ByteArray → EL → EL → ρ) (K0 : EL → ρ)  (x4 : EL) (x5 : EL) : Nat → EL → Int → ρ
  | 0, _, _ => fail
  | n + 1, z20, z21 => p29_5 fail fu s_p29 K0 (p29_5L fail fu s_p29 K0  x4 x5 n) x4 x5 z20 z21
/-- ref6.Term -/
def p29_b {ρ : Type} (fail : ρ) (fu : Nat) (s_p29 : (EL → ρ) → EL → Int → Int → ByteArray → EL → EL → ρ) (K0 : EL → ρ) (x0 : EL) (x1 : Int) (x2 : Int) (x3 : ByteArray) (x4 : EL) (x5 : EL) : ρ :=
  p72 fail fu (fun y1 => bif (cmpStd .eql x1 0) then (p72 fail fu (fun y11 => p29_2 fail fu s_p29 K0 x5 y11) y1 x2) else (bif (cmpStd .eql x1 1) then (gd ((0 : Int) ≤ 0) fail (gd ((0 : Int) < (x4.length : Nat)) fail (rw_i64_i64_l3 fail (List.getD x4 ((0 : Int).toNat) []) (fun c13 c14 c15 => p28 fail fu (fun y16 => p29_3 fail fu s_p29 K0 x5 y16) y1 c13 c14 c15)))) else (bif (cmpStd .eql x1 2) then (p73 fail fu (fun y18 => p72 fail fu (fun y19 => p29_5L fail fu s_p29 K0 x4 x5 fu y19 0) y18 ((x4.length : Nat) : Int)) y1 x3) else (p29_4 fail fu s_p29 K0 x5 y1)))) x0 x1
def p29 {ρ : Type} (fail : ρ) : Nat → (EL → ρ) → EL → Int → Int → ByteArray → EL → EL → ρ
  | 0, _, _, _, _, _, _, _ => fail
  | n + 1, K0, x0, x1, x2, x3, x4, x5 => p29_b fail n (p29 fail n) K0 x0 x1 x2 x3 x4 x5
def D_p29 (fu : Nat) : Prop := ∀ {K0 : EL → Prop} (L : EL → Nat) (_ : L = List.length) {x0 : EL} {x1 : Int} {x2 : Int} {x3 : ByteArray} {x4 : EL} {x5 : EL} (_ : p29 False fu K0 x0 x1 x2 x3 x4 x5), Den Try.prog G0 29 [.c (.sl 1 x0 none), .agg [.c (.v (.int .i64 x1)), .c (.v (.int .i64 x2)), .c (.v (.string x3)), .c (.sl 3 x4 none), .c (.sl 5 x5 none)]] (fun r bs => (∃ (y0 : EL) (o0 : OV) (o1 : OV), (r = .c (.sl 1 y0 none) ∧ bs = [o0, o1]) ∧ K0 y0))
theorem b_p29 (fu : Nat) (ih_p29 : D_p29 fu) {K0 : EL → Prop} (L : EL → Nat) (hN : L = List.length) {x0 : EL} {x1 : Int} {x2 : Int} {x3 : ByteArray} {x4 : EL} {x5 : EL} (h : p29_b False fu (p29 False fu) K0 x0 x1 x2 x3 x4 x5) : Den Try.prog G0 29 [.c (.sl 1 x0 none), .agg [.c (.v (.int .i64 x1)), .c (.v (.int .i64 x2)), .c (.v (.string x3)), .c (.sl 3 x4 none), .c (.sl 5 x5 none)]] (fun r bs => (∃ (y0 : EL) (o0 : OV) (o1 : OV), (r = .c (.sl 1 y0 none) ∧ bs = [o0, o1]) ∧ K0 y0)) := by
  obtain ⟨O, hO⟩ : ∃ O, O = std 0 T G0 (Den Try.prog G0) := ⟨_, rfl⟩
  have hLO : L = O.len := by rw [hN, hO]; rfl
  subst hLO
  refine den_h hO tiA mixed tabOk (fn := Try.f29) (sh := true) (by kernel_rfl) rfl rfl rfl rfl ?_
  intro Q hQ
  unfold p29_b at h
  conv => cbv
  refine call_h hO [.shut, .shut] (d_p72 fu O.len hN h) ?_
  intro os Q hos hQ
  conv => cbv
  refine ⟨(by (rw [hos]) <;> (subst hO; rfl)), ?_⟩
  intro r bs hq
  rw [hQ] at hq
  clear hos hQ h
  obtain ⟨y1, _, _, ⟨rfl, rfl⟩, h⟩ := hq
  conv => cbv
  refine br_join_h hO tiA h (by subst hO; rfl) [0, 3] [4000] [] (fun tm m => ∃ (j2 : EL), ((tm = frame 0 66 [(0, .c (.sl 1 j2 none)), (3, .p 4000 0 0)] ∧ m = ⟨[(4000, .blk 0 [.c (.v (.int .i64 x1)), .c (.v (.int .i64 x2)), .c (.v (.string x3)), .c (.sl 3 x4 none), .c (.sl 5 x5 none)])], 1⟩)) ∧ p29_2 False fu (p29 False fu) K0 x5 j2) (fun hc2 h L hL_2 => ?_) (fun hc2 h L hL_2 => ?_) ?_
  · conv => cbv
    refine call_h hO [.shut, .shut] (d_p72 fu O.len hN h) ?_
    intro os Q hos hQ
    conv => cbv
    refine ⟨(by (rw [hos]) <;> (subst hO; rfl)), ?_⟩
    intro r bs hq
    rw [hQ] at hq
    clear hos hQ h
    obtain ⟨y11, _, _, ⟨rfl, rfl⟩, h⟩ := hq
    conv => cbv
    exact hL_2 _ _ ⟨y11, ⟨(by (conv => lhs; cbv) <;> (subst hO; rfl)), (by (conv => lhs; cbv) <;> (subst hO; rfl))⟩, h⟩
  · conv => cbv
    refine br_join_h hO tiA h (by subst hO; rfl) [0, 3] [4000] [] (fun tm m => ∃ (j12 : EL), ((tm = frame 0 66 [(0, .c (.sl 1 j12 none)), (3, .p 4000 0 0)] ∧ m = ⟨[(4000, .blk 0 [.c (.v (.int .i64 x1)), .c (.v (.int .i64 x2)), .c (.v (.string x3)), .c (.sl 3 x4 none), .c (.sl 5 x5 none)])], 1⟩)) ∧ p29_3 False fu (p29 False fu) K0 x5 j12) (fun hc3 h L hL_3 => ?_) (fun hc3 h L hL_3 => ?_) ?_
    · conv => cbv
      refine and_h h (fun g => (by subst hO; exact g)) (fun h => ?_)
      refine and_h h (fun g => (by subst hO; exact g)) (fun h => ?_)
      obtain ⟨c13, c14, c15, hr, h⟩ := rw_i64_i64_l3_inv h
      refine elem_of hO _ (by subst hO; exact hr) ?_
      clear hr
      conv => cbv
      refine call_h hO [.shut, .shut] (d_p28 fu O.len hN h) ?_
      intro os Q hos hQ
      conv => cbv
      refine ⟨(by (rw [hos]) <;> (subst hO; rfl)), ?_⟩
      intro r bs hq
      rw [hQ] at hq
      clear hos hQ h
      obtain ⟨y16, _, _, ⟨rfl, rfl⟩, h⟩ := hq
      conv => cbv
      exact hL_3 _ _ ⟨y16, ⟨(by (conv => lhs; cbv) <;> (subst hO; rfl)), (by (conv => lhs; cbv) <;> (subst hO; rfl))⟩, h⟩
    · conv => cbv
      refine br_join_h hO tiA h (by subst hO; rfl) [0, 3] [4000] [] (fun tm m => ∃ (j17 : EL), ((tm = frame 0 66 [(0, .c (.sl 1 j17 none)), (3, .p 4000 0 0)] ∧ m = ⟨[(4000, .blk 0 [.c (.v (.int .i64 x1)), .c (.v (.int .i64 x2)), .c (.v (.string x3)), .c (.sl 3 x4 none), .c (.sl 5 x5 none)])], 1⟩)) ∧ p29_4 False fu (p29 False fu) K0 x5 j17) (fun hc4 h L hL_4 => ?_) (fun hc4 h L hL_4 => ?_) ?_
      · conv => cbv
        refine drawn_of hO tiA [[], [], []] [(0, true, false), (1, true, false), (2, true, false), (4, true, false), (5, true, false), (6, true, false), (3, false, false), (7, false, true), (8, true, true)] (by kernel_rfl) ?_
        conv => cbv
        refine call_h hO [.shut, .shut] (d_p73 fu O.len hN h) ?_
        intro os Q hos hQ
        conv => cbv
        refine ⟨(by (rw [hos]) <;> (subst hO; rfl)), ?_⟩
        intro r bs hq
        rw [hQ] at hq
        clear hos hQ h
        obtain ⟨y18, _, _, ⟨rfl, rfl⟩, h⟩ := hq
        conv => cbv
        refine ⟨agree_of hO (Nat.le_of_ble_eq_true rfl) rfl, ?_⟩
        refine call_h hO [.shut, .shut] (d_p72 fu O.len hN h) ?_
        intro os Q hos hQ
        conv => cbv
        refine ⟨(by (rw [hos]) <;> (subst hO; rfl)), ?_⟩
        intro r bs hq
        rw [hQ] at hq
        clear hos hQ h
        obtain ⟨y19, _, _, ⟨rfl, rfl⟩, h⟩ := hq
        conv => cbv
        refine join_all hO ?_
        conv => cbv
        refine loop_of hO tiA [0, 3, 5] [4000] [] (fun (n : Nat) tm m => ∃ (z20 : EL) (z21 : Int), ((tm = frame 0 66 [(0, .c (.sl 1 z20 none)), (3, .p 4000 0 0), (5, .c (.v (.int .i64 z21)))] ∧ m = ⟨[(4000, .blk 0 [.c (.v (.int .i64 x1)), .c (.v (.int .i64 x2)), .c (.v (.string x3)), .c (.sl 3 x4 none), .c (.sl 5 x5 none)])], 1⟩)) ∧ p29_5L False fu (p29 False fu) K0 x4 x5 n z20 z21) (fun n => n) fu ⟨y19, 0, ⟨(by (conv => lhs; cbv) <;> (subst hO; rfl)), (by (conv => lhs; cbv) <;> (subst hO; rfl))⟩, h⟩ ?_
        rintro n2 tm m L ⟨z20, z21, hs, h⟩ hLn2
        cases n2 with
        | zero => rw [p29_5L] at h; exact h.elim
        | succ n2 =>
          rw [p29_5L] at h
          unfold p29_5 at h
          obtain ⟨rfl, rfl⟩ := hs
          conv => cbv
          refine br_h hO h (by subst hO; rfl) (fun hc5 h => ?_) (fun hc5 h => ?_)
          · conv => cbv
            refine join_all hO ?_
            conv => cbv
            refine and_h h (fun g => (by subst hO; exact g)) (fun h => ?_)
            refine and_h h (fun g => (by subst hO; exact g)) (fun h => ?_)
            obtain ⟨c22, c23, c24, hr, h⟩ := rw_i64_i64_l3_inv h
            refine elem_of hO _ (by subst hO; exact hr) ?_
            clear hr
            conv => cbv
            refine call_h hO [.shut, .shut] (d_p28 fu O.len hN h) ?_
            intro os Q hos hQ
            conv => cbv
            refine ⟨(by (rw [hos]) <;> (subst hO; rfl)), ?_⟩
            intro r bs hq
            rw [hQ] at hq
            clear hos hQ h
            obtain ⟨y25, _, _, ⟨rfl, rfl⟩, h⟩ := hq
            conv => cbv
            exact hLn2 n2 _ _ (Nat.lt_succ_self n2) ⟨y25, binStd .add .i64 z21 1, ⟨(by (conv => lhs; cbv) <;> (subst hO; rfl)), (by (conv => lhs; cbv) <;> (subst hO; rfl))⟩, h⟩
          · conv => cbv
            exact hL_4 _ _ ⟨z20, ⟨(by (conv => lhs; cbv) <;> (subst hO; rfl)), (by (conv => lhs; cbv) <;> (subst hO; rfl))⟩, h⟩
      · conv => cbv
        exact hL_4 _ _ ⟨y1, ⟨(by (conv => lhs; cbv) <;> (subst hO; rfl)), (by (conv => lhs; cbv) <;> (subst hO; rfl))⟩, h⟩
      · rintro tm m ⟨j17, hs, h⟩
        unfold p29_4 at h
        obtain ⟨rfl, rfl⟩ := hs
        conv => cbv
        exact hL_3 _ _ ⟨j17, ⟨(by (conv => lhs; cbv) <;> (subst hO; rfl)), (by (conv => lhs; cbv) <;> (subst hO; rfl))⟩, h⟩
    · rintro tm m ⟨j12, hs, h⟩
      unfold p29_3 at h
      obtain ⟨rfl, rfl⟩ := hs
      conv => cbv
      exact hL_2 _ _ ⟨j12, ⟨(by (conv => lhs; cbv) <;> (subst hO; rfl)), (by (conv => lhs; cbv) <;> (subst hO; rfl))⟩, h⟩
  · rintro tm m ⟨j2, hs, h⟩
    unfold p29_2 at h
    obtain ⟨rfl, rfl⟩ := hs
    conv => cbv
    refine loop_of hO tiA [0, 3, 6] [4000] [] (fun (n : Nat) tm m => ∃ (z3 : EL) (z4 : Int), ((tm = frame 0 66 [(0, .c (.sl 1 z3 none)), (3, .p 4000 0 0), (6, .c (.v (.int .i64 z4)))] ∧ m = ⟨[(4000, .blk 0 [.c (.v (.int .i64 x1)), .c (.v (.int .i64 x2)), .c (.v (.string x3)), .c (.sl 3 x4 none), .c (.sl 5 x5 none)])], 1⟩)) ∧ p29_1L False fu (p29 False fu) K0 x5 n z3 z4) (fun n => n) fu ⟨j2, 0, ⟨(by (conv => lhs; cbv) <;> (subst hO; rfl)), (by (conv => lhs; cbv) <;> (subst hO; rfl))⟩, h⟩ ?_
    rintro n1 tm m L ⟨z3, z4, hs, h⟩ hLn1
    cases n1 with
    | zero => rw [p29_1L] at h; exact h.elim
    | succ n1 =>
      rw [p29_1L] at h
      unfold p29_1 at h
      obtain ⟨rfl, rfl⟩ := hs
      conv => cbv
      refine br_h hO h (by subst hO; rfl) (fun hc1 h => ?_) (fun hc1 h => ?_)
      · conv => cbv
        refine join_all hO ?_
        conv => cbv
        refine and_h h (fun g => (by subst hO; exact g)) (fun h => ?_)
        refine and_h h (fun g => (by subst hO; exact g)) (fun h => ?_)
        obtain ⟨c5, c6, c7, c8, c9, hr, h⟩ := rw_i64_i64_s_l3_l5_inv h
        refine elem_of hO _ (by subst hO; exact hr) ?_
        clear hr
        conv => cbv
        refine call_h hO [.shut, .shut] (ih_p29 O.len hN h) ?_
        intro os Q hos hQ
        conv => cbv
        refine ⟨(by (rw [hos]) <;> (subst hO; rfl)), ?_⟩
        intro r bs hq
        rw [hQ] at hq
        clear hos hQ h
        obtain ⟨y10, _, _, ⟨rfl, rfl⟩, h⟩ := hq
        conv => cbv
        exact hLn1 n1 _ _ (Nat.lt_succ_self n1) ⟨y10, binStd .add .i64 z4 1, ⟨(by (conv => lhs; cbv) <;> (subst hO; rfl)), (by (conv => lhs; cbv) <;> (subst hO; rfl))⟩, h⟩
      · conv => cbv
        rw [hQ]
        exact ⟨z3, _, _, ⟨(by subst hO; rfl), (by subst hO; rfl)⟩, h⟩
theorem dd_p29 (fu : Nat) : D_p29 fu := by
  induction fu with
  | zero => unfold D_p29; intros; rename_i h; rw [p29] at h; exact h.elim
  | succ n ih =>
    exact (by unfold D_p29; intro K0 L hN x0 x1 x2 x3 x4 x5 h; exact b_p29 n ih L hN (by rw [p29] at h; exact h))
theorem d_p29 (fu : Nat) {K0 : EL → Prop} (L : EL → Nat) (hL : L = List.length) {x0 : EL} {x1 : Int} {x2 : Int} {x3 : ByteArray} {x4 : EL} {x5 : EL} (h : p29 False fu K0 x0 x1 x2 x3 x4 x5) : Den Try.prog G0 29 [.c (.sl 1 x0 none), .agg [.c (.v (.int .i64 x1)), .c (.v (.int .i64 x2)), .c (.v (.string x3)), .c (.sl 3 x4 none), .c (.sl 5 x5 none)]] (fun r bs => (∃ (y0 : EL) (o0 : OV) (o1 : OV), (r = .c (.sl 1 y0 none) ∧ bs = [o0, o1]) ∧ K0 y0)) := dd_p29 fu L hL h
end Go.Proofs.Ythncmjlcmlmnmaa

namespace Go.Proofs.Ythncmjlcmlmnmaa
open Go V
set_option maxRecDepth 100000
set_option maxHeartbeats 4000000
def p44_1 {ρ : Type} (fail : ρ) (fu : Nat)  (K0 : EL → ρ) (rec1 : EL → Int → ρ) (x13 : EL) (z11 : EL) (z12 : Int) : ρ :=
  bif (cmpStd .lss z12 ((x13.length : Nat) : Int)) then (gd ((0 : Int) ≤ z12) fail (gd ((z12 : Int) < (x13.length : Nat)) fail (rw_s fail (List.getD x13 ((z12 : Int).toNat) []) (fun c13 => gd (c13.size ≤ (encB c13.data.toList).length) fail (p90 fail fu (fun y14 => rec1 y14 (binStd .add .i64 z12 1)) z11 (List.take c13.size (encB c13.data.toList))))))) else (K0 z11)
def p44_1L {ρ : Type} (fail : ρ) (fu : Nat)  (K0 : EL → ρ)  (x13 : EL) : Nat → EL → Int → ρ
  | 0, _, _ => fail
  | n + 1, z11, z12 => p44_1 fail fu  K0 (p44_1L fail fu  K0  x13 n) x13 z11 z12
def p44_2 {ρ : Type} (fail : ρ) (fu : Nat)  (K0 : EL → ρ)  (x12 : Int) (x13 : EL) (j8 : EL) : ρ :=
  p88 fail fu (fun y9 => p88 fail fu (fun y10 => p44_1L fail fu  K0 x13 fu y10 0) y9 ((x13.length : Nat) : Int)) j8 x12
def p44_3 {ρ : Type} (fail : ρ) (fu : Nat)  (K0 : EL → ρ)  (x7 : Int) (x8 : Int) (x9 : ByteArray) (x10 : EL) (x11 : EL) (x12 : Int) (x13 : EL) (y4 : EL) (j5 : Int) : ρ :=
  p88 fail fu (fun y6 => p19 fail fu (fun y7 => bif y7 then (p88 fail fu (fun y15 => p44_2 fail fu  K0 x12 x13 y15) y6 0) else (p88 fail fu (fun y16 => p29 fail fu (fun y17 => p44_2 fail fu  K0 x12 x13 y17) y16 x7 x8 x9 x10 x11) y6 1)) x7 x8 x9 x10 x11 0 0 ⟨#[]⟩ nilE nilE) y4 j5
/-- ref25.Reply -/
def p44 {ρ : Type} (fail : ρ) (fu : Nat)  (K0 : EL → ρ) (x0 : EL) (x1 : Int) (x2 : Int) (x3 : Int) (x4 : Int) (x5 : Int) (x6 : Bool) (x7 : Int) (x8 : Int) (x9 : ByteArray) (x10 : EL) (x11 : EL) (x12 : Int) (x13 : EL) : ρ :=
  p88 fail fu (fun y1 => p89 fail fu (fun y2 => p88 fail fu (fun y3 => p88 fail fu (fun y4 => bif x6 then (p44_3 fail fu  K0 x7 x8 x9 x10 x11 x12 x13 y4 1) else (p44_3 fail fu  K0 x7 x8 x9 x10 x11 x12 x13 y4 0)) y3 x5) y2 x4) y1 x2 x3) x0 x1
theorem d_p44 (fu : Nat)  {K0 : EL → Prop} (L : EL → Nat) (hN : L = List.length) {x0 : EL} {x1 : Int} {x2 : Int} {x3 : Int} {x4 : Int} {x5 : Int} {x6 : Bool} {x7 : Int} {x8 : Int} {x9 : ByteArray} {x10 : EL} {x11 : EL} {x12 : Int} {x13 : EL} (h : p44 False fu K0 x0 x1 x2 x3 x4 x5 x6 x7 x8 x9 x10 x11 x12 x13) : Den Try.prog G0 44 [.c (.sl 1 x0 none), .agg [.c (.v (.int .i64 x1)), .c (.v (.int .u64 x2)), .c (.v (.int .u64 x3)), .c (.v (.int .i64 x4)), .c (.v (.int .i64 x5)), .c (.v (.bool x6)), .c (.v (.int .i64 x7)), .c (.v (.int .i64 x8)), .c (.v (.string x9)), .c (.sl 3 x10 none), .c (.sl 5 x11 none), .c (.v (.int .i64 x12)), .c (.sl 1 x13 none)]] (fun r bs => (∃ (y0 : EL) (o0 : OV) (o1 : OV), (r = .c (.sl 1 y0 none) ∧ bs = [o0, o1]) ∧ K0 y0)) := by
  obtain ⟨O, hO⟩ : ∃ O, O = std 0 T G0 (Den Try.prog G0) := ⟨_, rfl⟩
  have hLO : L = O.len := by rw [hN, hO]; rfl
  subst hLO
  refine den_h hO tiA mixed tabOk (fn := Try.f44) (sh := true) (by kernel_rfl) rfl rfl rfl rfl ?_
  intro Q hQ
  unfold p44 at h
  conv => cbv
  refine drawn_of hO tiA [[], [], [], [], []] [(0, true, false), (1, true, false), (2, true, false), (4, true, false), (5, true, false), (7, true, false), (8, true, false), (10, true, false), (11, true, false), (3, false, false), (6, false, false), (9, false, false), (12, false, true), (13, true, true)] (by kernel_rfl) ?_
  conv => cbv
  refine call_h hO [.shut, .shut] (d_p88 fu O.len hN h) ?_
  intro os Q hos hQ
  conv => cbv
  refine ⟨(by (rw [hos]) <;> (subst hO; rfl)), ?_⟩
  intro r bs hq
  rw [hQ] at hq
  clear hos hQ h
  obtain ⟨y1, _, _, ⟨rfl, rfl⟩, h⟩ := hq
  conv => cbv
  refine ⟨agree_of hO (Nat.le_of_ble_eq_true rfl) rfl, ?_⟩
  refine call_h hO [.shut, .shut] (d_p89 fu O.len hN h) ?_
  intro os Q hos hQ
  conv => cbv
  refine ⟨(by (rw [hos]) <;> (subst hO; rfl)), ?_⟩
  intro r bs hq
  rw [hQ] at hq
  clear hos hQ h
  obtain ⟨y2, _, _, ⟨rfl, rfl⟩, h⟩ := hq
  conv => cbv
  refine ⟨agree_of hO (Nat.le_of_ble_eq_true rfl) rfl, ?_⟩
  refine call_h hO [.shut, .shut] (d_p88 fu O.len hN h) ?_
  intro os Q hos hQ
  conv => cbv
  refine ⟨(by (rw [hos]) <;> (subst hO; rfl)), ?_⟩
  intro r bs hq
  rw [hQ] at hq
  clear hos hQ h
  obtain ⟨y3, _, _, ⟨rfl, rfl⟩, h⟩ := hq
  conv => cbv
  refine ⟨agree_of hO (Nat.le_of_ble_eq_true rfl) rfl, ?_⟩
  refine call_h hO [.shut, .shut] (d_p88 fu O.len hN h) ?_
  intro os Q hos hQ
  conv => cbv
  refine ⟨(by (rw [hos]) <;> (subst hO; rfl)), ?_⟩
  intro r bs hq
  rw [hQ] at hq
  clear hos hQ h
  obtain ⟨y4, _, _, ⟨rfl, rfl⟩, h⟩ := hq
  conv => cbv
  refine join_all hO ?_
  conv => cbv
  refine br_join_h hO tiA h (by subst hO; rfl) [0, 3, 5] [4000] [] (fun tm m => ∃ (j5 : Int), ((tm = frame 0 60 [(0, .c (.sl 1 y4 none)), (3, .p 4000 0 0), (5, .c (.v (.int .i64 j5)))] ∧ m = ⟨[(4000, .blk 0 [.c (.v (.int .i64 x1)), .c (.v (.int .u64 x2)), .c (.v (.int .u64 x3)), .c (.v (.int .i64 x4)), .c (.v (.int .i64 x5)), .c (.v (.bool x6)), .c (.v (.int .i64 x7)), .c (.v (.int .i64 x8)), .c (.v (.string x9)), .c (.sl 3 x10 none), .c (.sl 5 x11 none), .c (.v (.int .i64 x12)), .c (.sl 1 x13 none)])], 1⟩)) ∧ p44_3 False fu  K0 x7 x8 x9 x10 x11 x12 x13 y4 j5) (fun hc4 h L hL_3 => ?_) (fun hc4 h L hL_3 => ?_) ?_
  · conv => cbv
    exact hL_3 _ _ ⟨1, ⟨(by (conv => lhs; cbv) <;> (subst hO; rfl)), (by (conv => lhs; cbv) <;> (subst hO; rfl))⟩, h⟩
  · conv => cbv
    exact hL_3 _ _ ⟨0, ⟨(by (conv => lhs; cbv) <;> (subst hO; rfl)), (by (conv => lhs; cbv) <;> (subst hO; rfl))⟩, h⟩
  · rintro tm m ⟨j5, hs, h⟩
    unfold p44_3 at h
    obtain ⟨rfl, rfl⟩ := hs
    conv => cbv
    refine call_h hO [.shut, .shut] (d_p88 fu O.len hN h) ?_
    intro os Q hos hQ
    conv => cbv
    refine ⟨(by (rw [hos]) <;> (subst hO; rfl)), ?_⟩
    intro r bs hq
    rw [hQ] at hq
    clear hos hQ h
    obtain ⟨y6, _, _, ⟨rfl, rfl⟩, h⟩ := hq
    conv => cbv
    refine call_h hO [.shut, .shut] (d_p19 fu O.len hN h) ?_
    intro os Q hos hQ
    conv => cbv
    refine ⟨(by (rw [hos]) <;> (subst hO; rfl)), ?_⟩
    intro r bs hq
    rw [hQ] at hq
    clear hos hQ h
    obtain ⟨y7, _, _, ⟨rfl, rfl⟩, h⟩ := hq
    conv => cbv
    refine br_join_h hO tiA h (by subst hO; rfl) [0, 3] [4000] [] (fun tm m => ∃ (j8 : EL), ((tm = frame 0 60 [(0, .c (.sl 1 j8 none)), (3, .p 4000 0 0)] ∧ m = ⟨[(4000, .blk 0 [.c (.v (.int .i64 x1)), .c (.v (.int .u64 x2)), .c (.v (.int .u64 x3)), .c (.v (.int .i64 x4)), .c (.v (.int .i64 x5)), .c (.v (.bool x6)), .c (.v (.int .i64 x7)), .c (.v (.int .i64 x8)), .c (.v (.string x9)), .c (.sl 3 x10 none), .c (.sl 5 x11 none), .c (.v (.int .i64 x12)), .c (.sl 1 x13 none)])], 1⟩)) ∧ p44_2 False fu  K0 x12 x13 j8) (fun hc3 h L hL_2 => ?_) (fun hc3 h L hL_2 => ?_) ?_
    · conv => cbv
      refine call_h hO [.shut, .shut] (d_p88 fu O.len hN h) ?_
      intro os Q hos hQ
      conv => cbv
      refine ⟨(by (rw [hos]) <;> (subst hO; rfl)), ?_⟩
      intro r bs hq
      rw [hQ] at hq
      clear hos hQ h
      obtain ⟨y15, _, _, ⟨rfl, rfl⟩, h⟩ := hq
      conv => cbv
      exact hL_2 _ _ ⟨y15, ⟨(by (conv => lhs; cbv) <;> (subst hO; rfl)), (by (conv => lhs; cbv) <;> (subst hO; rfl))⟩, h⟩
    · conv => cbv
      refine drawn_of hO tiA [[], [], []] [(0, true, false), (2, true, false), (3, true, false), (1, false, false), (4, false, true), (5, true, true)] (by kernel_rfl) ?_
      conv => cbv
      refine call_h hO [.shut, .shut] (d_p88 fu O.len hN h) ?_
      intro os Q hos hQ
      conv => cbv
      refine ⟨(by (rw [hos]) <;> (subst hO; rfl)), ?_⟩
      intro r bs hq
      rw [hQ] at hq
      clear hos hQ h
      obtain ⟨y16, _, _, ⟨rfl, rfl⟩, h⟩ := hq
      conv => cbv
      refine ⟨agree_of hO (Nat.le_of_ble_eq_true rfl) rfl, ?_⟩
      refine call_h hO [.shut, .shut] (d_p29 fu O.len hN h) ?_
      intro os Q hos hQ
      conv => cbv
      refine ⟨(by (rw [hos]) <;> (subst hO; rfl)), ?_⟩
      intro r bs hq
      rw [hQ] at hq
      clear hos hQ h
      obtain ⟨y17, _, _, ⟨rfl, rfl⟩, h⟩ := hq
      conv => cbv
      refine join_all hO ?_
      conv => cbv
      exact hL_2 _ _ ⟨y17, ⟨(by (conv => lhs; cbv) <;> (subst hO; rfl)), (by (conv => lhs; cbv) <;> (subst hO; rfl))⟩, h⟩
    · rintro tm m ⟨j8, hs, h⟩
      unfold p44_2 at h
      obtain ⟨rfl, rfl⟩ := hs
      conv => cbv
      refine drawn_of hO tiA [[], [], []] [(0, true, false), (1, true, false), (2, true, false), (4, true, false), (5, true, false), (6, true, false), (3, false, false), (7, false, true), (8, true, true)] (by kernel_rfl) ?_
      conv => cbv
      refine call_h hO [.shut, .shut] (d_p88 fu O.len hN h) ?_
      intro os Q hos hQ
      conv => cbv
      refine ⟨(by (rw [hos]) <;> (subst hO; rfl)), ?_⟩
      intro r bs hq
      rw [hQ] at hq
      clear hos hQ h
      obtain ⟨y9, _, _, ⟨rfl, rfl⟩, h⟩ := hq
      conv => cbv
      refine ⟨agree_of hO (Nat.le_of_ble_eq_true rfl) rfl, ?_⟩
      refine call_h hO [.shut, .shut] (d_p88 fu O.len hN h) ?_
      intro os Q hos hQ
      conv => cbv
      refine ⟨(by (rw [hos]) <;> (subst hO; rfl)), ?_⟩
      intro r bs hq
      rw [hQ] at hq
      clear hos hQ h
      obtain ⟨y10, _, _, ⟨rfl, rfl⟩, h⟩ := hq
      conv => cbv
      refine join_all hO ?_
      conv => cbv
      refine loop_of hO tiA [0, 3, 6] [4000] [] (fun (n : Nat) tm m => ∃ (z11 : EL) (z12 : Int), ((tm = frame 0 60 [(0, .c (.sl 1 z11 none)), (3, .p 4000 0 0), (6, .c (.v (.int .i64 z12)))] ∧ m = ⟨[(4000, .blk 0 [.c (.v (.int .i64 x1)), .c (.v (.int .u64 x2)), .c (.v (.int .u64 x3)), .c (.v (.int .i64 x4)), .c (.v (.int .i64 x5)), .c (.v (.bool x6)), .c (.v (.int .i64 x7)), .c (.v (.int .i64 x8)), .c (.v (.string x9)), .c (.sl 3 x10 none), .c (.sl 5 x11 none), .c (.v (.int .i64 x12)), .c (.sl 1 x13 none)])], 1⟩)) ∧ p44_1L False fu  K0 x13 n z11 z12) (fun n => n) fu ⟨y10, 0, ⟨(by (conv => lhs; cbv) <;> (subst hO; rfl)), (by (conv => lhs; cbv) <;> (subst hO; rfl))⟩, h⟩ ?_
      rintro n1 tm m L ⟨z11, z12, hs, h⟩ hLn1
      cases n1 with
      | zero => rw [p44_1L] at h; exact h.elim
      | succ n1 =>
        rw [p44_1L] at h
        unfold p44_1 at h
        obtain ⟨rfl, rfl⟩ := hs
        conv => cbv
        refine br_h hO h (by subst hO; rfl) (fun hc1 h => ?_) (fun hc1 h => ?_)
        · conv => cbv
          refine join_all hO ?_
          conv => cbv
          refine and_h h (fun g => (by subst hO; exact g)) (fun h => ?_)
          refine and_h h (fun g => (by subst hO; exact g)) (fun h => ?_)
          obtain ⟨c13, hr, h⟩ := rw_s_inv h
          refine elem_of hO _ (by subst hO; exact hr) ?_
          clear hr
          conv => cbv
          obtain ⟨hc2, h⟩ := gd_inv h
          refine call_h hO [.shut, .shut] (d_p90 fu O.len hN h) ?_
          intro os Q hos hQ
          conv => cbv
          refine view_of hO (by subst hO; exact hc2) ?_
          conv => cbv
          refine ⟨(by (rw [hos]) <;> (subst hO; rfl)), ?_⟩
          intro r bs hq
          rw [hQ] at hq
          clear hos hQ h
          obtain ⟨y14, _, _, ⟨rfl, rfl⟩, h⟩ := hq
          conv => cbv
          exact hLn1 n1 _ _ (Nat.lt_succ_self n1) ⟨y14, binStd .add .i64 z12 1, ⟨(by (conv => lhs; cbv) <;> (subst hO; rfl)), (by (conv => lhs; cbv) <;> (subst hO; rfl))⟩, h⟩
        · conv => cbv
          rw [hQ]
          exact ⟨z11, _, _, ⟨(by subst hO; rfl), (by subst hO; rfl)⟩, h⟩
end Go.Proofs.Ythncmjlcmlmnmaa
