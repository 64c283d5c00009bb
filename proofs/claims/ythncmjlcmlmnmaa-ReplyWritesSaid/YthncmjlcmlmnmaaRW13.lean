/- Functions without memory, and that the Go functions are followed by them. Printed by gen.py. Conditions: none. -/
import Derived.Test.YthncmjlcmlmnmaaG
import Derived.Test.YthncmjlcmlmnmaaPR
import Derived.Test.YthncmjlcmlmnmaaRW4
import Derived.Test.YthncmjlcmlmnmaaRW6
import Derived.Test.YthncmjlcmlmnmaaRW5
import Derived.Test.YthncmjlcmlmnmaaRW12
import Derived.Test.YthncmjlcmlmnmaaRW7
import Derived.Test.YthncmjlcmlmnmaaRW8
namespace Go.Proofs.Ythncmjlcmlmnmaa
open Go V
set_option maxRecDepth 100000
set_option maxHeartbeats 4000000
def p84_1 {ρ : Type} (fail : ρ) (fu : Nat)  (K0 : EL → ρ) (rec1 : EL → Int → ρ) (x1 : Int) (z2 : EL) (z3 : Int) : ρ :=
  bif (cmpStd .geq z3 0) then (gd ((0 : Int) ≤ (IntKind.u64.wrap z3)) fail (gd (1 ≤ [[(CV.v (.int .u8 (IntKind.u8.wrap (binStd .shr .u64 x1 (IntKind.u64.wrap z3)))))]].length) fail (gd ((z2.length + (List.take 1 [[(CV.v (.int .u8 (IntKind.u8.wrap (binStd .shr .u64 x1 (IntKind.u64.wrap z3)))))]]).length) * 1 ≤ 35184372088832) fail (rec1 (z2 ++ (List.take 1 [[(CV.v (.int .u8 (IntKind.u8.wrap (binStd .shr .u64 x1 (IntKind.u64.wrap z3)))))]])) (binStd .sub .i64 z3 8))))) else (K0 z2)
def p84_1L {ρ : Type} (fail : ρ) (fu : Nat)  (K0 : EL → ρ)  (x1 : Int) : Nat → EL → Int → ρ
  | 0, _, _ => fail
  | n + 1, z2, z3 => p84_1 fail fu  K0 (p84_1L fail fu  K0  x1 n) x1 z2 z3
/-- octet.Eight -/
def p84 {ρ : Type} (fail : ρ) (fu : Nat)  (K0 : EL → ρ) (x0 : EL) (x1 : Int) : ρ :=
  p120 fail fu (fun y1 => p84_1L fail fu  K0 x1 fu y1 56) x0 8
theorem d_p84 (fu : Nat)  {K0 : EL → Prop} (L : EL → Nat) (hN : L = List.length) {x0 : EL} {x1 : Int} (h : p84 False fu K0 x0 x1) : Den Try.prog G0 84 [.c (.sl 1 x0 none), .c (.v (.int .u64 x1))] (fun r bs => (∃ (y0 : EL) (o0 : OV) (o1 : OV), (r = .arr 1 y0 none false (L y0) ∧ bs = [o0, o1]) ∧ K0 y0)) := by
  obtain ⟨O, hO⟩ : ∃ O, O = std 0 T G0 (Den Try.prog G0) := ⟨_, rfl⟩
  have hLO : L = O.len := by rw [hN, hO]; rfl
  subst hLO
  refine den_h hO tiA mixed tabOk (fn := Try.f84) (sh := false) (by kernel_rfl) rfl rfl rfl rfl ?_
  intro Q hQ
  unfold p84 at h
  conv => cbv
  refine call_h hO [.shut, .shut] (d_p120 fu O.len hN h) ?_
  intro os Q hos hQ
  conv => cbv
  refine ⟨(by (rw [hos]) <;> (subst hO; rfl)), ?_⟩
  intro r bs hq
  rw [hQ] at hq
  clear hos hQ h
  obtain ⟨y1, _, _, ⟨rfl, rfl⟩, h⟩ := hq
  conv => cbv
  refine loop_of hO tiA [1, 5, 6] [9000] [] (fun (n : Nat) tm m => ∃ (z2 : EL) (z3 : Int), ((tm = frame 0 22 [(1, .c (.v (.int .u64 x1))), (5, .t 9000 0 (O.len z2)), (6, .c (.v (.int .i64 z3)))] ∧ m = ⟨[(9000, .arr 0 1 z2 none false)], 1⟩)) ∧ p84_1L False fu  K0 x1 n z2 z3) (fun n => n) fu ⟨y1, 56, ⟨(by (conv => lhs; cbv) <;> (subst hO; rfl)), (by (conv => lhs; cbv) <;> (subst hO; rfl))⟩, h⟩ ?_
  rintro n1 tm m L ⟨z2, z3, hs, h⟩ hLn1
  cases n1 with
  | zero => rw [p84_1L] at h; exact h.elim
  | succ n1 =>
    rw [p84_1L] at h
    unfold p84_1 at h
    obtain ⟨rfl, rfl⟩ := hs
    conv => cbv
    refine br_h hO h (by subst hO; rfl) (fun hc1 h => ?_) (fun hc1 h => ?_)
    · conv => cbv
      refine join_all hO ?_
      conv => cbv
      refine alt_l hO ?_
      conv => cbv
      refine and_h h (fun g => (by subst hO; exact g)) (fun h => ?_)
      refine view_h hO h (fun g => (by subst hO; exact g)) (fun h => ?_)
      conv => cbv
      refine ⟨(by subst hO; rfl), ?_⟩
      refine and_h h (fun g => (by subst hO; exact g)) (fun h => ?_)
      exact hLn1 n1 _ _ (Nat.lt_succ_self n1) ⟨(z2 ++ (List.take 1 [[(CV.v (.int .u8 (IntKind.u8.wrap (binStd .shr .u64 x1 (IntKind.u64.wrap z3)))))]])), binStd .sub .i64 z3 8, ⟨(by (conv => lhs; cbv) <;> (subst hO; rfl)), (by (conv => lhs; cbv) <;> (subst hO; rfl))⟩, h⟩
    · conv => cbv
      refine alt_l hO ?_
      conv => cbv
      refine ⟨(by subst hO; exact Nat.le_refl _), ?_⟩
      rw [hQ]
      exact ⟨z2, _, _, ⟨(by subst hO; rfl), (by subst hO; rfl)⟩, h⟩
end Go.Proofs.Ythncmjlcmlmnmaa

namespace Go.Proofs.Ythncmjlcmlmnmaa
open Go V
set_option maxRecDepth 100000
set_option maxHeartbeats 4000000
def p85_1 {ρ : Type} (fail : ρ) (fu : Nat)  (K0 : EL → ρ)   (j1 : EL) : ρ :=
  K0 j1
/-- reply.flag -/
def p85 {ρ : Type} (fail : ρ) (fu : Nat)  (K0 : EL → ρ) (x0 : EL) (x1 : Bool) : ρ :=
  bif x1 then (gd (1 ≤ [[(CV.v (.int .i64 1))]].length) fail (p83 fail fu (fun y2 => p85_1 fail fu  K0  y2) x0 (List.take 1 [[(CV.v (.int .i64 1))]]))) else (gd (1 ≤ [[(CV.v (.int .i64 0))]].length) fail (p83 fail fu (fun y3 => p85_1 fail fu  K0  y3) x0 (List.take 1 [[(CV.v (.int .i64 0))]])))
theorem d_p85 (fu : Nat)  {K0 : EL → Prop} (L : EL → Nat) (hN : L = List.length) {x0 : EL} {x1 : Bool} (h : p85 False fu K0 x0 x1) : Den Try.prog G0 85 [.ptr [.arr 1 x0 none false (L x0)], .c (.v (.bool x1))] (fun r bs => (∃ (y0 : EL) (o1 : OV), (r = .tup [] ∧ bs = [.ptr [.arr 1 y0 none false (L y0)], o1]) ∧ K0 y0)) := by
  obtain ⟨O, hO⟩ : ∃ O, O = std 2 T G0 (Den Try.prog G0) := ⟨_, rfl⟩
  have hLO : L = O.len := by rw [hN, hO]; rfl
  subst hLO
  refine den_h hO tiA mixed tabOk (fn := Try.f85) (sh := true) (by kernel_rfl) rfl rfl rfl rfl ?_
  intro Q hQ
  unfold p85 at h
  conv => cbv
  refine br_join_h hO tiA h (by subst hO; rfl) [] [0, 1000000] [] (fun tm m => ∃ (j1 : EL), ((tm = frame 0 11 [] ∧ m = ⟨[(0, .blk 1 [.t 1000000 2 (O.len j1)]), (1000000, .arr 2 1 j1 none false)], 3⟩)) ∧ p85_1 False fu  K0  j1) (fun hc1 h L hL_1 => ?_) (fun hc1 h L hL_1 => ?_) ?_
  · conv => cbv
    obtain ⟨hc2, h⟩ := gd_inv h
    refine call_h hO [.ref 1, .shut] (d_p83 fu O.len hN h) ?_
    intro os Q hos hQ
    conv => cbv
    refine ⟨(by subst hO; exact Nat.le_refl _), ?_⟩
    refine view_of hO (by subst hO; exact hc2) ?_
    conv => cbv
    refine ⟨(by (rw [hos]) <;> (subst hO; rfl)), ?_⟩
    intro r bs hq
    rw [hQ] at hq
    clear hos hQ h
    obtain ⟨y2, _, ⟨rfl, rfl⟩, h⟩ := hq
    conv => cbv
    exact hL_1 _ _ ⟨y2, ⟨(by (conv => lhs; cbv) <;> (subst hO; rfl)), (by (conv => lhs; cbv) <;> (subst hO; rfl))⟩, h⟩
  · conv => cbv
    obtain ⟨hc3, h⟩ := gd_inv h
    refine call_h hO [.ref 1, .shut] (d_p83 fu O.len hN h) ?_
    intro os Q hos hQ
    conv => cbv
    refine ⟨(by subst hO; exact Nat.le_refl _), ?_⟩
    refine view_of hO (by subst hO; exact hc3) ?_
    conv => cbv
    refine ⟨(by (rw [hos]) <;> (subst hO; rfl)), ?_⟩
    intro r bs hq
    rw [hQ] at hq
    clear hos hQ h
    obtain ⟨y3, _, ⟨rfl, rfl⟩, h⟩ := hq
    conv => cbv
    exact hL_1 _ _ ⟨y3, ⟨(by (conv => lhs; cbv) <;> (subst hO; rfl)), (by (conv => lhs; cbv) <;> (subst hO; rfl))⟩, h⟩
  · rintro tm m ⟨j1, hs, h⟩
    unfold p85_1 at h
    obtain ⟨rfl, rfl⟩ := hs
    conv => cbv
    refine ⟨(by subst hO; exact Nat.le_refl _), ?_⟩
    rw [hQ]
    exact ⟨j1, _, ⟨(by subst hO; rfl), (by subst hO; rfl)⟩, h⟩
end Go.Proofs.Ythncmjlcmlmnmaa

namespace Go.Proofs.Ythncmjlcmlmnmaa
open Go V
set_option maxRecDepth 100000
set_option maxHeartbeats 4000000
def p43_1 {ρ : Type} (fail : ρ) (fu : Nat)  (K0 : EL → ρ) (rec1 : EL → Int → Int → ρ) (x13 : EL) (z11 : EL) (z12 : Int) (z13 : Int) : ρ :=
  bif (cmpStd .lss z13 z12) then (gd ((0 : Int) ≤ z13) fail (gd ((z13 : Int) < (x13.length : Nat)) fail (rw_s fail (List.getD x13 ((z13 : Int).toNat) []) (fun c14 => gd (c14.size ≤ (encB c14.data.toList).length) fail (p87 fail fu (fun y15 => rec1 y15 z12 (binStd .add .i64 z13 1)) z11 (List.take c14.size (encB c14.data.toList))))))) else (K0 z11)
def p43_1L {ρ : Type} (fail : ρ) (fu : Nat)  (K0 : EL → ρ)  (x13 : EL) : Nat → EL → Int → Int → ρ
  | 0, _, _, _ => fail
  | n + 1, z11, z12, z13 => p43_1 fail fu  K0 (p43_1L fail fu  K0  x13 n) x13 z11 z12 z13
def p43_2 {ρ : Type} (fail : ρ) (fu : Nat)  (K0 : EL → ρ)  (x12 : Int) (x13 : EL) (j9 : EL) : ρ :=
  gd (2 ≤ [[(CV.v (.int .i64 x12))], [(CV.v (.int .i64 ((x13.length : Nat) : Int)))]].length) fail (p83 fail fu (fun y10 => p43_1L fail fu  K0 x13 fu y10 ((x13.length : Nat) : Int) 0) j9 (List.take 2 [[(CV.v (.int .i64 x12))], [(CV.v (.int .i64 ((x13.length : Nat) : Int)))]]))
/-- reply.Put -/
def p43 {ρ : Type} (fail : ρ) (fu : Nat)  (K0 : EL → ρ) (x0 : EL) (x1 : Int) (x2 : Int) (x3 : Int) (x4 : Int) (x5 : Int) (x6 : Bool) (x7 : Int) (x8 : Int) (x9 : ByteArray) (x10 : EL) (x11 : EL) (x12 : Int) (x13 : EL) : ρ :=
  p63 fail fu (fun y1 => gd (1 ≤ [[(CV.v (.int .i64 x1))]].length) fail (p83 fail fu (fun y2 => p84 fail fu (fun y3 => p84 fail fu (fun y4 => gd (2 ≤ [[(CV.v (.int .i64 x4))], [(CV.v (.int .i64 x5))]].length) fail (p83 fail fu (fun y5 => p85 fail fu (fun y6 => p86 fail fu (fun y7 => p85 fail fu (fun y8 => bif (!y7) then (p64 fail fu (fun y16 => p43_2 fail fu  K0 x12 x13 y16) y8 x7 x8 x9 x10 x11) else (p43_2 fail fu  K0 x12 x13 y8)) y6 (!y7)) x7 x8 x9 x10 x11 0 0 ⟨#[]⟩ nilE nilE) y5 x6) y4 (List.take 2 [[(CV.v (.int .i64 x4))], [(CV.v (.int .i64 x5))]]))) y3 x3) y2 x2) y1 (List.take 1 [[(CV.v (.int .i64 x1))]]))) x0
theorem d_p43 (fu : Nat)  {K0 : EL → Prop} (L : EL → Nat) (hN : L = List.length) {x0 : EL} {x1 : Int} {x2 : Int} {x3 : Int} {x4 : Int} {x5 : Int} {x6 : Bool} {x7 : Int} {x8 : Int} {x9 : ByteArray} {x10 : EL} {x11 : EL} {x12 : Int} {x13 : EL} (h : p43 False fu K0 x0 x1 x2 x3 x4 x5 x6 x7 x8 x9 x10 x11 x12 x13) : Den Try.prog G0 43 [.c (.sl 1 x0 none), .agg [.c (.v (.int .i64 x1)), .c (.v (.int .u64 x2)), .c (.v (.int .u64 x3)), .c (.v (.int .i64 x4)), .c (.v (.int .i64 x5)), .c (.v (.bool x6)), .c (.v (.int .i64 x7)), .c (.v (.int .i64 x8)), .c (.v (.string x9)), .c (.sl 3 x10 none), .c (.sl 5 x11 none), .c (.v (.int .i64 x12)), .c (.sl 1 x13 none)]] (fun r bs => (∃ (y0 : EL) (o0 : OV) (o1 : OV), (r = .arr 1 y0 none false (L y0) ∧ bs = [o0, o1]) ∧ K0 y0)) := by
  obtain ⟨O, hO⟩ : ∃ O, O = std 0 T G0 (Den Try.prog G0) := ⟨_, rfl⟩
  have hLO : L = O.len := by rw [hN, hO]; rfl
  subst hLO
  refine den_h hO tiA mixed tabOk (fn := Try.f43) (sh := false) (by kernel_rfl) rfl rfl rfl rfl ?_
  intro Q hQ
  unfold p43 at h
  conv => cbv
  refine call_h hO [.shut] (d_p63 fu O.len hN h) ?_
  intro os Q hos hQ
  conv => cbv
  refine ⟨(by (rw [hos]) <;> (subst hO; rfl)), ?_⟩
  intro r bs hq
  rw [hQ] at hq
  clear hos hQ h
  obtain ⟨y1, _, ⟨rfl, rfl⟩, h⟩ := hq
  conv => cbv
  obtain ⟨hc6, h⟩ := gd_inv h
  refine call_h hO [.ref 1, .shut] (d_p83 fu O.len hN h) ?_
  intro os Q hos hQ
  conv => cbv
  refine ⟨(by subst hO; exact Nat.le_refl _), ?_⟩
  refine view_of hO (by subst hO; exact hc6) ?_
  conv => cbv
  refine ⟨(by (rw [hos]) <;> (subst hO; rfl)), ?_⟩
  intro r bs hq
  rw [hQ] at hq
  clear hos hQ h
  obtain ⟨y2, _, ⟨rfl, rfl⟩, h⟩ := hq
  conv => cbv
  refine drawn_of hO tiA [[11001000000], [], [], []] [(0, true, false), (1, true, false), (2, true, false), (3, true, false), (4, true, false), (5, true, false), (6, true, false), (7, true, false), (9, true, false), (10, true, false), (11, true, false), (8, false, false), (12, false, true), (13, true, true), (14, true, true), (15, false, true)] (by kernel_rfl) ?_
  conv => cbv
  refine call_h hO [.shut, .shut] (d_p84 fu O.len hN h) ?_
  intro os Q hos hQ
  conv => cbv
  refine view_full hO ?_
  conv => cbv
  refine ⟨(by (rw [hos]) <;> (subst hO; rfl)), ?_⟩
  intro r bs hq
  rw [hQ] at hq
  clear hos hQ h
  obtain ⟨y3, _, _, ⟨rfl, rfl⟩, h⟩ := hq
  conv => cbv
  refine ⟨agree_of hO (Nat.le_of_ble_eq_true rfl) rfl, ?_⟩
  refine call_h hO [.shut, .shut] (d_p84 fu O.len hN h) ?_
  intro os Q hos hQ
  conv => cbv
  refine view_full hO ?_
  conv => cbv
  refine ⟨(by (rw [hos]) <;> (subst hO; rfl)), ?_⟩
  intro r bs hq
  rw [hQ] at hq
  clear hos hQ h
  obtain ⟨y4, _, _, ⟨rfl, rfl⟩, h⟩ := hq
  conv => cbv
  refine join_all hO ?_
  conv => cbv
  obtain ⟨hc5, h⟩ := gd_inv h
  refine call_h hO [.ref 1, .shut] (d_p83 fu O.len hN h) ?_
  intro os Q hos hQ
  conv => cbv
  refine ⟨(by subst hO; exact Nat.le_refl _), ?_⟩
  refine view_of hO (by subst hO; exact hc5) ?_
  conv => cbv
  refine ⟨(by (rw [hos]) <;> (subst hO; rfl)), ?_⟩
  intro r bs hq
  rw [hQ] at hq
  clear hos hQ h
  obtain ⟨y5, _, ⟨rfl, rfl⟩, h⟩ := hq
  conv => cbv
  refine call_h hO [.ref 1, .shut] (d_p85 fu O.len hN h) ?_
  intro os Q hos hQ
  conv => cbv
  refine ⟨(by subst hO; exact Nat.le_refl _), ?_⟩
  refine ⟨(by (rw [hos]) <;> (subst hO; rfl)), ?_⟩
  intro r bs hq
  rw [hQ] at hq
  clear hos hQ h
  obtain ⟨y6, _, ⟨rfl, rfl⟩, h⟩ := hq
  conv => cbv
  refine call_h hO [.shut, .shut] (d_p86 fu O.len hN h) ?_
  intro os Q hos hQ
  conv => cbv
  refine ⟨(by (rw [hos]) <;> (subst hO; rfl)), ?_⟩
  intro r bs hq
  rw [hQ] at hq
  clear hos hQ h
  obtain ⟨y7, _, _, ⟨rfl, rfl⟩, h⟩ := hq
  conv => cbv
  refine call_h hO [.ref 1, .shut] (d_p85 fu O.len hN h) ?_
  intro os Q hos hQ
  conv => cbv
  refine ⟨(by subst hO; exact Nat.le_refl _), ?_⟩
  refine ⟨(by (rw [hos]) <;> (subst hO; rfl)), ?_⟩
  intro r bs hq
  rw [hQ] at hq
  clear hos hQ h
  obtain ⟨y8, _, ⟨rfl, rfl⟩, h⟩ := hq
  conv => cbv
  refine br_join_h hO tiA h (by subst hO; rfl) [3, 5] [4000, 11000, 11001000000] [] (fun tm m => ∃ (j9 : EL), ((tm = frame 0 79 [(3, .p 4000 0 0), (5, .p 11000 0 0)] ∧ m = ⟨[(4000, .blk 0 [.c (.v (.int .i64 x1)), .c (.v (.int .u64 x2)), .c (.v (.int .u64 x3)), .c (.v (.int .i64 x4)), .c (.v (.int .i64 x5)), .c (.v (.bool x6)), .c (.v (.int .i64 x7)), .c (.v (.int .i64 x8)), .c (.v (.string x9)), .c (.sl 3 x10 none), .c (.sl 5 x11 none), .c (.v (.int .i64 x12)), .c (.sl 1 x13 none)]), (11000, .blk 0 [.t 11001000000 0 (O.len j9)]), (11001000000, .arr 0 1 j9 none false)], 1⟩)) ∧ p43_2 False fu  K0 x12 x13 j9) (fun hc4 h L hL_2 => ?_) (fun hc4 h L hL_2 => ?_) ?_
  · conv => cbv
    refine call_h hO [.ref 1, .shut] (d_p64 fu O.len hN h) ?_
    intro os Q hos hQ
    conv => cbv
    refine ⟨(by subst hO; exact Nat.le_refl _), ?_⟩
    refine ⟨(by (rw [hos]) <;> (subst hO; rfl)), ?_⟩
    intro r bs hq
    rw [hQ] at hq
    clear hos hQ h
    obtain ⟨y16, _, ⟨rfl, rfl⟩, h⟩ := hq
    conv => cbv
    exact hL_2 _ _ ⟨y16, ⟨(by (conv => lhs; cbv) <;> (subst hO; rfl)), (by (conv => lhs; cbv) <;> (subst hO; rfl))⟩, h⟩
  · conv => cbv
    exact hL_2 _ _ ⟨y8, ⟨(by (conv => lhs; cbv) <;> (subst hO; rfl)), (by (conv => lhs; cbv) <;> (subst hO; rfl))⟩, h⟩
  · rintro tm m ⟨j9, hs, h⟩
    unfold p43_2 at h
    obtain ⟨rfl, rfl⟩ := hs
    conv => cbv
    obtain ⟨hc3, h⟩ := gd_inv h
    refine call_h hO [.ref 1, .shut] (d_p83 fu O.len hN h) ?_
    intro os Q hos hQ
    conv => cbv
    refine ⟨(by subst hO; exact Nat.le_refl _), ?_⟩
    refine view_of hO (by subst hO; exact hc3) ?_
    conv => cbv
    refine ⟨(by (rw [hos]) <;> (subst hO; rfl)), ?_⟩
    intro r bs hq
    rw [hQ] at hq
    clear hos hQ h
    obtain ⟨y10, _, ⟨rfl, rfl⟩, h⟩ := hq
    conv => cbv
    refine loop_of hO tiA [5, 64, 65, 66] [11000, 11001000000] [] (fun (n : Nat) tm m => ∃ (z11 : EL) (z12 : Int) (z13 : Int), ((tm = frame 0 79 [(5, .p 11000 0 0), (64, .c (.sl 1 x13 none)), (65, .c (.v (.int .i64 z12))), (66, .c (.v (.int .i64 z13)))] ∧ m = ⟨[(11000, .blk 0 [.t 11001000000 0 (O.len z11)]), (11001000000, .arr 0 1 z11 none false)], 1⟩)) ∧ p43_1L False fu  K0 x13 n z11 z12 z13) (fun n => n) fu ⟨y10, ((x13.length : Nat) : Int), 0, ⟨(by (conv => lhs; cbv) <;> (subst hO; rfl)), (by (conv => lhs; cbv) <;> (subst hO; rfl))⟩, h⟩ ?_
    rintro n1 tm m L ⟨z11, z12, z13, hs, h⟩ hLn1
    cases n1 with
    | zero => rw [p43_1L] at h; exact h.elim
    | succ n1 =>
      rw [p43_1L] at h
      unfold p43_1 at h
      obtain ⟨rfl, rfl⟩ := hs
      conv => cbv
      refine br_h hO h (by subst hO; rfl) (fun hc1 h => ?_) (fun hc1 h => ?_)
      · conv => cbv
        refine join_all hO ?_
        conv => cbv
        refine and_h h (fun g => (by subst hO; exact g)) (fun h => ?_)
        refine and_h h (fun g => (by subst hO; exact g)) (fun h => ?_)
        obtain ⟨c14, hr, h⟩ := rw_s_inv h
        refine elem_of hO _ (by subst hO; exact hr) ?_
        clear hr
        conv => cbv
        obtain ⟨hc2, h⟩ := gd_inv h
        refine call_h hO [.ref 1, .shut] (d_p87 fu O.len hN h) ?_
        intro os Q hos hQ
        conv => cbv
        refine ⟨(by subst hO; exact Nat.le_refl _), ?_⟩
        refine view_of hO (by subst hO; exact hc2) ?_
        conv => cbv
        refine ⟨(by (rw [hos]) <;> (subst hO; rfl)), ?_⟩
        intro r bs hq
        rw [hQ] at hq
        clear hos hQ h
        obtain ⟨y15, _, ⟨rfl, rfl⟩, h⟩ := hq
        conv => cbv
        exact hLn1 n1 _ _ (Nat.lt_succ_self n1) ⟨y15, z12, binStd .add .i64 z13 1, ⟨(by (conv => lhs; cbv) <;> (subst hO; rfl)), (by (conv => lhs; cbv) <;> (subst hO; rfl))⟩, h⟩
      · conv => cbv
        refine ⟨(by subst hO; exact Nat.le_refl _), ?_⟩
        rw [hQ]
        exact ⟨z11, _, _, ⟨(by subst hO; rfl), (by subst hO; rfl)⟩, h⟩
end Go.Proofs.Ythncmjlcmlmnmaa

namespace Go.Proofs.Ythncmjlcmlmnmaa
open Go V
set_option maxRecDepth 100000
set_option maxHeartbeats 4000000
def p40_1 {ρ : Type} (fail : ρ) (fu : Nat)  (K0 : Int → ρ)   (j1 : Int) : ρ :=
  K0 j1
/-- law0.Place -/
def p40 {ρ : Type} (fail : ρ) (fu : Nat)  (K0 : Int → ρ) (x0 : Int) (x1 : Int) : ρ :=
  bif (cmpStd .lss x1 1) then (K0 0) else (gd ((x1 : Int) ≠ 0) fail (bif (cmpStd .lss (binStd .rem .i64 x0 x1) 0) then (p40_1 fail fu  K0  (binStd .add .i64 (binStd .rem .i64 x0 x1) x1)) else (p40_1 fail fu  K0  (binStd .rem .i64 x0 x1))))
theorem d_p40 (fu : Nat)  {K0 : Int → Prop} (L : EL → Nat) (hN : L = List.length) {x0 : Int} {x1 : Int} (h : p40 False fu K0 x0 x1) : Den Try.prog G0 40 [.c (.v (.int .i64 x0)), .c (.v (.int .i64 x1))] (fun r bs => (∃ (y0 : Int) (o0 : OV) (o1 : OV), (r = .c (.v (.int .i64 y0)) ∧ bs = [o0, o1]) ∧ K0 y0)) := by
  obtain ⟨O, hO⟩ : ∃ O, O = std 0 T G0 (Den Try.prog G0) := ⟨_, rfl⟩
  have hLO : L = O.len := by rw [hN, hO]; rfl
  subst hLO
  refine den_h hO tiA mixed tabOk (fn := Try.f40) (sh := true) (by kernel_rfl) rfl rfl rfl rfl ?_
  intro Q hQ
  unfold p40 at h
  conv => cbv
  refine br_h hO h (by subst hO; rfl) (fun hc1 h => ?_) (fun hc1 h => ?_)
  · conv => cbv
    rw [hQ]
    exact ⟨0, _, _, ⟨(by subst hO; rfl), (by subst hO; rfl)⟩, h⟩
  · conv => cbv
    refine join_all hO ?_
    conv => cbv
    refine and_h h (fun g => (by subst hO; exact g)) (fun h => ?_)
    refine br_join_h hO tiA h (by subst hO; rfl) [0] [] [] (fun tm m => ∃ (j1 : Int), ((tm = frame 0 16 [(0, .c (.v (.int .i64 j1)))] ∧ m = ⟨[], 1⟩)) ∧ p40_1 False fu  K0  j1) (fun hc2 h L hL_1 => ?_) (fun hc2 h L hL_1 => ?_) ?_
    · conv => cbv
      exact hL_1 _ _ ⟨binStd .add .i64 (binStd .rem .i64 x0 x1) x1, ⟨(by (conv => lhs; cbv) <;> (subst hO; rfl)), (by (conv => lhs; cbv) <;> (subst hO; rfl))⟩, h⟩
    · conv => cbv
      exact hL_1 _ _ ⟨binStd .rem .i64 x0 x1, ⟨(by (conv => lhs; cbv) <;> (subst hO; rfl)), (by (conv => lhs; cbv) <;> (subst hO; rfl))⟩, h⟩
    · rintro tm m ⟨j1, hs, h⟩
      unfold p40_1 at h
      obtain ⟨rfl, rfl⟩ := hs
      conv => cbv
      rw [hQ]
      exact ⟨j1, _, _, ⟨(by subst hO; rfl), (by subst hO; rfl)⟩, h⟩
end Go.Proofs.Ythncmjlcmlmnmaa

namespace Go.Proofs.Ythncmjlcmlmnmaa
open Go V
set_option maxRecDepth 100000
set_option maxHeartbeats 2000000
theorem lowB_head : ∀ (m v : Nat), lowB (m + 1) v = UInt8.ofNat (v / 256 ^ m % 256) :: lowB m v
  | 0, v => by simp [lowB]
  | m + 1, v => by
    rw [lowB, lowB_head m (v / 256)]
    rw [Nat.div_div_eq_div_mul, show 256 * 256 ^ m = 256 ^ (m + 1) by rw [Nat.pow_succ, Nat.mul_comm]]
    rw [List.cons_append]
    congr 1
theorem ofNat_mod (n : Nat) : UInt8.ofNat n = UInt8.ofNat (n % 256) := by
  apply UInt8.toNat_inj.1; simp
theorem eight_loop_w {ρ : Type} (fail : ρ) (fu : Nat) (K : EL → ρ) (v : Nat) : ∀ (m n : Nat) (z : EL), m ≤ 8 → m < n → z.length + m ≤ 35184372088832 → p84_1L fail fu K (v : Nat) n z ((8 * m : Nat) - 8 : Int) = K (z ++ encB (lowB m v)) := by
  intro m
  induction m with
  | zero =>
    intro n z _ hn _
    obtain ⟨n, rfl⟩ : ∃ n', n = n' + 1 := ⟨n - 1, by omega⟩
    rw [p84_1L, p84_1, geqF (by omega), cond_false]; simp [lowB]
  | succ m ih =>
    intro n z hm hn hz
    obtain ⟨n, rfl⟩ : ∃ n', n = n' + 1 := ⟨n - 1, by omega⟩
    have e0 : ((8 * (m + 1) : Nat) - 8 : Int) = ((8 * m : Nat) : Int) := by omega
    have e1 : IntKind.u64.wrap ((8 * m : Nat) : Int) = ((8 * m : Nat) : Int) := u64_nat _ (by omega)
    have e2 : binStd .shr .u64 ((v : Nat) : Int) ((8 * m : Nat) : Int) = ((v / 256 ^ m : Nat) : Int) := by
      show ((v : Nat) : Int).fdiv (2 ^ (min (((8 * m : Nat) : Int)).toNat 64)) = _
      have : min (((8 * m : Nat) : Int)).toNat 64 = 8 * m := by rw [Int.toNat_natCast]; omega
      rw [this, fdiv_nn _ _ (Int.le_of_lt (Int.pow_pos (by decide)))]
      have h2 : (2 : Int) ^ (8 * m) = ((256 ^ m : Nat) : Int) := by
        rw [show (256 : Nat) = 2 ^ 8 from rfl, ← Nat.pow_mul, Int.natCast_pow]; rfl
      rw [h2]; rfl
    rw [e0, p84_1L, p84_1, geqT (by omega), cond_true, e1, gd_y (by omega), gd_y (by simp), gd_y (by simp; omega), e2, subZ (by omega) (by omega)]
    have := ih n (z ++ List.take 1 [[CV.v (.int .u8 (IntKind.u8.wrap ((v / 256 ^ m : Nat) : Int)))]]) (by omega) (by omega) (by simp; omega)
    rw [this, List.append_assoc, lowB_head, ← ofNat_mod]
    refine congrArg (fun q => K (z ++ q)) ?_
    show [[CV.v (.int .u8 (IntKind.u8.wrap ((v / 256 ^ m : Nat) : Int)))]] ++ _ = _
    rw [encB_u8, ← encB_append]; rfl
theorem eight_w {ρ : Type} (fail : ρ) (fu : Nat) (hf : 10 ≤ fu) (K : EL → ρ) (v : Nat) (z : EL) (hz : z.length + 16 ≤ 35184372088832) : p84 fail fu K z (v : Nat) = K (z ++ encB (lowB 8 v)) := by
  have e0 : ∀ y : EL, List.replicate (Int.toNat 0) [CV.v (.int .u8 0)] ++ y = y := fun _ => rfl
  rw [p84, p120, addZ (by omega) (by omega), gd_y (by omega), gd_y (by omega), gd_y (by omega), gd_y (by decide), gd_y (by simp; omega), e0]
  exact eight_loop_w fail fu K v 8 fu z (by omega) (by omega) (by omega)
theorem flag_w {ρ : Type} (fail : ρ) (fu : Nat) (hf : 11 ≤ fu) (K : EL → ρ) (b : Bool) (z : EL) (hz : z.length + 10 ≤ 35184372088832) : p85 fail fu K z b = K (z ++ encB (varB (if b = true then 1 else 0))) := by
  cases b with
  | true => rw [p85, cond_true, gd_y (by simp), num_w1 fail fu hf _ 1 z hz, p85_1]; rfl
  | false => rw [p85, cond_false, gd_y (by simp), num_w1 fail fu hf _ 0 z hz, p85_1]; rfl
theorem ax_w {ρ : Type} (fail : ρ) (fu : Nat) (K : EL → ρ) (l : List ByteArray) (hfu : axSz l + 20 ≤ fu) (hsz : axSz l < 1099511627776) :
    ∀ (r i n : Nat) (z : EL), i + r = l.length → r < n → z.length + (axB (l.drop i)).length ≤ 35184372087000 → p43_1L fail fu K (l.map strRow) n z ((l.length : Nat) : Int) ((i : Nat) : Int) = K (z ++ encB (axB (l.drop i))) := by
  have hl := axSz_len l
  intro r
  induction r with
  | zero =>
    intro i n z hi hn hz
    obtain ⟨n, rfl⟩ : ∃ m, n = m + 1 := ⟨n - 1, by omega⟩
    rw [p43_1L, p43_1, lssF (by omega), cond_false, List.drop_eq_nil_of_le (by omega)]
    simp [axB]
  | succ r ih =>
    intro i n z hi hn hz
    obtain ⟨n, rfl⟩ : ∃ m, n = m + 1 := ⟨n - 1, by omega⟩
    have hlt : i < l.length := by omega
    have hm := axSz_mem (List.getElem_mem hlt)
    have hd : l.drop i = l[i] :: l.drop (i + 1) := List.drop_eq_getElem_cons hlt
    rw [hd] at hz ⊢
    simp only [axB, List.length_append] at hz ⊢
    have htx : (txB l[i]).length = (varB l[i].size).length + l[i].size := by simp [txB, sz_data]
    have h10 := varB_10 (show l[i].size < 2 ^ 64 by omega)
    rw [p43_1L, p43_1, lssT (by omega), cond_true, gd_y (by omega), gd_y (by rw [List.length_map]; omega), str_row fail l i hlt, gsz, text_w fail fu (by omega) _ _ z (by omega) (by omega), addZ (by omega) (by omega), show ((i : Nat) : Int) + 1 = ((i + 1 : Nat) : Int) by omega]
    rw [ih (i + 1) n _ (by omega) (by omega) (by simp only [List.length_append, encB_length]; omega)]
    simp [List.append_assoc]
theorem after_eq2 {ρ : Type} (fail : ρ) (fu : Nat) (K : EL → ρ) (b : List UInt8) (hb : b.length ≤ 35184372088832) : p63 fail fu K (encB b) = K (encB b) := by
  rw [p63, gd_y (by rfl), gd_y (by rw [encB_length]; simp; omega)]; rfl
theorem opt_some' {α β : Type} {x : Except Int α} {f : α → Option β} {b : β} (h : opt x f = some b) : ∃ a, x = .ok a ∧ f a = some b := by
  cases x with
  | error e => cases h
  | ok a => exact ⟨a, rfl, h⟩
theorem put_w {ρ : Type} (fail : ρ) (fu : Nat) (K : EL → ρ) (err : Int) (hi lo : Nat) (fuel cells : Int) (yes : Bool) (t : Tm) (pa : Int) (ax : List ByteArray) (ht1 : t.sz + 60 ≤ fu) (ht2 : t.sz < 1099511627776) (ha1 : axSz ax + 60 ≤ fu) (ha2 : axSz ax < 1099511627776)
    (hz : (rpEnc err hi lo fuel cells yes t pa ax).length ≤ 35184372086000) : p43 fail fu K nilE err (hi : Nat) (lo : Nat) fuel cells yes t.k t.n t.nm (Lv.rows t.ls) (Tm.rows t.args) pa (ax.map strRow) = K (encB (rpEnc err hi lo fuel cells yes t pa ax)) := by
  have hal := axSz_len ax
  have u1 := varB_10 (uv_lt err)
  have u2 := varB_10 (uv_lt fuel)
  have u3 := varB_10 (uv_lt cells)
  have u4 := varB_10 (uv_lt pa)
  have u5 := varB_10 (show ax.length < 2 ^ 64 by omega)
  have l1 := lowB_len 8 hi
  have l2 := lowB_len 8 lo
  have hv1 : (varB 1).length = 1 := by rw [varB_lt (by omega)]; rfl
  have hv0 : (varB 0).length = 1 := by rw [varB_lt (by omega)]; rfl
  have hy : (varB (if yes = true then 1 else 0)).length = 1 := by split <;> assumption
  have hg : uv ((ax.length : Nat) : Int) = ax.length := uv_nat _ (by omega)
  simp only [rpEnc, List.length_append] at hz
  have tail : ∀ y : EL, y.length + (varB (uv pa)).length + (varB ax.length).length + (axB ax).length ≤ 35184372086900 → p43_2 fail fu K pa (ax.map strRow) y = K (y ++ encB (varB (uv pa) ++ (varB ax.length ++ axB ax))) := fun y hy => by
    have h2 : List.take 2 [[CV.v (.int .i64 pa)], [CV.v (.int .i64 (((ax.map strRow).length : Nat) : Int))]] = encI [pa, ((ax.length : Nat) : Int)] := by rw [List.length_map]; rfl
    have := ax_w fail fu K ax (by omega) ha2 ax.length 0 fu (y ++ encB (varB (uv pa) ++ varB ax.length)) (by omega) (by omega) (by simp only [List.length_append, encB_length, List.drop_zero]; omega)
    rw [show ((0 : Nat) : Int) = 0 from rfl] at this
    rw [p43_2, gd_y (by simp), h2, num_w fail fu _ _ (by simp only [List.length_cons, List.length_nil]; omega) y (by simp only [List.length_cons, List.length_nil]; omega), List.length_map]
    simp only [numsB_cons, show numsB [] = [] from rfl, List.append_nil, hg]
    rw [this, List.drop_zero]
    simp [List.append_assoc]
  have h2 : List.take 2 [[CV.v (.int .i64 fuel)], [CV.v (.int .i64 cells)]] = encI [fuel, cells] := rfl
  have e0 : (nilE : EL) = encB [] := rfl
  have hz1 := fun K => term_isZ (ρ := ρ) fail fu (by omega) K t
  rw [p43, e0, after_eq2 _ _ _ _ (by simp), gd_y (by simp), num_w1 fail fu (by omega) _ err _ (by simp), eight_w fail fu (by omega) _ hi _ (by simp only [List.length_append, encB_length, List.length_nil]; omega), eight_w fail fu (by omega) _ lo _ (by simp only [List.length_append, encB_length, List.length_nil]; omega), gd_y (by simp), h2,
    num_w fail fu _ _ (by simp only [List.length_cons, List.length_nil]; omega) _ (by simp only [List.length_append, encB_length, List.length_cons, List.length_nil]; omega), flag_w fail fu (by omega) _ yes _ (by simp only [List.length_append, encB_length, numsB_cons, show numsB [] = [] from rfl, List.length_nil]; omega), ← e0, hz1, flag_w fail fu (by omega) _ _ _ (by simp only [List.length_append, encB_length, numsB_cons, show numsB [] = [] from rfl, List.length_nil]; omega)]
  by_cases c : isZ t = true
  · rw [if_pos c] at hz
    rw [c, Bool.not_true, cond_false, show (if false = true then 1 else 0 : Nat) = 0 from rfl, tail _ (by simp only [List.length_append, encB_length, numsB_cons, show numsB [] = [] from rfl, List.length_nil]; omega)]
    simp [rpEnc, c, numsB_cons, show numsB [] = [] from rfl, List.append_assoc]
  · rw [if_neg c] at hz
    simp only [List.length_append] at hz
    have c' : isZ t = false := Bool.eq_false_iff.2 c
    rw [c', Bool.not_false, cond_true, show (if true = true then 1 else 0 : Nat) = 1 from rfl, term_w fail _ t (Nat.le_refl _) fu _ _ (by omega) ht2 (by simp only [List.length_append, encB_length, numsB_cons, show numsB [] = [] from rfl, List.length_nil]; omega), tail _ (by simp only [List.length_append, encB_length, numsB_cons, show numsB [] = [] from rfl, List.length_nil]; omega)]
    simp [rpEnc, c', numsB_cons, show numsB [] = [] from rfl, List.append_assoc]
-- ---------------------------------------------------------------- read again
theorem rdEight_back (v : Nat) (h : v < 2 ^ 64) (r : List UInt8) : rdEight (lowB 8 v ++ r) = .ok (v, r) := by
  have hl := lowB_len 8 v
  unfold rdEight
  rw [if_neg (by rw [List.length_append]; omega)]
  have h1 : (lowB 8 v ++ r).take 8 = lowB 8 v := by rw [← hl]; exact List.take_left
  have h2 : (lowB 8 v ++ r).drop 8 = r := by rw [← hl]; exact List.drop_left
  rw [h1, h2, be_lowB 8 v (Nat.lt_of_lt_of_le h (by decide))]
theorem rdEight_more {bs r : List UInt8} {v : Nat} (m : List UInt8) (h : rdEight bs = .ok (v, r)) : rdEight (bs ++ m) = .ok (v, r ++ m) := by
  unfold rdEight at h ⊢; split at h
  · cases h
  · rename_i hc
    injection h with h; injection h with h1 h2; subst h1 h2
    rw [if_neg (by rw [List.length_append]; omega), List.take_append_of_le_length (by omega), List.drop_append_of_le_length (by omega)]
theorem rdName_more (m : List UInt8) (p : Nat) (bs : List UInt8) (a : ByteArray) (r : List UInt8) (q : Nat) (h : rdName p bs = .ok (a, r, q)) : rdName p (bs ++ m) = .ok (a, r ++ m, q) := by
  unfold rdName at h ⊢; split at h
  · cases h
  · rename_i s r' h'
    rw [rdTxt_more m h']
    injection h with h; injection h with h1 h; injection h with h2 h3; subst h1 h2 h3; rfl
theorem names_back (l : List ByteArray) (h : ∀ s ∈ l, s.size ≤ 24) (p : Nat) (r : List UInt8) : many rdName l.length p (axB l ++ r) = .ok (l, r, p) := by
  have := many_back (f := rdName) (g := txB) (gs := axB) (c := fun _ => 0) (cs := fun _ => 0) rfl (fun _ _ => rfl) rfl (fun _ _ => rfl) (m := p) l p r (fun a ha p r _ => by
    unfold rdName; rw [rdTxt_back 24 a (h a ha) (by omega)]; dsimp only; rw [ba_data]; rfl) (by omega)
  simpa using this
theorem rdR5_back (pa : Nat) (hpa : pa ≤ 1073741824) (l : List ByteArray) (h : ∀ s ∈ l, s.size ≤ 24) (hl : l.length ≤ 65536) (m : List UInt8) : rdR5 (varB pa ++ (varB l.length ++ axB l) ++ m) = if m.length = 0 then some (pa, l) else none := by
  unfold rdR5
  rw [List.append_assoc, rdNum_back pa hpa]
  dsimp only
  rw [List.append_assoc, rdNum_back _ (by omega)]
  dsimp only
  rw [if_neg (by omega), names_back l h]
theorem rdR5_more {bs : List UInt8} {pa : Nat} {l : List ByteArray} (m : List UInt8) (hm : m ≠ []) (h : rdR5 bs = some (pa, l)) : rdR5 (bs ++ m) = none := by
  unfold rdR5 at h ⊢; split at h
  · cases h
  · rename_i pa' b1 h1
    rw [rdNum_more m h1]
    dsimp only
    split at h
    · cases h
    · rename_i n b2 h2
      rw [rdNum_more m h2]
      dsimp only
      split at h
      · cases h
      · rename_i hc
        rw [if_neg hc]
        split at h
        · cases h
        · rename_i l' b3 q h3
          rw [many_more m (rdName_more m) _ _ _ _ _ _ h3]
          dsimp only
          rw [if_neg (by rw [List.length_append]; have := List.length_pos_iff.2 hm; omega)]
theorem rdR6_more {has : Nat} {bs : List UInt8} {x : Tm × Nat × List ByteArray} (m : List UInt8) (hm : m ≠ []) (h : rdR6 has bs = some x) : rdR6 has (bs ++ m) = none := by
  unfold rdR6 at h ⊢; split at h
  · rename_i h1
    rw [if_pos h1]
    split at h
    · cases h
    · rename_i t b1 ht
      rw [rdTerm_more m ht]
      dsimp only
      split at h
      · cases h
      · rename_i hz
        rw [if_neg hz]
        split at h
        · cases h
        · rename_i pa l h5
          rw [rdR5_more m hm h5]
  · rename_i h1
    rw [if_neg h1]
    split at h
    · cases h
    · rename_i pa l h5
      rw [rdR5_more m hm h5]
/-- A reply with bytes behind it is none. -/
theorem rdRep_more {bs : List UInt8} {r : Rp} (m : List UInt8) (hm : m ≠ []) (h : rdRep bs = some r) : rdRep (bs ++ m) = none := by
  unfold rdRep at h ⊢
  obtain ⟨⟨v1, b1⟩, g1, h⟩ := opt_some' h
  obtain ⟨⟨v2, b2⟩, g2, h⟩ := opt_some' h
  obtain ⟨⟨v3, b3⟩, g3, h⟩ := opt_some' h
  obtain ⟨⟨v4, b4⟩, g4, h⟩ := opt_some' h
  obtain ⟨⟨v5, b5⟩, g5, h⟩ := opt_some' h
  obtain ⟨⟨v6, b6⟩, g6, h⟩ := opt_some' h
  obtain ⟨⟨v7, b7⟩, g7, h⟩ := opt_some' h
  rw [rdNum_more m g1]; simp only [opt]
  rw [rdEight_more m g2]; dsimp only
  rw [rdEight_more m g3]; dsimp only
  rw [rdNum_more m g4]; dsimp only
  rw [rdNum_more m g5]; dsimp only
  rw [rdKind_more m g6]; dsimp only
  rw [rdKind_more m g7]; dsimp only
  dsimp only at h
  split at h
  · cases h
  · rename_i t pa l h8
    rw [rdR6_more m hm h8]
theorem rdRep_back (err hi lo fuel cells : Nat) (h1 : err ≤ 1073741824) (h2 : hi < 2 ^ 64) (h3 : lo < 2 ^ 64) (h4 : fuel ≤ 1073741824) (h5 : cells ≤ 1073741824) (yes : Bool) (t : Tm) (ht : t.good 100) (htp : t.parts ≤ 2000) (pa : Nat) (h6 : pa ≤ 1073741824) (ax : List ByteArray) (h7 : ∀ s ∈ ax, s.size ≤ 24) (h8 : ax.length ≤ 65536) :
    rdRep (rpEnc (err : Nat) hi lo (fuel : Nat) (cells : Nat) yes t (pa : Nat) ax) = some ⟨(err : Nat), (hi : Nat), (lo : Nat), (fuel : Nat), (cells : Nat), yes, t, (pa : Nat), ax⟩ := by
  unfold rdRep
  have hy : (if yes = true then 1 else 0) ≤ 1 := by split <;> omega
  have r5 := rdR5_back pa h6 ax h7 h8 []
  rw [List.append_nil] at r5
  simp only [rpEnc, uv_nat err (by omega), uv_nat fuel (by omega), uv_nat cells (by omega), uv_nat pa (by omega)]
  rw [rdNum_back err h1]; simp only [opt]
  rw [rdEight_back hi h2]; dsimp only
  rw [rdEight_back lo h3]; dsimp only
  rw [rdNum_back fuel h4]; dsimp only
  rw [rdNum_back cells h5]; dsimp only
  rw [rdKind_back 0 1 _ (by omega) hy (by omega)]; dsimp only
  have hyb : decide ((if yes = true then 1 else 0) = 1) = yes := by cases yes <;> rfl
  by_cases c : isZ t = true
  · rw [if_pos c, rdKind_back 0 1 0 (by omega) (by omega) (by omega)]; dsimp only
    unfold rdR6
    rw [if_neg (by omega), r5, hyb, (isZ_iff t).1 c]; rfl
  · rw [if_neg c, List.append_assoc, rdKind_back 0 1 1 (by omega) (by omega) (by omega)]; dsimp only
    unfold rdR6
    rw [if_pos rfl, rdTerm_back t ht htp]
    dsimp only
    rw [if_neg c, r5, hyb]; rfl
end Go.Proofs.Ythncmjlcmlmnmaa

namespace Go.Proofs.Ythncmjlcmlmnmaa
open Go V
set_option maxRecDepth 100000
set_option maxHeartbeats 4000000
def p41_1 {ρ : Type} (fail : ρ) (fu : Nat)  (K0 : Bool → ρ)   (j16 : Bool) : ρ :=
  K0 j16
/-- law26.begun -/
def p41 {ρ : Type} (fail : ρ) (fu : Nat)  (K0 : Bool → ρ)  : ρ :=
  p43 fail fu (fun y1 => p45 fail fu (fun y2 y3 y4 y5 y6 y7 y8 y9 y10 y11 y12 y13 y14 y15 => bif (cmpStd .eql ((y1.length : Nat) : Int) 23) then (gd ((0 : Int) ≤ 0) fail (gd ((0 : Int) < (y1.length : Nat)) fail (gd (((0 : Int).toNat) + 1 ≤ y1.length) fail (rw_u8 fail (List.getD y1 ((0 : Int).toNat) []) (fun c17 => bif (cmpStd .eql c17 3) then (bif (cmpStd .eql y15 0) then (p41_1 fail fu  K0  (cmpStd .eql y2 3)) else (p41_1 fail fu  K0  false)) else (p41_1 fail fu  K0  false)))))) else (p41_1 fail fu  K0  false)) y1) nilE 3 0 0 0 0 false 0 0 ⟨#[]⟩ nilE nilE 0 nilE
theorem d_p41 (fu : Nat)  {K0 : Bool → Prop} (L : EL → Nat) (hN : L = List.length)  (h : p41 False fu K0 ) : Den Try.prog G0 41 [] (fun r bs => (∃ (y0 : Bool), (r = .c (.v (.bool y0)) ∧ bs = []) ∧ K0 y0)) := by
  obtain ⟨O, hO⟩ : ∃ O, O = std 0 T G0 (Den Try.prog G0) := ⟨_, rfl⟩
  have hLO : L = O.len := by rw [hN, hO]; rfl
  subst hLO
  refine den_h hO tiA mixed tabOk (fn := Try.f41) (sh := true) (by kernel_rfl) rfl rfl rfl rfl ?_
  intro Q hQ
  unfold p41 at h
  conv => cbv
  refine call_h hO [.shut, .shut] (d_p43 fu O.len hN h) ?_
  intro os Q hos hQ
  conv => cbv
  refine ⟨(by (rw [hos]) <;> (subst hO; rfl)), ?_⟩
  intro r bs hq
  rw [hQ] at hq
  clear hos hQ h
  obtain ⟨y1, _, _, ⟨rfl, rfl⟩, h⟩ := hq
  conv => cbv
  refine alt_l hO ?_
  conv => cbv
  refine call_h hO [.shut] (d_p45 fu O.len hN h) ?_
  intro os Q hos hQ
  conv => cbv
  refine view_full hO ?_
  conv => cbv
  refine ⟨(by (rw [hos]) <;> (subst hO; rfl)), ?_⟩
  intro r bs hq
  rw [hQ] at hq
  clear hos hQ h
  obtain ⟨y2, y3, y4, y5, y6, y7, y8, y9, y10, y11, y12, y13, y14, y15, _, ⟨rfl, rfl⟩, h⟩ := hq
  conv => cbv
  refine reg_join hO tiA [0] [] [] (fun tm m => ∃ (j16 : Bool), ((tm = frame 0 29 [(0, .c (.v (.bool j16)))] ∧ m = ⟨[], 1⟩)) ∧ p41_1 False fu  K0  j16) (fun L hL_1 => ?_) ?_
  · conv => cbv
    refine alt_l hO ?_
    conv => cbv
    refine br_h hO h (by subst hO; rfl) (fun hc1 h => ?_) (fun hc1 h => ?_)
    · conv => cbv
      refine br_t hO hc1 ?_
      conv => cbv
      refine ⟨(by subst hO; exact Nat.le_refl _), ?_⟩
      refine and_h h (fun g => (by subst hO; exact g)) (fun h => ?_)
      refine and_h h (fun g => (by subst hO; exact g)) (fun h => ?_)
      refine br_t hO hc1 ?_
      conv => cbv
      refine and_h h (fun g => (by subst hO; exact g)) (fun h => ?_)
      obtain ⟨c17, hr, h⟩ := rw_u8_inv h
      refine elem_of hO _ (by subst hO; exact hr) ?_
      clear hr
      conv => cbv
      refine br_t hO hc1 ?_
      conv => cbv
      refine br_t hO hc1 ?_
      conv => cbv
      refine br_h hO h (by subst hO; rfl) (fun hc2 h => ?_) (fun hc2 h => ?_)
      · conv => cbv
        refine br_t hO hc2 ?_
        conv => cbv
        refine br_t hO hc2 ?_
        conv => cbv
        refine br_h hO h (by subst hO; rfl) (fun hc3 h => ?_) (fun hc3 h => ?_)
        · conv => cbv
          refine br_t hO hc3 ?_
          conv => cbv
          refine br_t hO hc3 ?_
          conv => cbv
          refine br_t hO hc3 ?_
          conv => cbv
          exact hL_1 _ _ ⟨(cmpStd .eql y2 3), ⟨(by (conv => lhs; cbv) <;> (subst hO; rfl)), (by (conv => lhs; cbv) <;> (subst hO; rfl))⟩, h⟩
        · conv => cbv
          refine br_f hO hc3 ?_
          conv => cbv
          refine br_f hO hc3 ?_
          conv => cbv
          refine br_f hO hc3 ?_
          conv => cbv
          exact hL_1 _ _ ⟨false, ⟨(by (conv => lhs; cbv) <;> (subst hO; rfl)), (by (conv => lhs; cbv) <;> (subst hO; rfl))⟩, h⟩
      · conv => cbv
        refine br_f hO hc2 ?_
        conv => cbv
        refine br_f hO hc2 ?_
        conv => cbv
        refine br_f hO rfl ?_
        conv => cbv
        refine br_f hO rfl ?_
        conv => cbv
        refine br_f hO rfl ?_
        conv => cbv
        refine br_f hO rfl ?_
        conv => cbv
        exact hL_1 _ _ ⟨false, ⟨(by (conv => lhs; cbv) <;> (subst hO; rfl)), (by (conv => lhs; cbv) <;> (subst hO; rfl))⟩, h⟩
    · conv => cbv
      refine br_f hO hc1 ?_
      conv => cbv
      refine br_f hO hc1 ?_
      conv => cbv
      refine br_f hO hc1 ?_
      conv => cbv
      refine br_f hO hc1 ?_
      conv => cbv
      refine br_f hO rfl ?_
      conv => cbv
      refine br_f hO rfl ?_
      conv => cbv
      refine br_f hO rfl ?_
      conv => cbv
      refine br_f hO rfl ?_
      conv => cbv
      refine br_f hO rfl ?_
      conv => cbv
      refine br_f hO rfl ?_
      conv => cbv
      refine br_f hO rfl ?_
      conv => cbv
      exact hL_1 _ _ ⟨false, ⟨(by (conv => lhs; cbv) <;> (subst hO; rfl)), (by (conv => lhs; cbv) <;> (subst hO; rfl))⟩, h⟩
  · rintro tm m ⟨j16, hs, h⟩
    unfold p41_1 at h
    obtain ⟨rfl, rfl⟩ := hs
    conv => cbv
    rw [hQ]
    exact ⟨j16, ⟨(by subst hO; rfl), (by subst hO; rfl)⟩, h⟩
end Go.Proofs.Ythncmjlcmlmnmaa

namespace Go.Proofs.Ythncmjlcmlmnmaa
open Go V
set_option maxRecDepth 100000
set_option maxHeartbeats 4000000
def p11_1 {ρ : Type} (fail : ρ) (fu : Nat)  (K0 : Bool → ρ)   (j47 : Bool) : ρ :=
  K0 j47
def p11_2 {ρ : Type} (fail : ρ) (fu : Nat)  (K0 : Bool → ρ)  (x0 : Int) (x1 : Int) (x2 : Int) (x3 : Int) (x4 : Int) (x5 : Bool) (x6 : Int) (x7 : Int) (x8 : ByteArray) (x9 : EL) (x10 : EL) (x11 : Int) (x12 : EL) (x13 : Int) (x14 : Int) (j2 : Bool) : ρ :=
  bif j2 then (K0 true) else (p43 fail fu (fun y3 => p45 fail fu (fun y4 y5 y6 y7 y8 y9 y10 y11 y12 y13 y14 y15 y16 y17 => gd (0 = nilE.length) fail (gd ((nilE.length + y3.length) * 1 ≤ 35184372088832) fail (gd (1 ≤ [[(CV.v (.int .u8 x13))]].length) fail (gd (((nilE ++ y3).length + (List.take 1 [[(CV.v (.int .u8 x13))]]).length) * 1 ≤ 35184372088832) fail (p45 fail fu (fun y18 y19 y20 y21 y22 y23 y24 y25 y26 y27 y28 y29 y30 y31 => p40 fail fu (fun y32 => gd ((0 : Int) ≤ y32) fail (gd ((y32 : Int) ≤ (y3.length : Nat) ∨ false = true ∧ (y32 : Int) ≤ (y3.length : Nat)) fail (gd (((y32 : Int).toNat) ≤ y3.length) fail (p45 fail fu (fun y33 y34 y35 y36 y37 y38 y39 y40 y41 y42 y43 y44 y45 y46 => bif (cmpStd .eql y17 0) then (p47 fail fu (fun y48 => bif y48 then (bif (cmpStd .eql y31 5) then (p11_1 fail fu  K0  (cmpStd .eql y46 5)) else (p11_1 fail fu  K0  false)) else (p11_1 fail fu  K0  false)) x0 x1 x2 x3 x4 x5 x6 x7 x8 x9 x10 x11 x12 y4 y5 y6 y7 y8 y9 y10 y11 y12 y13 y14 y15 y16) else (p11_1 fail fu  K0  false)) (List.take ((y32 : Int).toNat) y3))))) x14 ((y3.length : Nat) : Int)) ((nilE ++ y3) ++ (List.take 1 [[(CV.v (.int .u8 x13))]]))))))) y3) nilE x0 x1 x2 x3 x4 x5 x6 x7 x8 x9 x10 x11 x12)
/-- law26.ReplyBack -/
def p11 {ρ : Type} (fail : ρ) (fu : Nat)  (K0 : Bool → ρ) (x0 : Int) (x1 : Int) (x2 : Int) (x3 : Int) (x4 : Int) (x5 : Bool) (x6 : Int) (x7 : Int) (x8 : ByteArray) (x9 : EL) (x10 : EL) (x11 : Int) (x12 : EL) (x13 : Int) (x14 : Int) : ρ :=
  p41 fail fu (fun y1 => bif (!y1) then (K0 false) else (bif (cmpStd .gtr ((x12.length : Nat) : Int) 1024) then (p11_2 fail fu  K0 x0 x1 x2 x3 x4 x5 x6 x7 x8 x9 x10 x11 x12 x13 x14 true) else (p42 fail fu (fun y49 => p11_2 fail fu  K0 x0 x1 x2 x3 x4 x5 x6 x7 x8 x9 x10 x11 x12 x13 x14 (!y49)) x0 x1 x2 x3 x4 x5 x6 x7 x8 x9 x10 x11 x12))) 
theorem d_p11 (fu : Nat)  {K0 : Bool → Prop} (L : EL → Nat) (hN : L = List.length) {x0 : Int} {x1 : Int} {x2 : Int} {x3 : Int} {x4 : Int} {x5 : Bool} {x6 : Int} {x7 : Int} {x8 : ByteArray} {x9 : EL} {x10 : EL} {x11 : Int} {x12 : EL} {x13 : Int} {x14 : Int} (h : p11 False fu K0 x0 x1 x2 x3 x4 x5 x6 x7 x8 x9 x10 x11 x12 x13 x14) : Den Try.prog G0 11 [.agg [.c (.v (.int .i64 x0)), .c (.v (.int .u64 x1)), .c (.v (.int .u64 x2)), .c (.v (.int .i64 x3)), .c (.v (.int .i64 x4)), .c (.v (.bool x5)), .c (.v (.int .i64 x6)), .c (.v (.int .i64 x7)), .c (.v (.string x8)), .c (.sl 3 x9 none), .c (.sl 5 x10 none), .c (.v (.int .i64 x11)), .c (.sl 1 x12 none)], .c (.v (.int .u8 x13)), .c (.v (.int .i64 x14))] (fun r bs => (∃ (y0 : Bool) (o0 : OV) (o1 : OV) (o2 : OV), (r = .c (.v (.bool y0)) ∧ bs = [o0, o1, o2]) ∧ K0 y0)) := by
  obtain ⟨O, hO⟩ : ∃ O, O = std 0 T G0 (Den Try.prog G0) := ⟨_, rfl⟩
  have hLO : L = O.len := by rw [hN, hO]; rfl
  subst hLO
  refine den_h hO tiA mixed tabOk (fn := Try.f11) (sh := true) (by kernel_rfl) rfl rfl rfl rfl ?_
  intro Q hQ
  unfold p11 at h
  conv => cbv
  refine call_h hO [] (d_p41 fu O.len hN h) ?_
  intro os Q hos hQ
  conv => cbv
  refine ⟨(by (rw [hos]) <;> (subst hO; rfl)), ?_⟩
  intro r bs hq
  rw [hQ] at hq
  clear hos hQ h
  obtain ⟨y1, ⟨rfl, rfl⟩, h⟩ := hq
  conv => cbv
  refine br_h hO h (by subst hO; rfl) (fun hc1 h => ?_) (fun hc1 h => ?_)
  · conv => cbv
    rw [hQ]
    exact ⟨false, _, _, _, ⟨(by subst hO; rfl), (by subst hO; rfl)⟩, h⟩
  · conv => cbv
    refine join_all hO ?_
    conv => cbv
    refine reg_join hO tiA [1, 2, 3, 24] [4000] [] (fun tm m => ∃ (j2 : Bool), ((tm = frame 0 67 [(1, .c (.v (.int .u8 x13))), (2, .c (.v (.int .i64 x14))), (3, .p 4000 0 0), (24, .c (.v (.bool j2)))] ∧ m = ⟨[(4000, .blk 0 [.c (.v (.int .i64 x0)), .c (.v (.int .u64 x1)), .c (.v (.int .u64 x2)), .c (.v (.int .i64 x3)), .c (.v (.int .i64 x4)), .c (.v (.bool x5)), .c (.v (.int .i64 x6)), .c (.v (.int .i64 x7)), .c (.v (.string x8)), .c (.sl 3 x9 none), .c (.sl 5 x10 none), .c (.v (.int .i64 x11)), .c (.sl 1 x12 none)])], 1⟩)) ∧ p11_2 False fu  K0 x0 x1 x2 x3 x4 x5 x6 x7 x8 x9 x10 x11 x12 x13 x14 j2) (fun L hL_2 => ?_) ?_
    · conv => cbv
      refine br_h hO h (by subst hO; rfl) (fun hc7 h => ?_) (fun hc7 h => ?_)
      · conv => cbv
        refine br_t hO hc7 ?_
        conv => cbv
        refine br_t hO hc7 ?_
        conv => cbv
        refine br_t hO hc7 ?_
        conv => cbv
        exact hL_2 _ _ ⟨true, ⟨(by (conv => lhs; cbv) <;> (subst hO; rfl)), (by (conv => lhs; cbv) <;> (subst hO; rfl))⟩, h⟩
      · conv => cbv
        refine br_f hO hc7 ?_
        conv => cbv
        refine call_h hO [.shut] (d_p42 fu O.len hN h) ?_
        intro os Q hos hQ
        conv => cbv
        refine ⟨(by (rw [hos]) <;> (subst hO; rfl)), ?_⟩
        intro r bs hq
        rw [hQ] at hq
        clear hos hQ h
        obtain ⟨y49, _, ⟨rfl, rfl⟩, h⟩ := hq
        conv => cbv
        refine br_f hO hc7 ?_
        conv => cbv
        refine br_f hO hc7 ?_
        conv => cbv
        exact hL_2 _ _ ⟨(!y49), ⟨(by (conv => lhs; cbv) <;> (subst hO; rfl)), (by (conv => lhs; cbv) <;> (subst hO; rfl))⟩, h⟩
    · rintro tm m ⟨j2, hs, h⟩
      unfold p11_2 at h
      obtain ⟨rfl, rfl⟩ := hs
      conv => cbv
      refine br_h hO h (by subst hO; rfl) (fun hc2 h => ?_) (fun hc2 h => ?_)
      · conv => cbv
        rw [hQ]
        exact ⟨true, _, _, _, ⟨(by subst hO; rfl), (by subst hO; rfl)⟩, h⟩
      · conv => cbv
        refine join_all hO ?_
        conv => cbv
        refine call_h hO [.shut, .shut] (d_p43 fu O.len hN h) ?_
        intro os Q hos hQ
        conv => cbv
        refine ⟨(by (rw [hos]) <;> (subst hO; rfl)), ?_⟩
        intro r bs hq
        rw [hQ] at hq
        clear hos hQ h
        obtain ⟨y3, _, _, ⟨rfl, rfl⟩, h⟩ := hq
        conv => cbv
        refine alt_l hO ?_
        conv => cbv
        refine call_h hO [.shut] (d_p45 fu O.len hN h) ?_
        intro os Q hos hQ
        conv => cbv
        refine view_full hO ?_
        conv => cbv
        refine ⟨(by (rw [hos]) <;> (subst hO; rfl)), ?_⟩
        intro r bs hq
        rw [hQ] at hq
        clear hos hQ h
        obtain ⟨y4, y5, y6, y7, y8, y9, y10, y11, y12, y13, y14, y15, y16, y17, _, ⟨rfl, rfl⟩, h⟩ := hq
        conv => cbv
        refine alt_l hO ?_
        conv => cbv
        refine view_full hO ?_
        conv => cbv
        refine and_h h (fun g => (by subst hO; exact g)) (fun h => ?_)
        refine and_h h (fun g => (by subst hO; exact g)) (fun h => ?_)
        refine view_h hO h (fun g => (by subst hO; exact g)) (fun h => ?_)
        conv => cbv
        refine ⟨(by subst hO; rfl), ?_⟩
        refine and_h h (fun g => (by subst hO; exact g)) (fun h => ?_)
        refine call_h hO [.shut] (d_p45 fu O.len hN h) ?_
        intro os Q hos hQ
        conv => cbv
        refine view_full hO ?_
        conv => cbv
        refine ⟨(by (rw [hos]) <;> (subst hO; rfl)), ?_⟩
        intro r bs hq
        rw [hQ] at hq
        clear hos hQ h
        obtain ⟨y18, y19, y20, y21, y22, y23, y24, y25, y26, y27, y28, y29, y30, y31, _, ⟨rfl, rfl⟩, h⟩ := hq
        conv => cbv
        refine alt_l hO ?_
        conv => cbv
        refine alt_l hO ?_
        conv => cbv
        refine call_h hO [.shut, .shut] (d_p40 fu O.len hN h) ?_
        intro os Q hos hQ
        conv => cbv
        refine ⟨(by (rw [hos]) <;> (subst hO; rfl)), ?_⟩
        intro r bs hq
        rw [hQ] at hq
        clear hos hQ h
        obtain ⟨y32, _, _, ⟨rfl, rfl⟩, h⟩ := hq
        conv => cbv
        refine ⟨(by subst hO; exact Nat.le_refl _), ?_⟩
        refine and_h h (fun g => (by subst hO; exact g)) (fun h => ?_)
        refine and_h h (fun g => (by subst hO; exact g)) (fun h => ?_)
        obtain ⟨hc6, h⟩ := gd_inv h
        refine call_h hO [.shut] (d_p45 fu O.len hN h) ?_
        intro os Q hos hQ
        conv => cbv
        refine view_of hO (by subst hO; exact hc6) ?_
        conv => cbv
        refine ⟨(by (rw [hos]) <;> (subst hO; rfl)), ?_⟩
        intro r bs hq
        rw [hQ] at hq
        clear hos hQ h
        obtain ⟨y33, y34, y35, y36, y37, y38, y39, y40, y41, y42, y43, y44, y45, y46, _, ⟨rfl, rfl⟩, h⟩ := hq
        conv => cbv
        refine reg_join hO tiA [6] [] [] (fun tm m => ∃ (j47 : Bool), ((tm = frame 0 67 [(6, .c (.v (.bool j47)))] ∧ m = ⟨[], 1⟩)) ∧ p11_1 False fu  K0  j47) (fun L hL_1 => ?_) ?_
        · conv => cbv
          refine br_h hO h (by subst hO; rfl) (fun hc3 h => ?_) (fun hc3 h => ?_)
          · conv => cbv
            refine br_t hO hc3 ?_
            conv => cbv
            refine br_t hO hc3 ?_
            conv => cbv
            refine call_h hO [.shut, .shut] (d_p47 fu O.len hN h) ?_
            intro os Q hos hQ
            conv => cbv
            refine ⟨(by (rw [hos]) <;> (subst hO; rfl)), ?_⟩
            intro r bs hq
            rw [hQ] at hq
            clear hos hQ h
            obtain ⟨y48, _, _, ⟨rfl, rfl⟩, h⟩ := hq
            conv => cbv
            refine br_t hO hc3 ?_
            conv => cbv
            refine br_h hO h (by subst hO; rfl) (fun hc4 h => ?_) (fun hc4 h => ?_)
            · conv => cbv
              refine br_t hO hc4 ?_
              conv => cbv
              refine br_t hO hc4 ?_
              conv => cbv
              refine br_h hO h (by subst hO; rfl) (fun hc5 h => ?_) (fun hc5 h => ?_)
              · conv => cbv
                refine br_t hO hc5 ?_
                conv => cbv
                refine br_t hO hc5 ?_
                conv => cbv
                exact hL_1 _ _ ⟨(cmpStd .eql y46 5), ⟨(by (conv => lhs; cbv) <;> (subst hO; rfl)), (by (conv => lhs; cbv) <;> (subst hO; rfl))⟩, h⟩
              · conv => cbv
                refine br_f hO hc5 ?_
                conv => cbv
                refine br_f hO hc5 ?_
                conv => cbv
                exact hL_1 _ _ ⟨false, ⟨(by (conv => lhs; cbv) <;> (subst hO; rfl)), (by (conv => lhs; cbv) <;> (subst hO; rfl))⟩, h⟩
            · conv => cbv
              refine br_f hO hc4 ?_
              conv => cbv
              refine br_f hO hc4 ?_
              conv => cbv
              refine br_f hO rfl ?_
              conv => cbv
              refine br_f hO rfl ?_
              conv => cbv
              refine br_f hO rfl ?_
              conv => cbv
              exact hL_1 _ _ ⟨false, ⟨(by (conv => lhs; cbv) <;> (subst hO; rfl)), (by (conv => lhs; cbv) <;> (subst hO; rfl))⟩, h⟩
          · conv => cbv
            refine br_f hO hc3 ?_
            conv => cbv
            refine br_f hO hc3 ?_
            conv => cbv
            refine br_f hO hc3 ?_
            conv => cbv
            refine br_f hO rfl ?_
            conv => cbv
            refine br_f hO rfl ?_
            conv => cbv
            refine br_f hO rfl ?_
            conv => cbv
            refine br_f hO rfl ?_
            conv => cbv
            refine br_f hO rfl ?_
            conv => cbv
            refine br_f hO rfl ?_
            conv => cbv
            exact hL_1 _ _ ⟨false, ⟨(by (conv => lhs; cbv) <;> (subst hO; rfl)), (by (conv => lhs; cbv) <;> (subst hO; rfl))⟩, h⟩
        · rintro tm m ⟨j47, hs, h⟩
          unfold p11_1 at h
          obtain ⟨rfl, rfl⟩ := hs
          conv => cbv
          rw [hQ]
          exact ⟨j47, _, _, _, ⟨(by subst hO; rfl), (by subst hO; rfl)⟩, h⟩
end Go.Proofs.Ythncmjlcmlmnmaa
