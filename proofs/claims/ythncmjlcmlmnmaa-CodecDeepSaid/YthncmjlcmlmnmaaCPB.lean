/- Functions without memory, and that the Go functions are followed by them. Printed by gen.py. Conditions: none. -/
import Derived.Test.YthncmjlcmlmnmaaP5
namespace Go.Proofs.Ythncmjlcmlmnmaa
open Go V
set_option maxRecDepth 100000
set_option maxHeartbeats 4000000
/-- ref5.Copy -/
def p100 {ρ : Type} (fail : ρ) (fu : Nat)  (K0 : Int → Int → ByteArray → EL → EL → ρ) (x0 : Int) (x1 : Int) (x2 : ByteArray) (x3 : EL) (x4 : EL) : ρ :=
  p131 fail fu (fun y1 y2 y3 y4 y5 => K0 y1 y2 y3 y4 y5) x0 x1 x2 x3 x4 0 0
theorem d_p100 (fu : Nat)  {K0 : Int → Int → ByteArray → EL → EL → Prop} (L : EL → Nat) (hN : L = List.length) {x0 : Int} {x1 : Int} {x2 : ByteArray} {x3 : EL} {x4 : EL} (h : p100 False fu K0 x0 x1 x2 x3 x4) : Den Try.prog G0 100 [.agg [.c (.v (.int .i64 x0)), .c (.v (.int .i64 x1)), .c (.v (.string x2)), .c (.sl 3 x3 none), .c (.sl 5 x4 none)]] (fun r bs => (∃ (y0 : Int) (y1 : Int) (y2 : ByteArray) (y3 : EL) (y4 : EL) (o0 : OV), (r = .agg [.c (.v (.int .i64 y0)), .c (.v (.int .i64 y1)), .c (.v (.string y2)), .c (.sl 3 y3 none), .c (.sl 5 y4 none)] ∧ bs = [o0]) ∧ K0 y0 y1 y2 y3 y4)) := by
  obtain ⟨O, hO⟩ : ∃ O, O = std 0 T G0 (Den Try.prog G0) := ⟨_, rfl⟩
  have hLO : L = O.len := by rw [hN, hO]; rfl
  subst hLO
  refine den_h hO tiA mixed tabOk (fn := Try.f100) (sh := true) (by kernel_rfl) rfl rfl rfl rfl ?_
  intro Q hQ
  unfold p100 at h
  conv => cbv
  refine call_h hO [.shut, .shut, .shut] (d_p131 fu O.len hN h) ?_
  intro os Q hos hQ
  conv => cbv
  refine ⟨(by (rw [hos]) <;> (subst hO; rfl)), ?_⟩
  intro r bs hq
  rw [hQ] at hq
  clear hos hQ h
  obtain ⟨y1, y2, y3, y4, y5, _, _, _, ⟨rfl, rfl⟩, h⟩ := hq
  conv => cbv
  rw [hQ]
  exact ⟨y1, y2, y3, y4, y5, _, ⟨(by subst hO; rfl), (by subst hO; rfl)⟩, h⟩
/-- ref5.Pi -/
def p48 {ρ : Type} (fail : ρ) (fu : Nat)  (K0 : Int → Int → ByteArray → EL → EL → ρ) (x0 : Int) (x1 : Int) (x2 : ByteArray) (x3 : EL) (x4 : EL) (x5 : Int) (x6 : Int) (x7 : ByteArray) (x8 : EL) (x9 : EL) : ρ :=
  p100 fail fu (fun y1 y2 y3 y4 y5 => gd (2 ≤ [[(CV.v (.int .i64 y1)), (CV.v (.int .i64 y2)), (CV.v (.string y3)), (CV.sl 3 y4 none), (CV.sl 5 y5 none)], [(CV.v (.int .i64 x5)), (CV.v (.int .i64 x6)), (CV.v (.string x7)), (CV.sl 3 x8 none), (CV.sl 5 x9 none)]].length) fail (K0 5 0 ⟨#[]⟩ nilE (List.take 2 [[(CV.v (.int .i64 y1)), (CV.v (.int .i64 y2)), (CV.v (.string y3)), (CV.sl 3 y4 none), (CV.sl 5 y5 none)], [(CV.v (.int .i64 x5)), (CV.v (.int .i64 x6)), (CV.v (.string x7)), (CV.sl 3 x8 none), (CV.sl 5 x9 none)]]))) x0 x1 x2 x3 x4
theorem d_p48 (fu : Nat)  {K0 : Int → Int → ByteArray → EL → EL → Prop} (L : EL → Nat) (hN : L = List.length) {x0 : Int} {x1 : Int} {x2 : ByteArray} {x3 : EL} {x4 : EL} {x5 : Int} {x6 : Int} {x7 : ByteArray} {x8 : EL} {x9 : EL} (h : p48 False fu K0 x0 x1 x2 x3 x4 x5 x6 x7 x8 x9) : Den Try.prog G0 48 [.agg [.c (.v (.int .i64 x0)), .c (.v (.int .i64 x1)), .c (.v (.string x2)), .c (.sl 3 x3 none), .c (.sl 5 x4 none)], .agg [.c (.v (.int .i64 x5)), .c (.v (.int .i64 x6)), .c (.v (.string x7)), .c (.sl 3 x8 none), .c (.sl 5 x9 none)]] (fun r bs => (∃ (y0 : Int) (y1 : Int) (y2 : ByteArray) (y3 : EL) (y4 : EL) (o0 : OV) (o1 : OV), (r = .agg [.c (.v (.int .i64 y0)), .c (.v (.int .i64 y1)), .c (.v (.string y2)), .c (.sl 3 y3 none), .c (.sl 5 y4 none)] ∧ bs = [o0, o1]) ∧ K0 y0 y1 y2 y3 y4)) := by
  obtain ⟨O, hO⟩ : ∃ O, O = std 0 T G0 (Den Try.prog G0) := ⟨_, rfl⟩
  have hLO : L = O.len := by rw [hN, hO]; rfl
  subst hLO
  refine den_h hO tiA mixed tabOk (fn := Try.f48) (sh := true) (by kernel_rfl) rfl rfl rfl rfl ?_
  intro Q hQ
  unfold p48 at h
  conv => cbv
  refine drawn_of hO tiA [9000] [(0, true, false), (2, true, false), (1, false, false), (3, false, false), (4, false, false), (5, false, true)] (by kernel_rfl) ?_
  conv => cbv
  refine call_h hO [.shut] (d_p100 fu O.len hN h) ?_
  intro os Q hos hQ
  conv => cbv
  refine ⟨(by (rw [hos]) <;> (subst hO; rfl)), ?_⟩
  intro r bs hq
  rw [hQ] at hq
  clear hos hQ h
  obtain ⟨y1, y2, y3, y4, y5, _, ⟨rfl, rfl⟩, h⟩ := hq
  conv => cbv
  refine ⟨agree_of hO (Nat.le_of_ble_eq_true rfl) rfl, ?_⟩
  refine ⟨agree_of hO (Nat.le_of_ble_eq_true rfl) rfl, ?_⟩
  refine ⟨agree_of hO (Nat.le_of_ble_eq_true rfl) rfl, ?_⟩
  refine join_all hO ?_
  conv => cbv
  refine view_h hO h (fun g => (by subst hO; exact g)) (fun h => ?_)
  conv => cbv
  rw [hQ]
  exact ⟨5, 0, ⟨#[]⟩, nilE, List.take 2 [[(CV.v (.int .i64 y1)), (CV.v (.int .i64 y2)), (CV.v (.string y3)), (CV.sl 3 y4 none), (CV.sl 5 y5 none)], [(CV.v (.int .i64 x5)), (CV.v (.int .i64 x6)), (CV.v (.string x7)), (CV.sl 3 x8 none), (CV.sl 5 x9 none)]], _, _, ⟨(by subst hO; rfl), (by subst hO; rfl)⟩, h⟩
/-- codec.After -/
def p63 {ρ : Type} (fail : ρ) (fu : Nat)  (K0 : EL → ρ) (x0 : EL) : ρ :=
  gd (0 = nilE.length) fail (gd ((nilE.length + x0.length) * 1 ≤ 35184372088832) fail (K0 (nilE ++ x0)))
theorem d_p63 (fu : Nat)  {K0 : EL → Prop} (L : EL → Nat) (hN : L = List.length) {x0 : EL} (h : p63 False fu K0 x0) : Den Try.prog G0 63 [.c (.sl 1 x0 none)] (fun r bs => (∃ (y0 : EL) (o0 : OV), (r = .ptr [.arr 1 y0 none false (L y0)] ∧ bs = [o0]) ∧ K0 y0)) := by
  obtain ⟨O, hO⟩ : ∃ O, O = std 0 T G0 (Den Try.prog G0) := ⟨_, rfl⟩
  have hLO : L = O.len := by rw [hN, hO]; rfl
  subst hLO
  refine den_h hO tiA mixed tabOk (fn := Try.f63) (sh := true) (by kernel_rfl) rfl rfl rfl rfl ?_
  intro Q hQ
  unfold p63 at h
  conv => cbv
  refine and_h h (fun g => (by subst hO; exact g)) (fun h => ?_)
  refine and_h h (fun g => (by subst hO; exact g)) (fun h => ?_)
  refine ⟨(by subst hO; exact Nat.le_refl _), ?_⟩
  rw [hQ]
  exact ⟨(nilE ++ x0), _, ⟨(by subst hO; rfl), (by subst hO; rfl)⟩, h⟩
/-- octet.room -/
def p120 {ρ : Type} (fail : ρ) (fu : Nat)  (K0 : EL → ρ) (x0 : EL) (x1 : Int) : ρ :=
  gd ((0 : Int) ≤ 0) fail (gd ((0 : Int) ≤ (binStd .add .i64 ((x0.length : Nat) : Int) x1)) fail (gd ((binStd .add .i64 ((x0.length : Nat) : Int) x1 : Int) * (1 : Nat) ≤ 70368744177664) fail (gd (((0 : Int).toNat) = (List.replicate ((0 : Int).toNat) [(CV.v (.int .u8 0))]).length) fail (gd (((List.replicate ((0 : Int).toNat) [(CV.v (.int .u8 0))]).length + x0.length) * 1 ≤ 35184372088832) fail (K0 ((List.replicate ((0 : Int).toNat) [(CV.v (.int .u8 0))]) ++ x0))))))
theorem d_p120 (fu : Nat)  {K0 : EL → Prop} (L : EL → Nat) (hN : L = List.length) {x0 : EL} {x1 : Int} (h : p120 False fu K0 x0 x1) : Den Try.prog G0 120 [.c (.sl 1 x0 none), .c (.v (.int .i64 x1))] (fun r bs => (∃ (y0 : EL) (o0 : OV) (o1 : OV), (r = .arr 1 y0 none false (L y0) ∧ bs = [o0, o1]) ∧ K0 y0)) := by
  obtain ⟨O, hO⟩ : ∃ O, O = std 0 T G0 (Den Try.prog G0) := ⟨_, rfl⟩
  have hLO : L = O.len := by rw [hN, hO]; rfl
  subst hLO
  refine den_h hO tiA mixed tabOk (fn := Try.f120) (sh := false) (by kernel_rfl) rfl rfl rfl rfl ?_
  intro Q hQ
  unfold p120 at h
  conv => cbv
  refine and_h h (fun g => (by subst hO; exact g)) (fun h => ?_)
  refine and_h h (fun g => (by subst hO; exact g)) (fun h => ?_)
  refine and_h h (fun g => (by subst hO; exact g)) (fun h => ?_)
  refine and_h h (fun g => (by subst hO; exact g)) (fun h => ?_)
  refine and_h h (fun g => (by subst hO; exact g)) (fun h => ?_)
  refine ⟨(by subst hO; exact Nat.le_refl _), ?_⟩
  rw [hQ]
  exact ⟨((List.replicate ((0 : Int).toNat) [(CV.v (.int .u8 0))]) ++ x0), _, _, ⟨(by subst hO; rfl), (by subst hO; rfl)⟩, h⟩
end Go.Proofs.Ythncmjlcmlmnmaa

namespace Go.Proofs.Ythncmjlcmlmnmaa
open Go V
set_option maxRecDepth 100000
set_option maxHeartbeats 4000000
def p140_1 {ρ : Type} (fail : ρ) (fu : Nat)  (K0 : EL → ρ) (rec1 : Int → EL → ρ)  (z2 : Int) (z3 : EL) : ρ :=
  bif (cmpStd .geq z2 128) then (gd (1 ≤ [[(CV.v (.int .u8 (binStd .or .u8 (IntKind.u8.wrap z2) 128)))]].length) fail (gd ((z3.length + (List.take 1 [[(CV.v (.int .u8 (binStd .or .u8 (IntKind.u8.wrap z2) 128)))]]).length) * 1 ≤ 35184372088832) fail (gd ((0 : Int) ≤ 7) fail (rec1 (binStd .shr .u64 z2 7) (z3 ++ (List.take 1 [[(CV.v (.int .u8 (binStd .or .u8 (IntKind.u8.wrap z2) 128)))]])))))) else (gd (1 ≤ [[(CV.v (.int .u8 (IntKind.u8.wrap z2)))]].length) fail (gd ((z3.length + (List.take 1 [[(CV.v (.int .u8 (IntKind.u8.wrap z2)))]]).length) * 1 ≤ 35184372088832) fail (K0 (z3 ++ (List.take 1 [[(CV.v (.int .u8 (IntKind.u8.wrap z2)))]])))))
def p140_1L {ρ : Type} (fail : ρ) (fu : Nat)  (K0 : EL → ρ)   : Nat → Int → EL → ρ
  | 0, _, _ => fail
  | n + 1, z2, z3 => p140_1 fail fu  K0 (p140_1L fail fu  K0   n)  z2 z3
/-- octet.Var -/
def p140 {ρ : Type} (fail : ρ) (fu : Nat)  (K0 : EL → ρ) (x0 : EL) (x1 : Int) : ρ :=
  p120 fail fu (fun y1 => p140_1L fail fu  K0  fu x1 y1) x0 10
theorem d_p140 (fu : Nat)  {K0 : EL → Prop} (L : EL → Nat) (hN : L = List.length) {x0 : EL} {x1 : Int} (h : p140 False fu K0 x0 x1) : Den Try.prog G0 140 [.c (.sl 1 x0 none), .c (.v (.int .u64 x1))] (fun r bs => (∃ (y0 : EL) (o0 : OV) (o1 : OV), (r = .c (.sl 1 y0 none) ∧ bs = [o0, o1]) ∧ K0 y0)) := by
  obtain ⟨O, hO⟩ : ∃ O, O = std 0 T G0 (Den Try.prog G0) := ⟨_, rfl⟩
  have hLO : L = O.len := by rw [hN, hO]; rfl
  subst hLO
  refine den_h hO tiA mixed tabOk (fn := Try.f140) (sh := true) (by kernel_rfl) rfl rfl rfl rfl ?_
  intro Q hQ
  unfold p140 at h
  conv => cbv
  refine call_h hO [.shut, .shut] (d_p120 fu O.len hN h) ?_
  intro os Q hos hQ
  conv => cbv
  refine ⟨(by (rw [hos]) <;> (subst hO; rfl)), ?_⟩
  intro r bs hq
  rw [hQ] at hq
  clear hos hQ h
  obtain ⟨y1, _, _, ⟨rfl, rfl⟩, h⟩ := hq
  conv => cbv
  refine loop_of hO tiA [1, 5] [8000] [] (fun (n : Nat) tm m => ∃ (z2 : Int) (z3 : EL), ((tm = frame 0 23 [(1, .c (.v (.int .u64 z2))), (5, .t 8000 0 (O.len z3))] ∧ m = ⟨[(8000, .arr 0 1 z3 none false)], 1⟩)) ∧ p140_1L False fu  K0  n z2 z3) (fun n => n) fu ⟨x1, y1, ⟨(by (conv => lhs; cbv) <;> (subst hO; rfl)), (by (conv => lhs; cbv) <;> (subst hO; rfl))⟩, h⟩ ?_
  rintro n1 tm m L ⟨z2, z3, hs, h⟩ hLn1
  cases n1 with
  | zero => rw [p140_1L] at h; exact h.elim
  | succ n1 =>
    rw [p140_1L] at h
    unfold p140_1 at h
    obtain ⟨rfl, rfl⟩ := hs
    conv => cbv
    refine br_h hO h (by subst hO; rfl) (fun hc1 h => ?_) (fun hc1 h => ?_)
    · conv => cbv
      refine join_all hO ?_
      conv => cbv
      refine alt_l hO ?_
      conv => cbv
      refine view_h hO h (fun g => (by subst hO; exact g)) (fun h => ?_)
      conv => cbv
      refine ⟨(by subst hO; rfl), ?_⟩
      refine and_h h (fun g => (by subst hO; exact g)) (fun h => ?_)
      refine and_h h (fun g => (by subst hO; exact g)) (fun h => ?_)
      exact hLn1 n1 _ _ (Nat.lt_succ_self n1) ⟨binStd .shr .u64 z2 7, (z3 ++ (List.take 1 [[(CV.v (.int .u8 (binStd .or .u8 (IntKind.u8.wrap z2) 128)))]])), ⟨(by (conv => lhs; cbv) <;> (subst hO; rfl)), (by (conv => lhs; cbv) <;> (subst hO; rfl))⟩, h⟩
    · conv => cbv
      refine alt_l hO ?_
      conv => cbv
      refine view_h hO h (fun g => (by subst hO; exact g)) (fun h => ?_)
      conv => cbv
      refine ⟨(by subst hO; rfl), ?_⟩
      refine and_h h (fun g => (by subst hO; exact g)) (fun h => ?_)
      refine view_full hO ?_
      conv => cbv
      rw [hQ]
      exact ⟨(z3 ++ (List.take 1 [[(CV.v (.int .u8 (IntKind.u8.wrap z2)))]])), _, _, ⟨(by subst hO; rfl), (by subst hO; rfl)⟩, h⟩
/-- (*codec.Writer).Raw -/
def p119 {ρ : Type} (fail : ρ) (fu : Nat)  (K0 : EL → ρ) (x0 : EL) (x1 : Int) : ρ :=
  p140 fail fu (fun y1 => gd ((x0.length + y1.length) * 1 ≤ 35184372088832) fail (K0 (x0 ++ y1))) nilE x1
theorem d_p119 (fu : Nat)  {K0 : EL → Prop} (L : EL → Nat) (hN : L = List.length) {x0 : EL} {x1 : Int} (h : p119 False fu K0 x0 x1) : Den Try.prog G0 119 [.ptr [.arr 1 x0 none false (L x0)], .c (.v (.int .u64 x1))] (fun r bs => (∃ (y0 : EL) (o1 : OV), (r = .tup [] ∧ bs = [.ptr [.arr 1 y0 none false (L y0)], o1]) ∧ K0 y0)) := by
  obtain ⟨O, hO⟩ : ∃ O, O = std 2 T G0 (Den Try.prog G0) := ⟨_, rfl⟩
  have hLO : L = O.len := by rw [hN, hO]; rfl
  subst hLO
  refine den_h hO tiA mixed tabOk (fn := Try.f119) (sh := true) (by kernel_rfl) rfl rfl rfl rfl ?_
  intro Q hQ
  unfold p119 at h
  conv => cbv
  refine drawn_of hO tiA [] [(0, true, false), (1, true, false), (2, true, false), (3, true, false), (4, true, false), (5, true, false), (6, false, false), (7, false, true), (8, true, true), (9, true, true), (10, false, true)] (by kernel_rfl) ?_
  conv => cbv
  refine call_h hO [.shut, .shut] (d_p140 fu O.len hN h) ?_
  intro os Q hos hQ
  conv => cbv
  refine ⟨(by (rw [hos]) <;> (subst hO; rfl)), ?_⟩
  intro r bs hq
  rw [hQ] at hq
  clear hos hQ h
  obtain ⟨y1, _, _, ⟨rfl, rfl⟩, h⟩ := hq
  conv => cbv
  refine ⟨agree_of hO (Nat.le_of_ble_eq_true rfl) rfl, ?_⟩
  refine ⟨(by subst hO; rfl), ?_⟩
  refine and_h h (fun g => (by subst hO; exact g)) (fun h => ?_)
  refine join_all hO ?_
  conv => cbv
  refine ⟨(by subst hO; exact Nat.le_refl _), ?_⟩
  rw [hQ]
  exact ⟨(x0 ++ y1), _, ⟨(by subst hO; rfl), (by subst hO; rfl)⟩, h⟩
end Go.Proofs.Ythncmjlcmlmnmaa

namespace Go.Proofs.Ythncmjlcmlmnmaa
open Go V
set_option maxRecDepth 100000
set_option maxHeartbeats 4000000
def p83_1 {ρ : Type} (fail : ρ) (fu : Nat)  (K0 : EL → ρ) (rec1 : EL → Int → Int → ρ) (x1 : EL) (z1 : EL) (z2 : Int) (z3 : Int) : ρ :=
  bif (cmpStd .lss z3 z2) then (gd ((0 : Int) ≤ z3) fail (gd ((z3 : Int) < (x1.length : Nat)) fail (rw_i64 fail (List.getD x1 ((z3 : Int).toNat) []) (fun c4 => p119 fail fu (fun y5 => rec1 y5 z2 (binStd .add .i64 z3 1)) z1 (IntKind.u64.wrap c4))))) else (K0 z1)
def p83_1L {ρ : Type} (fail : ρ) (fu : Nat)  (K0 : EL → ρ)  (x1 : EL) : Nat → EL → Int → Int → ρ
  | 0, _, _, _ => fail
  | n + 1, z1, z2, z3 => p83_1 fail fu  K0 (p83_1L fail fu  K0  x1 n) x1 z1 z2 z3
/-- (*codec.Writer).Num -/
def p83 {ρ : Type} (fail : ρ) (fu : Nat)  (K0 : EL → ρ) (x0 : EL) (x1 : EL) : ρ :=
  p83_1L fail fu  K0 x1 fu x0 ((x1.length : Nat) : Int) 0
theorem d_p83 (fu : Nat)  {K0 : EL → Prop} (L : EL → Nat) (hN : L = List.length) {x0 : EL} {x1 : EL} (h : p83 False fu K0 x0 x1) : Den Try.prog G0 83 [.ptr [.arr 1 x0 none false (L x0)], .c (.sl 1 x1 none)] (fun r bs => (∃ (y0 : EL) (o1 : OV), (r = .tup [] ∧ bs = [.ptr [.arr 1 y0 none false (L y0)], o1]) ∧ K0 y0)) := by
  obtain ⟨O, hO⟩ : ∃ O, O = std 2 T G0 (Den Try.prog G0) := ⟨_, rfl⟩
  have hLO : L = O.len := by rw [hN, hO]; rfl
  subst hLO
  refine den_h hO tiA mixed tabOk (fn := Try.f83) (sh := true) (by kernel_rfl) rfl rfl rfl rfl ?_
  intro Q hQ
  unfold p83 at h
  conv => cbv
  refine loop_of hO tiA [0, 6, 7, 8] [0, 1000000] [] (fun (n : Nat) tm m => ∃ (z1 : EL) (z2 : Int) (z3 : Int), ((tm = frame 0 17 [(0, .p 0 1 0), (6, .c (.sl 1 x1 none)), (7, .c (.v (.int .i64 z2))), (8, .c (.v (.int .i64 z3)))] ∧ m = ⟨[(0, .blk 1 [.t 1000000 2 (O.len z1)]), (1000000, .arr 2 1 z1 none false)], 3⟩)) ∧ p83_1L False fu  K0 x1 n z1 z2 z3) (fun n => n) fu ⟨x0, ((x1.length : Nat) : Int), 0, ⟨(by (conv => lhs; cbv) <;> (subst hO; rfl)), (by (conv => lhs; cbv) <;> (subst hO; rfl))⟩, h⟩ ?_
  rintro n1 tm m L ⟨z1, z2, z3, hs, h⟩ hLn1
  cases n1 with
  | zero => rw [p83_1L] at h; exact h.elim
  | succ n1 =>
    rw [p83_1L] at h
    unfold p83_1 at h
    obtain ⟨rfl, rfl⟩ := hs
    conv => cbv
    refine br_h hO h (by subst hO; rfl) (fun hc1 h => ?_) (fun hc1 h => ?_)
    · conv => cbv
      refine join_all hO ?_
      conv => cbv
      refine and_h h (fun g => (by subst hO; exact g)) (fun h => ?_)
      refine and_h h (fun g => (by subst hO; exact g)) (fun h => ?_)
      obtain ⟨c4, hr, h⟩ := rw_i64_inv h
      refine elem_of hO _ (by subst hO; exact hr) ?_
      clear hr
      conv => cbv
      refine call_h hO [.ref 1, .shut] (d_p119 fu O.len hN h) ?_
      intro os Q hos hQ
      conv => cbv
      refine ⟨(by subst hO; exact Nat.le_refl _), ?_⟩
      refine ⟨(by (rw [hos]) <;> (subst hO; rfl)), ?_⟩
      intro r bs hq
      rw [hQ] at hq
      clear hos hQ h
      obtain ⟨y5, _, ⟨rfl, rfl⟩, h⟩ := hq
      conv => cbv
      exact hLn1 n1 _ _ (Nat.lt_succ_self n1) ⟨y5, z2, binStd .add .i64 z3 1, ⟨(by (conv => lhs; cbv) <;> (subst hO; rfl)), (by (conv => lhs; cbv) <;> (subst hO; rfl))⟩, h⟩
    · conv => cbv
      refine ⟨(by subst hO; exact Nat.le_refl _), ?_⟩
      rw [hQ]
      exact ⟨z1, _, ⟨(by subst hO; rfl), (by subst hO; rfl)⟩, h⟩
/-- (*codec.Writer).Text -/
def p87 {ρ : Type} (fail : ρ) (fu : Nat)  (K0 : EL → ρ) (x0 : EL) (x1 : EL) : ρ :=
  p119 fail fu (fun y1 => gd ((y1.length + x1.length) * 1 ≤ 35184372088832) fail (K0 (y1 ++ x1))) x0 (IntKind.u64.wrap ((x1.length : Nat) : Int))
theorem d_p87 (fu : Nat)  {K0 : EL → Prop} (L : EL → Nat) (hN : L = List.length) {x0 : EL} {x1 : EL} (h : p87 False fu K0 x0 x1) : Den Try.prog G0 87 [.ptr [.arr 1 x0 none false (L x0)], .c (.sl 1 x1 none)] (fun r bs => (∃ (y0 : EL) (o1 : OV), (r = .tup [] ∧ bs = [.ptr [.arr 1 y0 none false (L y0)], o1]) ∧ K0 y0)) := by
  obtain ⟨O, hO⟩ : ∃ O, O = std 2 T G0 (Den Try.prog G0) := ⟨_, rfl⟩
  have hLO : L = O.len := by rw [hN, hO]; rfl
  subst hLO
  refine den_h hO tiA mixed tabOk (fn := Try.f87) (sh := true) (by kernel_rfl) rfl rfl rfl rfl ?_
  intro Q hQ
  unfold p87 at h
  conv => cbv
  refine call_h hO [.ref 1, .shut] (d_p119 fu O.len hN h) ?_
  intro os Q hos hQ
  conv => cbv
  refine ⟨(by subst hO; exact Nat.le_refl _), ?_⟩
  refine ⟨(by (rw [hos]) <;> (subst hO; rfl)), ?_⟩
  intro r bs hq
  rw [hQ] at hq
  clear hos hQ h
  obtain ⟨y1, _, ⟨rfl, rfl⟩, h⟩ := hq
  conv => cbv
  refine ⟨(by subst hO; rfl), ?_⟩
  refine and_h h (fun g => (by subst hO; exact g)) (fun h => ?_)
  refine ⟨(by subst hO; exact Nat.le_refl _), ?_⟩
  rw [hQ]
  exact ⟨(y1 ++ x1), _, ⟨(by subst hO; rfl), (by subst hO; rfl)⟩, h⟩
end Go.Proofs.Ythncmjlcmlmnmaa

namespace Go.Proofs.Ythncmjlcmlmnmaa
open Go V
set_option maxRecDepth 100000
set_option maxHeartbeats 4000000
def p70_1 {ρ : Type} (fail : ρ) (fu : Nat) (s_p70 : (EL → ρ) → EL → Int → Int → EL → ρ) (K0 : EL → ρ) (rec1 : EL → Int → Int → ρ) (x3 : EL) (z3 : EL) (z4 : Int) (z5 : Int) : ρ :=
  bif (cmpStd .lss z5 z4) then (gd ((0 : Int) ≤ z5) fail (gd ((z5 : Int) < (x3.length : Nat)) fail (rw_i64_i64_l3 fail (List.getD x3 ((z5 : Int).toNat) []) (fun c6 c7 c8 => s_p70 (fun y9 => rec1 y9 z4 (binStd .add .i64 z5 1)) z3 c6 c7 c8)))) else (K0 z3)
def p70_1L {ρ : Type} (fail : ρ) (fu : Nat) (s_p70 : (EL → ρ) → EL → Int → Int → EL → ρ) (K0 : EL → ρ)  (x3 : EL) : Nat → EL → Int → Int → ρ
  | 0, _, _, _ => fail
  | n + 1, z3, z4, z5 => p70_1 fail fu s_p70 K0 (p70_1L fail fu s_p70 K0  x3 n) x3 z3 z4 z5
def p70_2 {ρ : Type} (fail : ρ) (fu : Nat) (s_p70 : (EL → ρ) → EL → Int → Int → EL → ρ) (K0 : EL → ρ)  (x3 : EL) (j2 : EL) : ρ :=
  p70_1L fail fu s_p70 K0 x3 fu j2 ((x3.length : Nat) : Int) 0
/-- (*codec.Writer).Level -/
def p70_b {ρ : Type} (fail : ρ) (fu : Nat) (s_p70 : (EL → ρ) → EL → Int → Int → EL → ρ) (K0 : EL → ρ) (x0 : EL) (x1 : Int) (x2 : Int) (x3 : EL) : ρ :=
  gd (1 ≤ [[(CV.v (.int .i64 x1))]].length) fail (p83 fail fu (fun y1 => bif (cmpStd .eql x1 4) then (gd (1 ≤ [[(CV.v (.int .i64 x2))]].length) fail (p83 fail fu (fun y10 => p70_2 fail fu s_p70 K0 x3 y10) y1 (List.take 1 [[(CV.v (.int .i64 x2))]]))) else (p70_2 fail fu s_p70 K0 x3 y1)) x0 (List.take 1 [[(CV.v (.int .i64 x1))]]))
def p70 {ρ : Type} (fail : ρ) : Nat → (EL → ρ) → EL → Int → Int → EL → ρ
  | 0, _, _, _, _, _ => fail
  | n + 1, K0, x0, x1, x2, x3 => p70_b fail n (p70 fail n) K0 x0 x1 x2 x3
def D_p70 (fu : Nat) : Prop := ∀ {K0 : EL → Prop} (L : EL → Nat) (_ : L = List.length) {x0 : EL} {x1 : Int} {x2 : Int} {x3 : EL} (_ : p70 False fu K0 x0 x1 x2 x3), Den Try.prog G0 70 [.ptr [.arr 1 x0 none false (L x0)], .agg [.c (.v (.int .i64 x1)), .c (.v (.int .i64 x2)), .c (.sl 3 x3 none)]] (fun r bs => (∃ (y0 : EL) (o1 : OV), (r = .tup [] ∧ bs = [.ptr [.arr 1 y0 none false (L y0)], o1]) ∧ K0 y0))
theorem b_p70 (fu : Nat) (ih_p70 : D_p70 fu) {K0 : EL → Prop} (L : EL → Nat) (hN : L = List.length) {x0 : EL} {x1 : Int} {x2 : Int} {x3 : EL} (h : p70_b False fu (p70 False fu) K0 x0 x1 x2 x3) : Den Try.prog G0 70 [.ptr [.arr 1 x0 none false (L x0)], .agg [.c (.v (.int .i64 x1)), .c (.v (.int .i64 x2)), .c (.sl 3 x3 none)]] (fun r bs => (∃ (y0 : EL) (o1 : OV), (r = .tup [] ∧ bs = [.ptr [.arr 1 y0 none false (L y0)], o1]) ∧ K0 y0)) := by
  obtain ⟨O, hO⟩ : ∃ O, O = std 2 T G0 (Den Try.prog G0) := ⟨_, rfl⟩
  have hLO : L = O.len := by rw [hN, hO]; rfl
  subst hLO
  refine den_h hO tiA mixed tabOk (fn := Try.f70) (sh := true) (by kernel_rfl) rfl rfl rfl rfl ?_
  intro Q hQ
  unfold p70_b at h
  conv => cbv
  obtain ⟨hc4, h⟩ := gd_inv h
  refine call_h hO [.ref 1, .shut] (d_p83 fu O.len hN h) ?_
  intro os Q hos hQ
  conv => cbv
  refine ⟨(by subst hO; exact Nat.le_refl _), ?_⟩
  refine view_of hO (by subst hO; exact hc4) ?_
  conv => cbv
  refine ⟨(by (rw [hos]) <;> (subst hO; rfl)), ?_⟩
  intro r bs hq
  rw [hQ] at hq
  clear hos hQ h
  obtain ⟨y1, _, ⟨rfl, rfl⟩, h⟩ := hq
  conv => cbv
  refine br_join_h hO tiA h (by subst hO; rfl) [0, 3] [0, 4000, 1000000] [] (fun tm m => ∃ (j2 : EL), ((tm = frame 0 30 [(0, .p 0 1 0), (3, .p 4000 2 0)] ∧ m = ⟨[(0, .blk 1 [.t 1000000 2 (O.len j2)]), (4000, .blk 2 [.c (.v (.int .i64 x1)), .c (.v (.int .i64 x2)), .c (.sl 3 x3 none)]), (1000000, .arr 2 1 j2 none false)], 3⟩)) ∧ p70_2 False fu (p70 False fu) K0 x3 j2) (fun hc2 h L hL_2 => ?_) (fun hc2 h L hL_2 => ?_) ?_
  · conv => cbv
    obtain ⟨hc3, h⟩ := gd_inv h
    refine call_h hO [.ref 1, .shut] (d_p83 fu O.len hN h) ?_
    intro os Q hos hQ
    conv => cbv
    refine ⟨(by subst hO; exact Nat.le_refl _), ?_⟩
    refine view_of hO (by subst hO; exact hc3) ?_
    conv => cbv
    refine ⟨(by (rw [hos]) <;> (subst hO; rfl)), ?_⟩
    intro r bs hq
    rw [hQ] at hq
    clear hos hQ h
    obtain ⟨y10, _, ⟨rfl, rfl⟩, h⟩ := hq
    conv => cbv
    exact hL_2 _ _ ⟨y10, ⟨(by (conv => lhs; cbv) <;> (subst hO; rfl)), (by (conv => lhs; cbv) <;> (subst hO; rfl))⟩, h⟩
  · conv => cbv
    exact hL_2 _ _ ⟨y1, ⟨(by (conv => lhs; cbv) <;> (subst hO; rfl)), (by (conv => lhs; cbv) <;> (subst hO; rfl))⟩, h⟩
  · rintro tm m ⟨j2, hs, h⟩
    unfold p70_2 at h
    obtain ⟨rfl, rfl⟩ := hs
    conv => cbv
    refine loop_of hO tiA [0, 20, 21, 22] [0, 1000000] [] (fun (n : Nat) tm m => ∃ (z3 : EL) (z4 : Int) (z5 : Int), ((tm = frame 0 30 [(0, .p 0 1 0), (20, .c (.sl 3 x3 none)), (21, .c (.v (.int .i64 z4))), (22, .c (.v (.int .i64 z5)))] ∧ m = ⟨[(0, .blk 1 [.t 1000000 2 (O.len z3)]), (1000000, .arr 2 1 z3 none false)], 3⟩)) ∧ p70_1L False fu (p70 False fu) K0 x3 n z3 z4 z5) (fun n => n) fu ⟨j2, ((x3.length : Nat) : Int), 0, ⟨(by (conv => lhs; cbv) <;> (subst hO; rfl)), (by (conv => lhs; cbv) <;> (subst hO; rfl))⟩, h⟩ ?_
    rintro n1 tm m L ⟨z3, z4, z5, hs, h⟩ hLn1
    cases n1 with
    | zero => rw [p70_1L] at h; exact h.elim
    | succ n1 =>
      rw [p70_1L] at h
      unfold p70_1 at h
      obtain ⟨rfl, rfl⟩ := hs
      conv => cbv
      refine br_h hO h (by subst hO; rfl) (fun hc1 h => ?_) (fun hc1 h => ?_)
      · conv => cbv
        refine join_all hO ?_
        conv => cbv
        refine and_h h (fun g => (by subst hO; exact g)) (fun h => ?_)
        refine and_h h (fun g => (by subst hO; exact g)) (fun h => ?_)
        obtain ⟨c6, c7, c8, hr, h⟩ := rw_i64_i64_l3_inv h
        refine elem_of hO _ (by subst hO; exact hr) ?_
        clear hr
        conv => cbv
        refine call_h hO [.ref 1, .shut] (ih_p70 O.len hN h) ?_
        intro os Q hos hQ
        conv => cbv
        refine ⟨(by subst hO; exact Nat.le_refl _), ?_⟩
        refine ⟨(by (rw [hos]) <;> (subst hO; rfl)), ?_⟩
        intro r bs hq
        rw [hQ] at hq
        clear hos hQ h
        obtain ⟨y9, _, ⟨rfl, rfl⟩, h⟩ := hq
        conv => cbv
        exact hLn1 n1 _ _ (Nat.lt_succ_self n1) ⟨y9, z4, binStd .add .i64 z5 1, ⟨(by (conv => lhs; cbv) <;> (subst hO; rfl)), (by (conv => lhs; cbv) <;> (subst hO; rfl))⟩, h⟩
      · conv => cbv
        refine ⟨(by subst hO; exact Nat.le_refl _), ?_⟩
        rw [hQ]
        exact ⟨z3, _, ⟨(by subst hO; rfl), (by subst hO; rfl)⟩, h⟩
theorem dd_p70 (fu : Nat) : D_p70 fu := by
  induction fu with
  | zero => unfold D_p70; intros; rename_i h; rw [p70] at h; exact h.elim
  | succ n ih =>
    exact (by unfold D_p70; intro K0 L hN x0 x1 x2 x3 h; exact b_p70 n ih L hN (by rw [p70] at h; exact h))
theorem d_p70 (fu : Nat) {K0 : EL → Prop} (L : EL → Nat) (hL : L = List.length) {x0 : EL} {x1 : Int} {x2 : Int} {x3 : EL} (h : p70 False fu K0 x0 x1 x2 x3) : Den Try.prog G0 70 [.ptr [.arr 1 x0 none false (L x0)], .agg [.c (.v (.int .i64 x1)), .c (.v (.int .i64 x2)), .c (.sl 3 x3 none)]] (fun r bs => (∃ (y0 : EL) (o1 : OV), (r = .tup [] ∧ bs = [.ptr [.arr 1 y0 none false (L y0)], o1]) ∧ K0 y0)) := dd_p70 fu L hL h
end Go.Proofs.Ythncmjlcmlmnmaa
