/- Functions without memory, and that the Go functions are followed by them. Printed by gen.py. Conditions: none. -/
import Derived.Test.YthncmjlcmlmnmaaG
import Derived.Test.YthncmjlcmlmnmaaPR
import Derived.Test.YthncmjlcmlmnmaaRW4
import Derived.Test.YthncmjlcmlmnmaaRW1
namespace Go.Proofs.Ythncmjlcmlmnmaa
open Go V
set_option maxRecDepth 100000
set_option maxHeartbeats 4000000
def p64_1 {ρ : Type} (fail : ρ) (fu : Nat) (s_p64 : (EL → ρ) → EL → Int → Int → ByteArray → EL → EL → ρ) (K0 : EL → ρ) (rec2 : EL → Int → Int → ρ) (x5 : EL) (z10 : EL) (z11 : Int) (z12 : Int) : ρ :=
  bif (cmpStd .lss z12 z11) then (gd ((0 : Int) ≤ z12) fail (gd ((z12 : Int) < (x5.length : Nat)) fail (rw_i64_i64_s_l3_l5 fail (List.getD x5 ((z12 : Int).toNat) []) (fun c13 c14 c15 c16 c17 => s_p64 (fun y18 => rec2 y18 z11 (binStd .add .i64 z12 1)) z10 c13 c14 c15 c16 c17)))) else (K0 z10)
def p64_1L {ρ : Type} (fail : ρ) (fu : Nat) (s_p64 : (EL → ρ) → EL → Int → Int → ByteArray → EL → EL → ρ) (K0 : EL → ρ)  (x5 : EL) : Nat → EL → Int → Int → ρ
  | 0, _, _, _ => fail
  | n + 1, z10, z11, z12 => p64_1 fail fu s_p64 K0 (p64_1L fail fu s_p64 K0  x5 n) x5 z10 z11 z12
def p64_2 {ρ : Type} (fail : ρ) (fu : Nat) (s_p64 : (EL → ρ) → EL → Int → Int → ByteArray → EL → EL → ρ) (K0 : EL → ρ) (rec1 : EL → Int → Int → ρ) (x4 : EL) (x5 : EL) (z3 : EL) (z4 : Int) (z5 : Int) : ρ :=
  bif (cmpStd .lss z5 z4) then (gd ((0 : Int) ≤ z5) fail (gd ((z5 : Int) < (x4.length : Nat)) fail (rw_i64_i64_l3 fail (List.getD x4 ((z5 : Int).toNat) []) (fun c6 c7 c8 => p70 fail fu (fun y9 => rec1 y9 z4 (binStd .add .i64 z5 1)) z3 c6 c7 c8)))) else (p64_1L fail fu s_p64 K0 x5 fu z3 ((x5.length : Nat) : Int) 0)
def p64_2L {ρ : Type} (fail : ρ) (fu : Nat) (s_p64 : (EL → ρ) → EL → Int → Int → ByteArray → EL → EL → ρ) (K0 : EL → ρ)  (x4 : EL) (x5 : EL) : Nat → EL → Int → Int → ρ
  | 0, _, _, _ => fail
  | n + 1, z3, z4, z5 => p64_2 fail fu s_p64 K0 (p64_2L fail fu s_p64 K0  x4 x5 n) x4 x5 z3 z4 z5
def p64_3 {ρ : Type} (fail : ρ) (fu : Nat) (s_p64 : (EL → ρ) → EL → Int → Int → ByteArray → EL → EL → ρ) (K0 : EL → ρ)  (x4 : EL) (x5 : EL) (j2 : EL) : ρ :=
  p64_2L fail fu s_p64 K0 x4 x5 fu j2 ((x4.length : Nat) : Int) 0
def p64_4 {ρ : Type} (fail : ρ) (fu : Nat) (s_p64 : (EL → ρ) → EL → Int → Int → ByteArray → EL → EL → ρ) (K0 : EL → ρ)  (x4 : EL) (x5 : EL) (j20 : EL) : ρ :=
  p64_3 fail fu s_p64 K0 x4 x5 j20
/-- (*codec.Writer).Term -/
def p64_b {ρ : Type} (fail : ρ) (fu : Nat) (s_p64 : (EL → ρ) → EL → Int → Int → ByteArray → EL → EL → ρ) (K0 : EL → ρ) (x0 : EL) (x1 : Int) (x2 : Int) (x3 : ByteArray) (x4 : EL) (x5 : EL) : ρ :=
  gd (1 ≤ [[(CV.v (.int .i64 x1))]].length) fail (p83 fail fu (fun y1 => bif (cmpStd .eql x1 0) then (gd (1 ≤ [[(CV.v (.int .i64 x2))]].length) fail (p83 fail fu (fun y19 => p64_3 fail fu s_p64 K0 x4 x5 y19) y1 (List.take 1 [[(CV.v (.int .i64 x2))]]))) else (bif (cmpStd .eql x1 2) then (gd (x3.size ≤ (encB x3.data.toList).length) fail (p87 fail fu (fun y21 => gd (1 ≤ [[(CV.v (.int .i64 ((x4.length : Nat) : Int)))]].length) fail (p83 fail fu (fun y22 => p64_4 fail fu s_p64 K0 x4 x5 y22) y21 (List.take 1 [[(CV.v (.int .i64 ((x4.length : Nat) : Int)))]]))) y1 (List.take x3.size (encB x3.data.toList)))) else (p64_4 fail fu s_p64 K0 x4 x5 y1))) x0 (List.take 1 [[(CV.v (.int .i64 x1))]]))
def p64 {ρ : Type} (fail : ρ) : Nat → (EL → ρ) → EL → Int → Int → ByteArray → EL → EL → ρ
  | 0, _, _, _, _, _, _, _ => fail
  | n + 1, K0, x0, x1, x2, x3, x4, x5 => p64_b fail n (p64 fail n) K0 x0 x1 x2 x3 x4 x5
def D_p64 (fu : Nat) : Prop := ∀ {K0 : EL → Prop} (L : EL → Nat) (_ : L = List.length) {x0 : EL} {x1 : Int} {x2 : Int} {x3 : ByteArray} {x4 : EL} {x5 : EL} (_ : p64 False fu K0 x0 x1 x2 x3 x4 x5), Den Try.prog G0 64 [.ptr [.arr 1 x0 none false (L x0)], .agg [.c (.v (.int .i64 x1)), .c (.v (.int .i64 x2)), .c (.v (.string x3)), .c (.sl 3 x4 none), .c (.sl 5 x5 none)]] (fun r bs => (∃ (y0 : EL) (o1 : OV), (r = .tup [] ∧ bs = [.ptr [.arr 1 y0 none false (L y0)], o1]) ∧ K0 y0))
theorem b_p64 (fu : Nat) (ih_p64 : D_p64 fu) {K0 : EL → Prop} (L : EL → Nat) (hN : L = List.length) {x0 : EL} {x1 : Int} {x2 : Int} {x3 : ByteArray} {x4 : EL} {x5 : EL} (h : p64_b False fu (p64 False fu) K0 x0 x1 x2 x3 x4 x5) : Den Try.prog G0 64 [.ptr [.arr 1 x0 none false (L x0)], .agg [.c (.v (.int .i64 x1)), .c (.v (.int .i64 x2)), .c (.v (.string x3)), .c (.sl 3 x4 none), .c (.sl 5 x5 none)]] (fun r bs => (∃ (y0 : EL) (o1 : OV), (r = .tup [] ∧ bs = [.ptr [.arr 1 y0 none false (L y0)], o1]) ∧ K0 y0)) := by
  obtain ⟨O, hO⟩ : ∃ O, O = std 2 T G0 (Den Try.prog G0) := ⟨_, rfl⟩
  have hLO : L = O.len := by rw [hN, hO]; rfl
  subst hLO
  refine den_h hO tiA mixed tabOk (fn := Try.f64) (sh := true) (by kernel_rfl) rfl rfl rfl rfl ?_
  intro Q hQ
  unfold p64_b at h
  conv => cbv
  obtain ⟨hc8, h⟩ := gd_inv h
  refine call_h hO [.ref 1, .shut] (d_p83 fu O.len hN h) ?_
  intro os Q hos hQ
  conv => cbv
  refine ⟨(by subst hO; exact Nat.le_refl _), ?_⟩
  refine view_of hO (by subst hO; exact hc8) ?_
  conv => cbv
  refine ⟨(by (rw [hos]) <;> (subst hO; rfl)), ?_⟩
  intro r bs hq
  rw [hQ] at hq
  clear hos hQ h
  obtain ⟨y1, _, ⟨rfl, rfl⟩, h⟩ := hq
  conv => cbv
  refine br_join_h hO tiA h (by subst hO; rfl) [0, 3] [0, 4000, 1000000] [] (fun tm m => ∃ (j2 : EL), ((tm = frame 0 57 [(0, .p 0 1 0), (3, .p 4000 2 0)] ∧ m = ⟨[(0, .blk 1 [.t 1000000 2 (O.len j2)]), (4000, .blk 2 [.c (.v (.int .i64 x1)), .c (.v (.int .i64 x2)), .c (.v (.string x3)), .c (.sl 3 x4 none), .c (.sl 5 x5 none)]), (1000000, .arr 2 1 j2 none false)], 3⟩)) ∧ p64_3 False fu (p64 False fu) K0 x4 x5 j2) (fun hc3 h L hL_3 => ?_) (fun hc3 h L hL_3 => ?_) ?_
  · conv => cbv
    obtain ⟨hc4, h⟩ := gd_inv h
    refine call_h hO [.ref 1, .shut] (d_p83 fu O.len hN h) ?_
    intro os Q hos hQ
    conv => cbv
    refine ⟨(by subst hO; exact Nat.le_refl _), ?_⟩
    refine view_of hO (by subst hO; exact hc4) ?_
    conv => cbv
    refine ⟨(by (rw [hos]) <;> (subst hO; rfl)), ?_⟩
    intro r bs hq
    rw [hQ] at hq
    clear hos hQ h
    obtain ⟨y19, _, ⟨rfl, rfl⟩, h⟩ := hq
    conv => cbv
    exact hL_3 _ _ ⟨y19, ⟨(by (conv => lhs; cbv) <;> (subst hO; rfl)), (by (conv => lhs; cbv) <;> (subst hO; rfl))⟩, h⟩
  · conv => cbv
    refine br_join_h hO tiA h (by subst hO; rfl) [0, 3] [0, 4000, 1000000] [] (fun tm m => ∃ (j20 : EL), ((tm = frame 0 57 [(0, .p 0 1 0), (3, .p 4000 2 0)] ∧ m = ⟨[(0, .blk 1 [.t 1000000 2 (O.len j20)]), (4000, .blk 2 [.c (.v (.int .i64 x1)), .c (.v (.int .i64 x2)), .c (.v (.string x3)), .c (.sl 3 x4 none), .c (.sl 5 x5 none)]), (1000000, .arr 2 1 j20 none false)], 3⟩)) ∧ p64_4 False fu (p64 False fu) K0 x4 x5 j20) (fun hc5 h L hL_4 => ?_) (fun hc5 h L hL_4 => ?_) ?_
    · conv => cbv
      obtain ⟨hc7, h⟩ := gd_inv h
      refine call_h hO [.ref 1, .shut] (d_p87 fu O.len hN h) ?_
      intro os Q hos hQ
      conv => cbv
      refine ⟨(by subst hO; exact Nat.le_refl _), ?_⟩
      refine view_of hO (by subst hO; exact hc7) ?_
      conv => cbv
      refine ⟨(by (rw [hos]) <;> (subst hO; rfl)), ?_⟩
      intro r bs hq
      rw [hQ] at hq
      clear hos hQ h
      obtain ⟨y21, _, ⟨rfl, rfl⟩, h⟩ := hq
      conv => cbv
      obtain ⟨hc6, h⟩ := gd_inv h
      refine call_h hO [.ref 1, .shut] (d_p83 fu O.len hN h) ?_
      intro os Q hos hQ
      conv => cbv
      refine ⟨(by subst hO; exact Nat.le_refl _), ?_⟩
      refine view_of hO (by subst hO; exact hc6) ?_
      conv => cbv
      refine ⟨(by (rw [hos]) <;> (subst hO; rfl)), ?_⟩
      intro r bs hq
      rw [hQ] at hq
      clear hos hQ h
      obtain ⟨y22, _, ⟨rfl, rfl⟩, h⟩ := hq
      conv => cbv
      exact hL_4 _ _ ⟨y22, ⟨(by (conv => lhs; cbv) <;> (subst hO; rfl)), (by (conv => lhs; cbv) <;> (subst hO; rfl))⟩, h⟩
    · conv => cbv
      exact hL_4 _ _ ⟨y1, ⟨(by (conv => lhs; cbv) <;> (subst hO; rfl)), (by (conv => lhs; cbv) <;> (subst hO; rfl))⟩, h⟩
    · rintro tm m ⟨j20, hs, h⟩
      unfold p64_4 at h
      obtain ⟨rfl, rfl⟩ := hs
      conv => cbv
      exact hL_3 _ _ ⟨j20, ⟨(by (conv => lhs; cbv) <;> (subst hO; rfl)), (by (conv => lhs; cbv) <;> (subst hO; rfl))⟩, h⟩
  · rintro tm m ⟨j2, hs, h⟩
    unfold p64_3 at h
    obtain ⟨rfl, rfl⟩ := hs
    conv => cbv
    refine loop_of hO tiA [0, 3, 36, 37, 38] [0, 4000, 1000000] [] (fun (n : Nat) tm m => ∃ (z3 : EL) (z4 : Int) (z5 : Int), ((tm = frame 0 57 [(0, .p 0 1 0), (3, .p 4000 2 0), (36, .c (.sl 3 x4 none)), (37, .c (.v (.int .i64 z4))), (38, .c (.v (.int .i64 z5)))] ∧ m = ⟨[(0, .blk 1 [.t 1000000 2 (O.len z3)]), (4000, .blk 2 [.c (.v (.int .i64 x1)), .c (.v (.int .i64 x2)), .c (.v (.string x3)), .c (.sl 3 x4 none), .c (.sl 5 x5 none)]), (1000000, .arr 2 1 z3 none false)], 3⟩)) ∧ p64_2L False fu (p64 False fu) K0 x4 x5 n z3 z4 z5) (fun n => n) fu ⟨j2, ((x4.length : Nat) : Int), 0, ⟨(by (conv => lhs; cbv) <;> (subst hO; rfl)), (by (conv => lhs; cbv) <;> (subst hO; rfl))⟩, h⟩ ?_
    rintro n1 tm m L ⟨z3, z4, z5, hs, h⟩ hLn1
    cases n1 with
    | zero => rw [p64_2L] at h; exact h.elim
    | succ n1 =>
      rw [p64_2L] at h
      unfold p64_2 at h
      obtain ⟨rfl, rfl⟩ := hs
      conv => cbv
      refine br_h hO h (by subst hO; rfl) (fun hc1 h => ?_) (fun hc1 h => ?_)
      · conv => cbv
        refine join_all hO ?_
        conv => cbv
        refine and_h h (fun g => (by subst hO; exact g)) (fun h => ?_)
        refine and_h h (fun g => (by subst hO; exact g)) (fun h => ?_)
        obtain ⟨c6, c7, c8, hr, h⟩ := rw_i64_i64_l3_inv h
        refine elem_of hO _ (by subst hO; exact hr) ?_
        clear hr
        conv => cbv
        refine call_h hO [.ref 1, .shut] (d_p70 fu O.len hN h) ?_
        intro os Q hos hQ
        conv => cbv
        refine ⟨(by subst hO; exact Nat.le_refl _), ?_⟩
        refine ⟨(by (rw [hos]) <;> (subst hO; rfl)), ?_⟩
        intro r bs hq
        rw [hQ] at hq
        clear hos hQ h
        obtain ⟨y9, _, ⟨rfl, rfl⟩, h⟩ := hq
        conv => cbv
        exact hLn1 n1 _ _ (Nat.lt_succ_self n1) ⟨y9, z4, binStd .add .i64 z5 1, ⟨(by (conv => lhs; cbv) <;> (subst hO; rfl)), (by (conv => lhs; cbv) <;> (subst hO; rfl))⟩, h⟩
      · conv => cbv
        refine loop_of hO tiA [0, 47, 48, 49] [0, 1000000] [] (fun (n : Nat) tm m => ∃ (z10 : EL) (z11 : Int) (z12 : Int), ((tm = frame 0 57 [(0, .p 0 1 0), (47, .c (.sl 5 x5 none)), (48, .c (.v (.int .i64 z11))), (49, .c (.v (.int .i64 z12)))] ∧ m = ⟨[(0, .blk 1 [.t 1000000 2 (O.len z10)]), (1000000, .arr 2 1 z10 none false)], 3⟩)) ∧ p64_1L False fu (p64 False fu) K0 x5 n z10 z11 z12) (fun n => n) fu ⟨z3, ((x5.length : Nat) : Int), 0, ⟨(by (conv => lhs; cbv) <;> (subst hO; rfl)), (by (conv => lhs; cbv) <;> (subst hO; rfl))⟩, h⟩ ?_
        rintro n2 tm m L ⟨z10, z11, z12, hs, h⟩ hLn2
        cases n2 with
        | zero => rw [p64_1L] at h; exact h.elim
        | succ n2 =>
          rw [p64_1L] at h
          unfold p64_1 at h
          obtain ⟨rfl, rfl⟩ := hs
          conv => cbv
          refine br_h hO h (by subst hO; rfl) (fun hc2 h => ?_) (fun hc2 h => ?_)
          · conv => cbv
            refine join_all hO ?_
            conv => cbv
            refine and_h h (fun g => (by subst hO; exact g)) (fun h => ?_)
            refine and_h h (fun g => (by subst hO; exact g)) (fun h => ?_)
            obtain ⟨c13, c14, c15, c16, c17, hr, h⟩ := rw_i64_i64_s_l3_l5_inv h
            refine elem_of hO _ (by subst hO; exact hr) ?_
            clear hr
            conv => cbv
            refine call_h hO [.ref 1, .shut] (ih_p64 O.len hN h) ?_
            intro os Q hos hQ
            conv => cbv
            refine ⟨(by subst hO; exact Nat.le_refl _), ?_⟩
            refine ⟨(by (rw [hos]) <;> (subst hO; rfl)), ?_⟩
            intro r bs hq
            rw [hQ] at hq
            clear hos hQ h
            obtain ⟨y18, _, ⟨rfl, rfl⟩, h⟩ := hq
            conv => cbv
            exact hLn2 n2 _ _ (Nat.lt_succ_self n2) ⟨y18, z11, binStd .add .i64 z12 1, ⟨(by (conv => lhs; cbv) <;> (subst hO; rfl)), (by (conv => lhs; cbv) <;> (subst hO; rfl))⟩, h⟩
          · conv => cbv
            refine ⟨(by subst hO; exact Nat.le_refl _), ?_⟩
            rw [hQ]
            exact ⟨z10, _, ⟨(by subst hO; rfl), (by subst hO; rfl)⟩, h⟩
theorem dd_p64 (fu : Nat) : D_p64 fu := by
  induction fu with
  | zero => unfold D_p64; intros; rename_i h; rw [p64] at h; exact h.elim
  | succ n ih =>
    exact (by unfold D_p64; intro K0 L hN x0 x1 x2 x3 x4 x5 h; exact b_p64 n ih L hN (by rw [p64] at h; exact h))
theorem d_p64 (fu : Nat) {K0 : EL → Prop} (L : EL → Nat) (hL : L = List.length) {x0 : EL} {x1 : Int} {x2 : Int} {x3 : ByteArray} {x4 : EL} {x5 : EL} (h : p64 False fu K0 x0 x1 x2 x3 x4 x5) : Den Try.prog G0 64 [.ptr [.arr 1 x0 none false (L x0)], .agg [.c (.v (.int .i64 x1)), .c (.v (.int .i64 x2)), .c (.v (.string x3)), .c (.sl 3 x4 none), .c (.sl 5 x5 none)]] (fun r bs => (∃ (y0 : EL) (o1 : OV), (r = .tup [] ∧ bs = [.ptr [.arr 1 y0 none false (L y0)], o1]) ∧ K0 y0)) := dd_p64 fu L hL h
end Go.Proofs.Ythncmjlcmlmnmaa

namespace Go.Proofs.Ythncmjlcmlmnmaa
open Go V
set_option maxRecDepth 100000
set_option maxHeartbeats 4000000
/-- codec.Term -/
def p17 {ρ : Type} (fail : ρ) (fu : Nat)  (K0 : EL → ρ) (x0 : EL) (x1 : Int) (x2 : Int) (x3 : ByteArray) (x4 : EL) (x5 : EL) : ρ :=
  p63 fail fu (fun y1 => p64 fail fu (fun y2 => K0 y2) y1 x1 x2 x3 x4 x5) x0
theorem d_p17 (fu : Nat)  {K0 : EL → Prop} (L : EL → Nat) (hN : L = List.length) {x0 : EL} {x1 : Int} {x2 : Int} {x3 : ByteArray} {x4 : EL} {x5 : EL} (h : p17 False fu K0 x0 x1 x2 x3 x4 x5) : Den Try.prog G0 17 [.c (.sl 1 x0 none), .agg [.c (.v (.int .i64 x1)), .c (.v (.int .i64 x2)), .c (.v (.string x3)), .c (.sl 3 x4 none), .c (.sl 5 x5 none)]] (fun r bs => (∃ (y0 : EL) (o0 : OV) (o1 : OV), (r = .arr 1 y0 none false (L y0) ∧ bs = [o0, o1]) ∧ K0 y0)) := by
  obtain ⟨O, hO⟩ : ∃ O, O = std 0 T G0 (Den Try.prog G0) := ⟨_, rfl⟩
  have hLO : L = O.len := by rw [hN, hO]; rfl
  subst hLO
  refine den_h hO tiA mixed tabOk (fn := Try.f17) (sh := false) (by kernel_rfl) rfl rfl rfl rfl ?_
  intro Q hQ
  unfold p17 at h
  conv => cbv
  refine call_h hO [.shut] (d_p63 fu O.len hN h) ?_
  intro os Q hos hQ
  conv => cbv
  refine ⟨(by (rw [hos]) <;> (subst hO; rfl)), ?_⟩
  intro r bs hq
  rw [hQ] at hq
  clear hos hQ h
  obtain ⟨y1, _, ⟨rfl, rfl⟩, h⟩ := hq
  conv => cbv
  refine call_h hO [.ref 1, .shut] (d_p64 fu O.len hN h) ?_
  intro os Q hos hQ
  conv => cbv
  refine ⟨(by subst hO; exact Nat.le_refl _), ?_⟩
  refine ⟨(by (rw [hos]) <;> (subst hO; rfl)), ?_⟩
  intro r bs hq
  rw [hQ] at hq
  clear hos hQ h
  obtain ⟨y2, _, ⟨rfl, rfl⟩, h⟩ := hq
  conv => cbv
  refine ⟨(by subst hO; exact Nat.le_refl _), ?_⟩
  rw [hQ]
  exact ⟨y2, _, _, ⟨(by subst hO; rfl), (by subst hO; rfl)⟩, h⟩
end Go.Proofs.Ythncmjlcmlmnmaa

namespace Go.Proofs.Ythncmjlcmlmnmaa
open Go V
set_option maxRecDepth 100000
set_option maxHeartbeats 4000000
/-- codec.Level -/
def p26 {ρ : Type} (fail : ρ) (fu : Nat)  (K0 : EL → ρ) (x0 : EL) (x1 : Int) (x2 : Int) (x3 : EL) : ρ :=
  p63 fail fu (fun y1 => p70 fail fu (fun y2 => K0 y2) y1 x1 x2 x3) x0
theorem d_p26 (fu : Nat)  {K0 : EL → Prop} (L : EL → Nat) (hN : L = List.length) {x0 : EL} {x1 : Int} {x2 : Int} {x3 : EL} (h : p26 False fu K0 x0 x1 x2 x3) : Den Try.prog G0 26 [.c (.sl 1 x0 none), .agg [.c (.v (.int .i64 x1)), .c (.v (.int .i64 x2)), .c (.sl 3 x3 none)]] (fun r bs => (∃ (y0 : EL) (o0 : OV) (o1 : OV), (r = .arr 1 y0 none false (L y0) ∧ bs = [o0, o1]) ∧ K0 y0)) := by
  obtain ⟨O, hO⟩ : ∃ O, O = std 0 T G0 (Den Try.prog G0) := ⟨_, rfl⟩
  have hLO : L = O.len := by rw [hN, hO]; rfl
  subst hLO
  refine den_h hO tiA mixed tabOk (fn := Try.f26) (sh := false) (by kernel_rfl) rfl rfl rfl rfl ?_
  intro Q hQ
  unfold p26 at h
  conv => cbv
  refine call_h hO [.shut] (d_p63 fu O.len hN h) ?_
  intro os Q hos hQ
  conv => cbv
  refine ⟨(by (rw [hos]) <;> (subst hO; rfl)), ?_⟩
  intro r bs hq
  rw [hQ] at hq
  clear hos hQ h
  obtain ⟨y1, _, ⟨rfl, rfl⟩, h⟩ := hq
  conv => cbv
  refine call_h hO [.ref 1, .shut] (d_p70 fu O.len hN h) ?_
  intro os Q hos hQ
  conv => cbv
  refine ⟨(by subst hO; exact Nat.le_refl _), ?_⟩
  refine ⟨(by (rw [hos]) <;> (subst hO; rfl)), ?_⟩
  intro r bs hq
  rw [hQ] at hq
  clear hos hQ h
  obtain ⟨y2, _, ⟨rfl, rfl⟩, h⟩ := hq
  conv => cbv
  refine ⟨(by subst hO; exact Nat.le_refl _), ?_⟩
  rw [hQ]
  exact ⟨y2, _, _, ⟨(by subst hO; rfl), (by subst hO; rfl)⟩, h⟩
end Go.Proofs.Ythncmjlcmlmnmaa

namespace Go.Proofs.Ythncmjlcmlmnmaa
open Go V
set_option maxRecDepth 100000
set_option maxHeartbeats 2000000
theorem varB_max : ∀ (n v : Nat), v < 128 ^ (n + 1) → (varB v).length ≤ n + 1
  | 0, v, h => by rw [varB_lt (by simpa using h)]; simp
  | n + 1, v, h => by
    by_cases h1 : v < 128
    · rw [varB_lt h1]; simp
    · rw [varB_ge (by omega), List.length_cons]
      have := varB_max n (v / 128) (by rw [Nat.pow_succ] at h; exact Nat.div_lt_of_lt_mul (by rw [Nat.mul_comm]; exact h))
      omega
theorem varB_10 {v : Nat} (h : v < 2 ^ 64) : (varB v).length ≤ 10 := varB_max 9 v (Nat.lt_of_lt_of_le h (by decide))
theorem varB_step {w : Nat} (h : 128 ≤ w) : [[CV.v (.int .u8 (IntKind.u8.wrap ((w % 128 + 128 : Nat) : Int)))]] ++ encB (varB (w / 128)) = encB (varB w) := by
  rw [varB_ge h, encB_u8, ← encB_append]; rfl
theorem raw_w {ρ : Type} (fail : ρ) (fu : Nat) (hf : 10 ≤ fu) (K : EL → ρ) (z : EL) (v : Nat) (hv : v < 2 ^ 64) (hz : z.length + 10 ≤ 35184372088832) : p119 fail fu K z (v : Nat) = K (z ++ encB (varB v)) := by
  obtain ⟨m, rfl⟩ : ∃ m, fu = m + 1 := ⟨fu - 1, by omega⟩
  have hv2 : v < 128 ^ (m + 1) := Nat.lt_of_lt_of_le hv (Nat.le_trans (show 2 ^ 64 ≤ 128 ^ 10 by decide) (Nat.pow_le_pow_right (by omega) (by omega)))
  have h10 := varB_10 hv
  have hloop : ∀ (K : EL → ρ), p140_1L fail (m + 1) K (m + 1) (v : Nat) [] = K (encB (varB v)) := fun K => by
    have h9 : ∀ (j : Nat) (w : Nat) (y : EL), w < 128 ^ 10 → y.length + (varB w).length ≤ 100 → (varB w).length ≤ j → p140_1L fail (m + 1) K j (w : Nat) y = K (y ++ encB (varB w)) := by
      intro j
      induction j with
      | zero => intro w y _ _ h; have := varB_len w; omega
      | succ j ih =>
        intro w y hw hy hj
        rw [p140_1L, p140_1]
        by_cases h1 : w < 128
        · rw [geqF (by omega), cond_false, gd_y (by simp), gd_y (by simp; omega), varB_lt h1, ← encB_u8]; rfl
        · have hs : binStd .shr .u64 ((w : Nat) : Int) 7 = ((w / 128 : Nat) : Int) := by
            show ((w : Nat) : Int).fdiv (2 ^ 7) = _
            rw [fdiv_nn _ _ (by decide)]; simp
          have ho : binStd .or .u8 (IntKind.u8.wrap ((w : Nat) : Int)) 128 = IntKind.u8.wrap ((w % 128 + 128 : Nat) : Int) := by
            show IntKind.u8.wrap (bOr 8 (IntKind.u8.wrap ((w : Nat) : Int)) 128 : Nat) = _
            rw [or128]
          rw [varB_ge (by omega), List.length_cons] at hy hj
          rw [geqT (by omega), cond_true, gd_y (by simp), gd_y (by simp; omega), gd_y (by omega), hs, ho]
          have := ih (w / 128) (y ++ List.take 1 [[CV.v (.int .u8 (IntKind.u8.wrap ((w % 128 + 128 : Nat) : Int)))]]) (by omega) (by simp; omega) (by omega)
          rw [this, List.append_assoc]
          exact congrArg (fun q => K (y ++ q)) (varB_step (by omega))
    have := h9 (m + 1) v [] (Nat.lt_of_lt_of_le hv (by decide)) (by simp; omega) (by omega)
    simpa using this
  have hadd : binStd .add .i64 (((nilE : EL).length : Nat) : Int) 10 = 10 := by decide
  rw [p119, p140, p120, hadd, gd_y (by omega), gd_y (by omega), gd_y (by decide), gd_y (by decide), gd_y (by decide)]
  have e0 : List.replicate (Int.toNat 0) [CV.v (.int .u8 0)] ++ (nilE : EL) = [] := rfl
  rw [e0, hloop, gd_y (by rw [encB_length]; omega)]
/-- Numbers' bytes. -/
def numsB (l : List Int) : List UInt8 := l.flatMap fun n => varB (uv n)
theorem numsB_cons (n : Int) (l : List Int) : numsB (n :: l) = varB (uv n) ++ numsB l := by unfold numsB; rw [List.flatMap_cons]
theorem numsB_len : ∀ l : List Int, (numsB l).length ≤ 10 * l.length
  | [] => Nat.zero_le _
  | n :: l => by
    have := numsB_len l
    have h2 := varB_10 (uv_lt n)
    simp only [numsB, List.flatMap_cons, List.length_append, List.length_cons] at this ⊢
    omega
theorem num_w {ρ : Type} (fail : ρ) (fu : Nat) (K : EL → ρ) (l : List Int) (hf : l.length + 10 ≤ fu) (z : EL) (hz : z.length + 10 * l.length ≤ 35184372088832) : p83 fail fu K z (encI l) = K (z ++ encB (numsB l)) := by
  have loop : ∀ (r i n : Nat) (z : EL), i + r = l.length → r < n → z.length + 10 * r ≤ 35184372088832 → p83_1L fail fu K (encI l) n z ((l.length : Nat) : Int) ((i : Nat) : Int) = K (z ++ encB (numsB (l.drop i))) := by
    intro r
    induction r with
    | zero =>
      intro i n z hi hn hz
      obtain ⟨n, rfl⟩ : ∃ m, n = m + 1 := ⟨n - 1, by omega⟩
      rw [p83_1L, p83_1, lssF (by omega), cond_false, List.drop_eq_nil_of_le (by omega), show numsB [] = [] from rfl, encB_nil, List.append_nil]
    | succ r ih =>
      intro i n z hi hn hz
      obtain ⟨n, rfl⟩ : ∃ m, n = m + 1 := ⟨n - 1, by omega⟩
      have hlt : i < l.length := by omega
      have hr : ∀ k : Int → ρ, rw_i64 fail (List.getD (encI l) (((i : Nat) : Int)).toNat []) k = k l[i] := fun k => by rw [Int.toNat_natCast, encI_get hlt]; rfl
      have h10 := varB_10 (uv_lt l[i])
      rw [p83_1L, p83_1, lssT (by omega), cond_true, gd_y (by omega), gd_y (by rw [encI_length]; omega), hr, u64_uv, raw_w fail fu (by omega) _ z _ (uv_lt _) (by omega), addZ (by omega) (by omega), show ((i : Nat) : Int) + 1 = ((i + 1 : Nat) : Int) by omega]
      rw [ih (i + 1) n _ (by omega) (by omega) (by rw [List.length_append, encB_length]; omega), List.drop_eq_getElem_cons hlt, List.append_assoc, ← encB_append, numsB_cons]
  rw [p83, encI_length]
  have := loop l.length 0 fu z (by omega) (by omega) (by omega)
  simpa using this
theorem num_w1 {ρ : Type} (fail : ρ) (fu : Nat) (hf : 11 ≤ fu) (K : EL → ρ) (v : Int) (z : EL) (hz : z.length + 10 ≤ 35184372088832) : p83 fail fu K z (List.take 1 [[.v (.int .i64 v)]]) = K (z ++ encB (varB (uv v))) := by
  have := num_w fail fu K [v] (by simp only [List.length_singleton]; omega) z (by simp only [List.length_singleton]; omega)
  simp only [numsB, List.flatMap_cons, List.flatMap_nil, List.append_nil] at this
  exact this
/-- A text's bytes. -/
def txB (s : ByteArray) : List UInt8 := varB s.size ++ s.data.toList
theorem sz_data (s : ByteArray) : s.data.toList.length = s.size := Array.length_toList
theorem text_w {ρ : Type} (fail : ρ) (fu : Nat) (hf : 10 ≤ fu) (K : EL → ρ) (s : ByteArray) (z : EL) (hs : s.size < 1099511627776) (hz : z.length + 10 + s.size ≤ 35184372088832) : p87 fail fu K z (List.take s.size (encB s.data.toList)) = K (z ++ encB (txB s)) := by
  have ht : List.take s.size (encB s.data.toList) = encB s.data.toList := List.take_of_length_le (by rw [encB_length, sz_data]; exact Nat.le_refl _)
  have h10 := varB_10 (show s.size < 2 ^ 64 by omega)
  rw [ht, p87, encB_length, sz_data, u64_nat _ (by omega), raw_w fail fu hf _ z _ (by omega) (by omega), gd_y (by rw [List.length_append, encB_length]; omega), List.append_assoc, ← encB_append]
  rfl
mutual
def Lv.enc : Lv → List UInt8
  | .mk k n l => varB (uv k) ++ ((if k = 4 then varB (uv n) else []) ++ Lv.encs l)
def Lv.encs : List Lv → List UInt8
  | [] => []
  | a :: l => Lv.enc a ++ Lv.encs l
end
mutual
def Lv.sz : Lv → Nat
  | .mk _ _ l => 1 + Lv.szs l
def Lv.szs : List Lv → Nat
  | [] => 0
  | a :: l => 1 + Lv.sz a + Lv.szs l
end
theorem Lv.szs_len : ∀ l : List Lv, l.length ≤ Lv.szs l
  | [] => Nat.zero_le _
  | a :: l => by have := Lv.szs_len l; simp only [Lv.szs, List.length_cons]; omega
mutual
theorem Lv.sz_enc : ∀ l : Lv, l.sz + 1 ≤ 2 * l.enc.length
  | .mk k n l => by
    have := Lv.szs_enc l
    have h2 := varB_len (uv k)
    simp only [Lv.sz, Lv.enc, List.length_append]; omega
theorem Lv.szs_enc : ∀ l : List Lv, Lv.szs l ≤ 2 * (Lv.encs l).length
  | [] => Nat.zero_le _
  | a :: l => by
    have := Lv.sz_enc a
    have h2 := Lv.szs_enc l
    simp only [Lv.szs, Lv.encs, List.length_append]; omega
end
theorem lv_row {ρ : Type} (fail : ρ) (l : List Lv) (i : Nat) (h : i < l.length) (k : Int → Int → EL → ρ) : rw_i64_i64_l3 fail (List.getD (Lv.rows l) (((i : Nat) : Int)).toNat []) k = k l[i].k l[i].n (Lv.rows l[i].args) := by
  rw [Int.toNat_natCast, Lv.rows_get h, Lv.row_eq]; rfl
/-- Args that are written, one by one. -/
theorem lvw_loop {ρ : Type} (fail : ρ) (fu : Nat) (K : EL → ρ) (s : (EL → ρ) → EL → Int → Int → EL → ρ) (l : List Lv) (B : Nat) (hs : ∀ a ∈ l, ∀ (K : EL → ρ) (z : EL), z.length + a.enc.length ≤ B → s K z a.k a.n (Lv.rows a.args) = K (z ++ encB a.enc)) :
    ∀ (r i n : Nat) (z : EL), l.length < 1099511627776 → i + r = l.length → r < n → z.length + (Lv.encs (l.drop i)).length ≤ B → p70_1L fail fu s K (Lv.rows l) n z ((l.length : Nat) : Int) ((i : Nat) : Int) = K (z ++ encB (Lv.encs (l.drop i))) := by
  intro r
  induction r with
  | zero =>
    intro i n z hl hi hn hz
    obtain ⟨n, rfl⟩ : ∃ m, n = m + 1 := ⟨n - 1, by omega⟩
    rw [p70_1L, p70_1, lssF (by omega), cond_false, List.drop_eq_nil_of_le (by omega)]
    simp [Lv.encs]
  | succ r ih =>
    intro i n z hl hi hn hz
    obtain ⟨n, rfl⟩ : ∃ m, n = m + 1 := ⟨n - 1, by omega⟩
    have hlt : i < l.length := by omega
    have hd : l.drop i = l[i] :: l.drop (i + 1) := List.drop_eq_getElem_cons hlt
    rw [hd] at hz ⊢
    simp only [Lv.encs, List.length_append] at hz ⊢
    rw [p70_1L, p70_1, lssT (by omega), cond_true, gd_y (by omega), gd_y (by rw [Lv.rows_len]; omega), lv_row fail l i hlt, hs _ (List.getElem_mem hlt) _ z (by omega), addZ (by omega) (by omega), show ((i : Nat) : Int) + 1 = ((i + 1 : Nat) : Int) by omega]
    rw [ih (i + 1) n _ hl (by omega) (by omega) (by rw [List.length_append, encB_length]; omega), List.append_assoc, ← encB_append]
theorem Lv.szs_mem : ∀ {l : List Lv} {a : Lv}, a ∈ l → 1 + a.sz ≤ Lv.szs l
  | b :: l, a, h => by
    simp only [Lv.szs]
    rcases List.mem_cons.1 h with rfl | h
    · omega
    · have := Lv.szs_mem h; omega
theorem level_w {ρ : Type} (fail : ρ) : ∀ (N : Nat) (l : Lv), l.sz ≤ N → ∀ (fu : Nat) (K : EL → ρ) (z : EL), l.sz + 20 ≤ fu → l.sz < 1099511627776 → z.length + l.enc.length ≤ 35184372088000 → p70 fail fu K z l.k l.n (Lv.rows l.args) = K (z ++ encB l.enc) := by
  intro N
  induction N with
  | zero => intro l h; cases l; simp [Lv.sz] at h
  | succ N ih =>
    intro l hN fu K z hf hsz hz
    obtain ⟨k, n, l⟩ := l
    obtain ⟨m, rfl⟩ : ∃ m, fu = m + 1 := ⟨fu - 1, by omega⟩
    simp only [Lv.sz, Lv.enc, List.length_append] at hN hf hsz hz
    simp only [Lv.k, Lv.n, Lv.args, Lv.enc]
    have hl := Lv.szs_len l
    rw [p70, p70_b]
    generalize hs : p70 fail m = s
    have h10 := varB_10 (uv_lt k)
    have h11 := varB_10 (uv_lt n)
    have loop : ∀ y : EL, y.length + (Lv.encs l).length ≤ 35184372088000 → p70_2 fail m s K (Lv.rows l) y = K (y ++ encB (Lv.encs l)) := fun y hy => by
      rw [p70_2, Lv.rows_len]
      have := lvw_loop fail m K s l 35184372088000 (fun a ha K z hz => by
        have h3 := Lv.szs_mem ha
        rw [← hs]; exact ih a (by omega) m K z (by omega) (by omega) hz) l.length 0 m y (by omega) (by omega) (by omega) (by simpa using hy)
      simpa using this
    rw [gd_y (by simp), num_w1 fail m (by omega) _ k z (by omega)]
    by_cases h4 : k = 4
    · rw [if_pos h4] at hz ⊢
      rw [eqlT h4, cond_true, gd_y (by simp), num_w1 fail m (by omega) _ n _ (by rw [List.length_append, encB_length]; omega), loop _ (by simp only [List.length_append, encB_length]; omega)]
      simp [List.append_assoc]
    · rw [if_neg h4] at hz ⊢
      rw [eqlF h4, cond_false, loop _ (by simp only [List.length_append, encB_length]; simp at hz; omega)]
      simp [List.append_assoc]
mutual
def Tm.enc : Tm → List UInt8
  | .mk k n s l a => varB (uv k) ++ ((if k = 0 then varB (uv n) else if k = 2 then txB s ++ varB l.length else []) ++ (Lv.encs l ++ Tm.encs a))
def Tm.encs : List Tm → List UInt8
  | [] => []
  | a :: l => Tm.enc a ++ Tm.encs l
end
mutual
def Tm.sz : Tm → Nat
  | .mk _ _ s l a => 1 + s.size + Lv.szs l + Tm.szs a
def Tm.szs : List Tm → Nat
  | [] => 0
  | a :: l => 1 + Tm.sz a + Tm.szs l
end
theorem Tm.szs_len : ∀ l : List Tm, l.length ≤ Tm.szs l
  | [] => Nat.zero_le _
  | a :: l => by have := Tm.szs_len l; simp only [Tm.szs, List.length_cons]; omega
theorem Tm.szs_mem : ∀ {l : List Tm} {a : Tm}, a ∈ l → 1 + a.sz ≤ Tm.szs l
  | b :: l, a, h => by
    simp only [Tm.szs]
    rcases List.mem_cons.1 h with rfl | h
    · omega
    · have := Tm.szs_mem h; omega
theorem tm_row {ρ : Type} (fail : ρ) (l : List Tm) (i : Nat) (h : i < l.length) (k : Int → Int → ByteArray → EL → EL → ρ) : rw_i64_i64_s_l3_l5 fail (List.getD (Tm.rows l) (((i : Nat) : Int)).toNat []) k = k l[i].k l[i].n l[i].nm (Lv.rows l[i].ls) (Tm.rows l[i].args) := by
  rw [Int.toNat_natCast, Tm.rows_get h, Tm.row_eq]; rfl
theorem tmw_loop {ρ : Type} (fail : ρ) (fu : Nat) (K : EL → ρ) (s : (EL → ρ) → EL → Int → Int → ByteArray → EL → EL → ρ) (l : List Tm) (B : Nat) (hs : ∀ a ∈ l, ∀ (K : EL → ρ) (z : EL), z.length + a.enc.length ≤ B → s K z a.k a.n a.nm (Lv.rows a.ls) (Tm.rows a.args) = K (z ++ encB a.enc)) :
    ∀ (r i n : Nat) (z : EL), l.length < 1099511627776 → i + r = l.length → r < n → z.length + (Tm.encs (l.drop i)).length ≤ B → p64_1L fail fu s K (Tm.rows l) n z ((l.length : Nat) : Int) ((i : Nat) : Int) = K (z ++ encB (Tm.encs (l.drop i))) := by
  intro r
  induction r with
  | zero =>
    intro i n z hl hi hn hz
    obtain ⟨n, rfl⟩ : ∃ m, n = m + 1 := ⟨n - 1, by omega⟩
    rw [p64_1L, p64_1, lssF (by omega), cond_false, List.drop_eq_nil_of_le (by omega)]
    simp [Tm.encs]
  | succ r ih =>
    intro i n z hl hi hn hz
    obtain ⟨n, rfl⟩ : ∃ m, n = m + 1 := ⟨n - 1, by omega⟩
    have hlt : i < l.length := by omega
    have hd : l.drop i = l[i] :: l.drop (i + 1) := List.drop_eq_getElem_cons hlt
    rw [hd] at hz ⊢
    simp only [Tm.encs, List.length_append] at hz ⊢
    rw [p64_1L, p64_1, lssT (by omega), cond_true, gd_y (by omega), gd_y (by rw [Tm.rows_len]; omega), tm_row fail l i hlt, hs _ (List.getElem_mem hlt) _ z (by omega), addZ (by omega) (by omega), show ((i : Nat) : Int) + 1 = ((i + 1 : Nat) : Int) by omega]
    rw [ih (i + 1) n _ hl (by omega) (by omega) (by rw [List.length_append, encB_length]; omega), List.append_assoc, ← encB_append]
theorem tmw_levels {ρ : Type} (fail : ρ) (fu : Nat) (K : EL → ρ) (s : (EL → ρ) → EL → Int → Int → ByteArray → EL → EL → ρ) (l : List Lv) (A : EL) (hfu : Lv.szs l + 20 ≤ fu) (hsz : Lv.szs l < 1099511627776) :
    ∀ (r i n : Nat) (z : EL), i + r = l.length → r < n → z.length + (Lv.encs (l.drop i)).length ≤ 35184372088000 → p64_2L fail fu s K (Lv.rows l) A n z ((l.length : Nat) : Int) ((i : Nat) : Int) = p64_1L fail fu s K A fu (z ++ encB (Lv.encs (l.drop i))) ((A.length : Nat) : Int) 0 := by
  have hl := Lv.szs_len l
  intro r
  induction r with
  | zero =>
    intro i n z hi hn hz
    obtain ⟨n, rfl⟩ : ∃ m, n = m + 1 := ⟨n - 1, by omega⟩
    rw [p64_2L, p64_2, lssF (by omega), cond_false, List.drop_eq_nil_of_le (by omega)]
    simp [Lv.encs]
  | succ r ih =>
    intro i n z hi hn hz
    obtain ⟨n, rfl⟩ : ∃ m, n = m + 1 := ⟨n - 1, by omega⟩
    have hlt : i < l.length := by omega
    have hm := Lv.szs_mem (List.getElem_mem hlt)
    have hd : l.drop i = l[i] :: l.drop (i + 1) := List.drop_eq_getElem_cons hlt
    rw [hd] at hz ⊢
    simp only [Lv.encs, List.length_append] at hz ⊢
    rw [p64_2L, p64_2, lssT (by omega), cond_true, gd_y (by omega), gd_y (by rw [Lv.rows_len]; omega), lv_row fail l i hlt, level_w fail _ l[i] (Nat.le_refl _) fu _ z (by omega) (by omega) (by omega), addZ (by omega) (by omega), show ((i : Nat) : Int) + 1 = ((i + 1 : Nat) : Int) by omega]
    rw [ih (i + 1) n _ (by omega) (by omega) (by rw [List.length_append, encB_length]; omega), List.append_assoc, ← encB_append]
theorem term_w {ρ : Type} (fail : ρ) : ∀ (N : Nat) (l : Tm), l.sz ≤ N → ∀ (fu : Nat) (K : EL → ρ) (z : EL), l.sz + 30 ≤ fu → l.sz < 1099511627776 → z.length + l.enc.length ≤ 35184372087000 → p64 fail fu K z l.k l.n l.nm (Lv.rows l.ls) (Tm.rows l.args) = K (z ++ encB l.enc) := by
  intro N
  induction N with
  | zero => intro l h; cases l; simp [Tm.sz] at h
  | succ N ih =>
    intro t hN fu K z hf hsz hz
    obtain ⟨k, n, sn, l, a⟩ := t
    obtain ⟨m, rfl⟩ : ∃ m, fu = m + 1 := ⟨fu - 1, by omega⟩
    simp only [Tm.sz, Tm.enc, List.length_append] at hN hf hsz hz
    simp only [Tm.k, Tm.n, Tm.nm, Tm.ls, Tm.args, Tm.enc]
    have hl := Lv.szs_len l
    have ha := Tm.szs_len a
    rw [p64, p64_b]
    generalize hs : p64 fail m = s
    have h10 := varB_10 (uv_lt k)
    have h11 := varB_10 (uv_lt n)
    have h12 := varB_10 (show l.length < 2 ^ 64 by omega)
    have loop : ∀ y : EL, y.length + (Lv.encs l).length + (Tm.encs a).length ≤ 35184372087000 → p64_3 fail m s K (Lv.rows l) (Tm.rows a) y = K (y ++ encB (Lv.encs l ++ Tm.encs a)) := fun y hy => by
      rw [p64_3, Lv.rows_len]
      have h1 := tmw_levels fail m K s l (Tm.rows a) (by omega) (by omega) l.length 0 m y (by omega) (by omega) (by simp; omega)
      rw [show ((0 : Nat) : Int) = 0 from rfl] at h1
      rw [h1, Tm.rows_len]
      have := tmw_loop fail m K s a 35184372087000 (fun b hb K z hz => by
        have h3 := Tm.szs_mem hb
        rw [← hs]; exact ih b (by omega) m K z (by omega) (by omega) hz) a.length 0 m (y ++ encB (Lv.encs l)) (by omega) (by omega) (by omega) (by simp; omega)
      rw [List.drop_zero] at this
      rw [List.drop_zero, encB_append, ← List.append_assoc]
      exact this
    rw [gd_y (by simp), num_w1 fail m (by omega) _ k z (by omega)]
    by_cases h0 : k = 0
    · rw [if_pos h0] at hz ⊢
      rw [eqlT h0, cond_true, gd_y (by simp), num_w1 fail m (by omega) _ n _ (by rw [List.length_append, encB_length]; omega), loop _ (by simp only [List.length_append, encB_length]; omega)]
      simp [List.append_assoc]
    · rw [if_neg h0] at hz ⊢
      rw [eqlF h0, cond_false]
      by_cases h2 : k = 2
      · rw [if_pos h2] at hz ⊢
        simp only [txB, List.length_append, sz_data] at hz
        have hg : uv ((l.length : Nat) : Int) = l.length := uv_nat _ (by omega)
        rw [eqlT h2, cond_true, gd_y (by rw [encB_length, sz_data]; exact Nat.le_refl _), text_w fail m (by omega) _ sn _ (by omega) (by rw [List.length_append, encB_length]; omega), gd_y (by simp), Lv.rows_len, num_w1 fail m (by omega) _ _ _ (by simp only [txB, List.length_append, encB_length, sz_data]; omega), hg, p64_4,
          loop _ (by simp only [txB, List.length_append, encB_length, sz_data]; omega)]
        simp [List.append_assoc]
      · rw [if_neg h2] at hz ⊢
        rw [eqlF h2, cond_false, p64_4, loop _ (by simp only [List.length_append, encB_length]; simp at hz; omega)]
        simp [List.append_assoc]
end Go.Proofs.Ythncmjlcmlmnmaa

namespace Go.Proofs.Ythncmjlcmlmnmaa
open Go V
set_option maxRecDepth 100000
set_option maxHeartbeats 2000000
theorem many_only {α : Type} {f : Nat → List UInt8 → Except Int (α × List UInt8 × Nat)} {g : α → List UInt8} {gs : List α → List UInt8} (h0 : gs [] = []) (h1 : ∀ a l, gs (a :: l) = g a ++ gs l) (hf : ∀ p bs a r q, f p bs = .ok (a, r, q) → bs = g a ++ r) :
    ∀ (n p : Nat) (bs : List UInt8) (l : List α) (r : List UInt8) (q : Nat), many f n p bs = .ok (l, r, q) → bs = gs l ++ r
  | 0, p, bs, l, r, q, h => by simp only [many] at h; injection h with h; injection h with h2 h; injection h with h3 _; subst h2 h3; rw [h0]; rfl
  | n + 1, p, bs, l, r, q, h => by
    simp only [many] at h
    split at h
    · cases h
    · rename_i a bs1 p1 ha
      split at h
      · cases h
      · rename_i l' bs2 p2 h2
        injection h with h; injection h with h3 h; injection h with h4 h5; subst h3 h4 h5
        rw [h1, hf _ _ _ _ _ ha, many_only h0 h1 hf n p1 bs1 l' bs2 p2 h2, List.append_assoc]
theorem rdLv_only : ∀ (left p : Nat) (bs : List UInt8) (l : Lv) (r : List UInt8) (q : Nat), rdLv left p bs = .ok (l, r, q) → bs = l.enc ++ r
  | 0, p, bs, l, r, q, h => by simp only [rdLv] at h; split at h <;> cases h
  | left + 1, p, bs, l, r, q, h => by
    simp only [rdLv] at h
    split at h
    · cases h
    · split at h
      · cases h
      · rename_i k bs1 hk
        obtain ⟨_, h1, _, h2⟩ := rdKind_ok hk
        split at h
        · rename_i k4
          split at h
          · cases h
          · rename_i n bs2 hn
            obtain ⟨h3, _, h4⟩ := rdNum_ok hn
            split at h
            · cases h
            · injection h with h; injection h with h5 h; injection h with h6 h7; subst h5 h6 h7
              rw [h2, h4, k4]
              simp only [Lv.enc, Lv.encs, if_pos, uv_nat n (by omega), List.append_nil, List.append_assoc]
              rfl
        · rename_i k4
          split at h
          · cases h
          · rename_i l2 bs2 p2 hm
            injection h with h; injection h with h5 h; injection h with h6 h7; subst h5 h6 h7
            have := many_only (g := Lv.enc) (gs := Lv.encs) rfl (fun _ _ => rfl) (fun p bs a r q => rdLv_only left p bs a r q) _ _ _ _ _ _ hm
            rw [h2, this]
            simp only [Lv.enc, uv_nat k (by omega), if_neg (show ¬ ((k : Nat) : Int) = 4 by omega), List.nil_append, List.append_assoc]
theorem rdLevel_only {bs r : List UInt8} {l : Lv} (h : rdLevel bs = .ok (l, r)) : bs = l.enc ++ r := by
  unfold rdLevel at h; split at h
  · rename_i l' r' q h'
    injection h with h; injection h with h1 h2; subst h1 h2
    exact rdLv_only _ _ _ _ _ _ h'
  · cases h
theorem rdLevelP_only (p : Nat) (bs : List UInt8) (a : Lv) (r : List UInt8) (q : Nat) (h : rdLevelP p bs = .ok (a, r, q)) : bs = a.enc ++ r := by
  unfold rdLevelP at h; split at h
  · rename_i l' r' h'
    injection h with h; injection h with h1 h; injection h with h2 h3; subst h1 h2 h3
    exact rdLevel_only h'
  · cases h
theorem levelP_len : ∀ (n p : Nat) (bs : List UInt8) (l : List Lv) (r : List UInt8) (q : Nat), many rdLevelP n p bs = .ok (l, r, q) → l.length = n := fun n p bs l r q h =>
  (many_sub (m := p) rdLevelP_sub n p bs l r q (Nat.le_refl _) h).2.2
theorem rdTm_only : ∀ (left p : Nat) (bs : List UInt8) (t : Tm) (r : List UInt8) (q : Nat), rdTm left p bs = .ok (t, r, q) → bs = t.enc ++ r
  | 0, p, bs, t, r, q, h => by simp only [rdTm] at h; split at h <;> cases h
  | left + 1, p, bs, t, r, q, h => by
    simp only [rdTm] at h
    split at h
    · cases h
    · split at h
      · cases h
      · rename_i k bs1 hk
        obtain ⟨_, h1, _, h2⟩ := rdKind_ok hk
        split at h
        · rename_i k0
          split at h
          · cases h
          · rename_i n bs2 hn
            obtain ⟨h3, _, h4⟩ := rdNum_ok hn
            injection h with h; injection h with h5 h; injection h with h6 h7; subst h5 h6 h7
            rw [h2, h4, k0]
            simp only [Tm.enc, Tm.encs, Lv.encs, if_pos, uv_nat n (by omega), List.append_nil, List.append_assoc]
            rfl
        · rename_i k0
          split at h
          · rename_i k1
            split at h
            · cases h
            · rename_i l2 bs2 p2 hm
              injection h with h; injection h with h5 h; injection h with h6 h7; subst h5 h6 h7
              have := many_only (g := Lv.enc) (gs := Lv.encs) rfl (fun _ _ => rfl) rdLevelP_only _ _ _ _ _ _ hm
              rw [h2, this, k1]
              simp only [Tm.enc, Tm.encs, List.append_nil, List.append_assoc]
              rfl
          · rename_i k1
            split at h
            · rename_i k2
              split at h
              · cases h
              · rename_i s bs2 hs
                obtain ⟨h3, _, h4, h5⟩ := rdTxt_ok hs
                split at h
                · cases h
                · rename_i n bs3 hn
                  obtain ⟨h6, _, h7⟩ := rdNum_ok hn
                  split at h
                  · cases h
                  · split at h
                    · cases h
                    · rename_i l2 bs4 p2 hm
                      injection h with h; injection h with h8 h; injection h with h9 h10; subst h8 h9 h10
                      have := many_only (g := Lv.enc) (gs := Lv.encs) rfl (fun _ _ => rfl) rdLevelP_only _ _ _ _ _ _ hm
                      have hl := levelP_len _ _ _ _ _ _ hm
                      have hsz : (⟨s.toArray⟩ : ByteArray).size = s.length := by simp [ByteArray.size]
                      rw [h2, h4, h7, this, k2]
                      simp only [Tm.enc, Tm.encs, txB, hsz, hl, List.append_nil, List.append_assoc]
                      rw [if_neg (show ¬ (2 : Int) = 0 by decide), if_pos trivial, show uv 2 = 2 from rfl]
                      simp only [List.append_assoc]
            · rename_i k2
              split at h
              · cases h
              · rename_i l2 bs2 p2 hm
                injection h with h; injection h with h5 h; injection h with h6 h7; subst h5 h6 h7
                have := many_only (g := Tm.enc) (gs := Tm.encs) rfl (fun _ _ => rfl) (fun p bs a r q => rdTm_only left p bs a r q) _ _ _ _ _ _ hm
                rw [h2, this]
                simp only [Tm.enc, Lv.encs, uv_nat k (by omega), if_neg (show ¬ ((k : Nat) : Int) = 0 by omega), if_neg (show ¬ ((k : Nat) : Int) = 2 by omega), List.nil_append, List.append_assoc]
theorem rdTerm_only {bs r : List UInt8} {t : Tm} (h : rdTerm bs = .ok (t, r)) : bs = t.enc ++ r := by
  unfold rdTerm at h; split at h
  · rename_i l' r' q h'
    injection h with h; injection h with h1 h2; subst h1 h2
    exact rdTm_only _ _ _ _ _ _ h'
  · cases h
theorem rdTerm_sub {bs r : List UInt8} {t : Tm} (h : rdTerm bs = .ok (t, r)) : r.length ≤ bs.length := by
  rw [rdTerm_only h, List.length_append]; omega
/-- How great what was read is. -/
theorem many_sz {α : Type} {f : Nat → List UInt8 → Except Int (α × List UInt8 × Nat)} {g : α → Nat} {gs : List α → Nat} (h0 : gs [] = 0) (h1 : ∀ a l, gs (a :: l) = 1 + g a + gs l) (hf : ∀ p bs a r q, f p bs = .ok (a, r, q) → 1 + g a + 2 * r.length ≤ 2 * bs.length) :
    ∀ (n p : Nat) (bs : List UInt8) (l : List α) (r : List UInt8) (q : Nat), many f n p bs = .ok (l, r, q) → gs l + 2 * r.length ≤ 2 * bs.length
  | 0, p, bs, l, r, q, h => by simp only [many] at h; injection h with h; injection h with h2 h; injection h with h3 _; subst h2 h3; rw [h0]; omega
  | n + 1, p, bs, l, r, q, h => by
    simp only [many] at h
    split at h
    · cases h
    · rename_i a bs1 p1 ha
      split at h
      · cases h
      · rename_i l' bs2 p2 h2
        injection h with h; injection h with h3 h; injection h with h4 h5; subst h3 h4 h5
        have := hf _ _ _ _ _ ha
        have h6 := many_sz h0 h1 hf n p1 bs1 l' bs2 p2 h2
        rw [h1]; omega
theorem rdLevelP_sz (p : Nat) (bs : List UInt8) (a : Lv) (r : List UInt8) (q : Nat) (h : rdLevelP p bs = .ok (a, r, q)) : 1 + a.sz + 2 * r.length ≤ 2 * bs.length := by
  have := Lv.sz_enc a
  rw [rdLevelP_only _ _ _ _ _ h, List.length_append]; omega
theorem rdTm_sz : ∀ (left p : Nat) (bs : List UInt8) (t : Tm) (r : List UInt8) (q : Nat), rdTm left p bs = .ok (t, r, q) → 1 + t.sz + 2 * r.length ≤ 2 * bs.length
  | 0, p, bs, t, r, q, h => by simp only [rdTm] at h; split at h <;> cases h
  | left + 1, p, bs, t, r, q, h => by
    simp only [rdTm] at h
    split at h
    · cases h
    · split at h
      · cases h
      · rename_i k bs1 hk
        obtain ⟨_, h1, h2, _⟩ := rdKind_ok hk
        split at h
        · split at h
          · cases h
          · rename_i n bs2 hn
            obtain ⟨h3, h4, _⟩ := rdNum_ok hn
            injection h with h; injection h with h5 h; injection h with h6 h7; subst h5 h6 h7
            simp only [Tm.sz, Lv.szs, Tm.szs]
            have : (⟨#[]⟩ : ByteArray).size = 0 := rfl
            omega
        · split at h
          · split at h
            · cases h
            · rename_i l2 bs2 p2 hm
              injection h with h; injection h with h5 h; injection h with h6 h7; subst h5 h6 h7
              have := many_sz (g := Lv.sz) (gs := Lv.szs) rfl (fun _ _ => rfl) rdLevelP_sz _ _ _ _ _ _ hm
              simp only [Tm.sz, Tm.szs]
              have : (⟨#[]⟩ : ByteArray).size = 0 := rfl
              omega
          · split at h
            · split at h
              · cases h
              · rename_i s bs2 hs
                obtain ⟨h3, _, h4, h5⟩ := rdTxt_ok hs
                split at h
                · cases h
                · rename_i n bs3 hn
                  obtain ⟨h6, h7, _⟩ := rdNum_ok hn
                  split at h
                  · cases h
                  · split at h
                    · cases h
                    · rename_i l2 bs4 p2 hm
                      injection h with h; injection h with h8 h; injection h with h9 h10; subst h8 h9 h10
                      have := many_sz (g := Lv.sz) (gs := Lv.szs) rfl (fun _ _ => rfl) rdLevelP_sz _ _ _ _ _ _ hm
                      have hsz : (⟨s.toArray⟩ : ByteArray).size = s.length := by simp [ByteArray.size]
                      have hb1 : bs1.length = (varB s.length).length + (s.length + bs2.length) := by rw [h4]; simp
                      simp only [Tm.sz, Tm.szs, hsz]
                      omega
            · split at h
              · cases h
              · rename_i l2 bs2 p2 hm
                injection h with h; injection h with h5 h; injection h with h6 h7; subst h5 h6 h7
                have := many_sz (g := Tm.sz) (gs := Tm.szs) rfl (fun _ _ => rfl) (fun p bs a r q => rdTm_sz left p bs a r q) _ _ _ _ _ _ hm
                simp only [Tm.sz, Lv.szs]
                have : (⟨#[]⟩ : ByteArray).size = 0 := rfl
                omega
theorem rdTerm_sz {bs r : List UInt8} {t : Tm} (h : rdTerm bs = .ok (t, r)) : 1 + t.sz + 2 * r.length ≤ 2 * bs.length := by
  unfold rdTerm at h; split at h
  · rename_i l' r' q h'
    injection h with h; injection h with h1 h2; subst h1 h2
    exact rdTm_sz _ _ _ _ _ _ h'
  · cases h
theorem bsz (s : List UInt8) : (⟨s.toArray⟩ : ByteArray).size = s.length := by simp [ByteArray.size]
theorem txB_of (s : List UInt8) : txB ⟨s.toArray⟩ = varB s.length ++ s := by simp [txB, bsz]
theorem gsz {ρ : Type} (s : ByteArray) (f k : ρ) : gd (s.size ≤ (encB s.data.toList).length) f k = k := gd_y (by rw [encB_length, sz_data]; exact Nat.le_refl _)
def tm0 : Tm := .mk 0 0 ⟨#[]⟩ [] []
end Go.Proofs.Ythncmjlcmlmnmaa

namespace Go.Proofs.Ythncmjlcmlmnmaa
open Go V
set_option maxRecDepth 100000
set_option maxHeartbeats 4000000
def p125_1 {ρ : Type} (fail : ρ) (fu : Nat)  (K0 : Int → Int → ρ) (rec1 : Int → EL → Int → Int → ρ)  (z1 : Int) (z2 : EL) (z3 : Int) (z4 : Int) : ρ :=
  bif (cmpStd .lss z4 z3) then (gd ((0 : Int) ≤ z4) fail (gd ((z4 : Int) < (z2.length : Nat)) fail (rw_u8 fail (List.getD z2 ((z4 : Int).toNat) []) (fun c5 => gd ((0 : Int) ≤ 8) fail (rec1 (binStd .or .u64 (binStd .shl .u64 z1 8) (IntKind.u64.wrap c5)) z2 z3 (binStd .add .i64 z4 1)))))) else (K0 z1 0)
def p125_1L {ρ : Type} (fail : ρ) (fu : Nat)  (K0 : Int → Int → ρ)   : Nat → Int → EL → Int → Int → ρ
  | 0, _, _, _, _ => fail
  | n + 1, z1, z2, z3, z4 => p125_1 fail fu  K0 (p125_1L fail fu  K0   n)  z1 z2 z3 z4
/-- octet.TakeEight -/
def p125 {ρ : Type} (fail : ρ) (fu : Nat)  (K0 : Int → Int → ρ) (x0 : EL) : ρ :=
  bif (cmpStd .lss ((x0.length : Nat) : Int) 8) then (K0 0 2) else (gd ((0 : Int) ≤ 0) fail (gd ((0 : Int) ≤ 8) fail (gd ((8 : Int) ≤ (x0.length : Nat)) fail (p125_1L fail fu  K0  fu 0 (List.drop ((0 : Int).toNat) (List.take ((8 : Int).toNat) x0)) (((List.drop ((0 : Int).toNat) (List.take ((8 : Int).toNat) x0)).length : Nat) : Int) 0))))
theorem d_p125 (fu : Nat)  {K0 : Int → Int → Prop} (L : EL → Nat) (hN : L = List.length) {x0 : EL} (h : p125 False fu K0 x0) : Den Try.prog G0 125 [.c (.sl 1 x0 none)] (fun r bs => (∃ (y0 : Int) (y1 : Int) (o0 : OV), (r = .tup [.c (.v (.int .u64 y0)), .c (.v (.int .i64 y1))] ∧ bs = [o0]) ∧ K0 y0 y1)) := by
  obtain ⟨O, hO⟩ : ∃ O, O = std 0 T G0 (Den Try.prog G0) := ⟨_, rfl⟩
  have hLO : L = O.len := by rw [hN, hO]; rfl
  subst hLO
  refine den_h hO tiA mixed tabOk (fn := Try.f125) (sh := true) (by kernel_rfl) rfl rfl rfl rfl ?_
  intro Q hQ
  unfold p125 at h
  conv => cbv
  refine br_h hO h (by subst hO; rfl) (fun hc1 h => ?_) (fun hc1 h => ?_)
  · conv => cbv
    rw [hQ]
    exact ⟨0, 2, _, ⟨(by subst hO; rfl), (by subst hO; rfl)⟩, h⟩
  · conv => cbv
    refine join_all hO ?_
    conv => cbv
    refine and_h h (fun g => (by subst hO; exact g)) (fun h => ?_)
    refine and_h h (fun g => (by subst hO; exact g)) (fun h => ?_)
    refine and_h h (fun g => (by subst hO; exact g)) (fun h => ?_)
    refine loop_of hO tiA [2, 10, 11, 12] [] [] (fun (n : Nat) tm m => ∃ (z1 : Int) (z2 : EL) (z3 : Int) (z4 : Int), ((tm = frame 0 23 [(2, .c (.v (.int .u64 z1))), (10, .c (.sl 1 z2 none)), (11, .c (.v (.int .i64 z3))), (12, .c (.v (.int .i64 z4)))] ∧ m = ⟨[], 1⟩)) ∧ p125_1L False fu  K0  n z1 z2 z3 z4) (fun n => n) fu ⟨0, List.drop ((0 : Int).toNat) (List.take ((8 : Int).toNat) x0), (((List.drop ((0 : Int).toNat) (List.take ((8 : Int).toNat) x0)).length : Nat) : Int), 0, ⟨(by (conv => lhs; cbv) <;> (subst hO; rfl)), (by (conv => lhs; cbv) <;> (subst hO; rfl))⟩, h⟩ ?_
    rintro n1 tm m L ⟨z1, z2, z3, z4, hs, h⟩ hLn1
    cases n1 with
    | zero => rw [p125_1L] at h; exact h.elim
    | succ n1 =>
      rw [p125_1L] at h
      unfold p125_1 at h
      obtain ⟨rfl, rfl⟩ := hs
      conv => cbv
      refine br_h hO h (by subst hO; rfl) (fun hc2 h => ?_) (fun hc2 h => ?_)
      · conv => cbv
        refine join_all hO ?_
        conv => cbv
        refine and_h h (fun g => (by subst hO; exact g)) (fun h => ?_)
        refine and_h h (fun g => (by subst hO; exact g)) (fun h => ?_)
        obtain ⟨c5, hr, h⟩ := rw_u8_inv h
        refine elem_of hO _ (by subst hO; exact hr) ?_
        clear hr
        conv => cbv
        refine and_h h (fun g => (by subst hO; exact g)) (fun h => ?_)
        exact hLn1 n1 _ _ (Nat.lt_succ_self n1) ⟨binStd .or .u64 (binStd .shl .u64 z1 8) (IntKind.u64.wrap c5), z2, z3, binStd .add .i64 z4 1, ⟨(by (conv => lhs; cbv) <;> (subst hO; rfl)), (by (conv => lhs; cbv) <;> (subst hO; rfl))⟩, h⟩
      · conv => cbv
        rw [hQ]
        exact ⟨z1, 0, _, ⟨(by subst hO; rfl), (by subst hO; rfl)⟩, h⟩
end Go.Proofs.Ythncmjlcmlmnmaa

namespace Go.Proofs.Ythncmjlcmlmnmaa
open Go V
set_option maxRecDepth 100000
set_option maxHeartbeats 4000000
/-- (*reply.reader).eight -/
def p92 {ρ : Type} (fail : ρ) (fu : Nat)  (K0 : Int → EL → Int → ρ) (x0 : EL) (x1 : Int) : ρ :=
  bif (cmpStd .neq x1 0) then (K0 0 x0 x1) else (p125 fail fu (fun y1 y2 => p94 fail fu (fun y3 y4 => bif (cmpStd .neq y2 0) then (K0 0 y3 y4) else (gd ((0 : Int) ≤ 8) fail (gd ((8 : Int) ≤ (y3.length : Nat)) fail (gd (((y3.length : Nat) : Int) ≤ (y3.length : Nat)) fail (K0 y1 (List.drop ((8 : Int).toNat) (List.take (((y3.length : Nat) : Int).toNat) y3)) y4))))) x0 x1 y2) x0)
theorem d_p92 (fu : Nat)  {K0 : Int → EL → Int → Prop} (L : EL → Nat) (hN : L = List.length) {x0 : EL} {x1 : Int} (h : p92 False fu K0 x0 x1) : Den Try.prog G0 92 [.ptr [.c (.sl 1 x0 none), .c (.v (.int .i64 x1))]] (fun r bs => (∃ (y0 : Int) (y1 : EL) (y2 : Int), (r = .c (.v (.int .u64 y0)) ∧ bs = [.ptr [.c (.sl 1 y1 none), .c (.v (.int .i64 y2))]]) ∧ K0 y0 y1 y2)) := by
  obtain ⟨O, hO⟩ : ∃ O, O = std 1 T G0 (Den Try.prog G0) := ⟨_, rfl⟩
  have hLO : L = O.len := by rw [hN, hO]; rfl
  subst hLO
  refine den_h hO tiA mixed tabOk (fn := Try.f92) (sh := true) (by kernel_rfl) rfl rfl rfl rfl ?_
  intro Q hQ
  unfold p92 at h
  conv => cbv
  refine br_h hO h (by subst hO; rfl) (fun hc1 h => ?_) (fun hc1 h => ?_)
  · conv => cbv
    rw [hQ]
    exact ⟨0, x0, x1, ⟨(by subst hO; rfl), (by subst hO; rfl)⟩, h⟩
  · conv => cbv
    refine join_all hO ?_
    conv => cbv
    refine call_h hO [.shut] (d_p125 fu O.len hN h) ?_
    intro os Q hos hQ
    conv => cbv
    refine ⟨(by (rw [hos]) <;> (subst hO; rfl)), ?_⟩
    intro r bs hq
    rw [hQ] at hq
    clear hos hQ h
    obtain ⟨y1, y2, _, ⟨rfl, rfl⟩, h⟩ := hq
    conv => cbv
    refine call_h hO [.ref 2, .shut] (d_p94 fu O.len hN h) ?_
    intro os Q hos hQ
    conv => cbv
    refine ⟨(by (rw [hos]) <;> (subst hO; rfl)), ?_⟩
    intro r bs hq
    rw [hQ] at hq
    clear hos hQ h
    obtain ⟨y3, y4, _, ⟨rfl, rfl⟩, h⟩ := hq
    conv => cbv
    refine br_h hO h (by subst hO; rfl) (fun hc2 h => ?_) (fun hc2 h => ?_)
    · conv => cbv
      rw [hQ]
      exact ⟨0, y3, y4, ⟨(by subst hO; rfl), (by subst hO; rfl)⟩, h⟩
    · conv => cbv
      refine join_all hO ?_
      conv => cbv
      refine and_h h (fun g => (by subst hO; exact g)) (fun h => ?_)
      refine and_h h (fun g => (by subst hO; exact g)) (fun h => ?_)
      refine and_h h (fun g => (by subst hO; exact g)) (fun h => ?_)
      rw [hQ]
      exact ⟨y1, List.drop ((8 : Int).toNat) (List.take (((y3.length : Nat) : Int).toNat) y3), y4, ⟨(by subst hO; rfl), (by subst hO; rfl)⟩, h⟩
end Go.Proofs.Ythncmjlcmlmnmaa
