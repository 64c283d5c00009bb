/- Functions without memory, and that the Go functions are followed by them. Printed by gen.py. Conditions: none. -/
import Derived.Test.YthncmjlcmlmnmaaCPB
namespace Go.Proofs.Ythncmjlcmlmnmaa
open Go V
set_option maxRecDepth 100000
set_option maxHeartbeats 4000000
def p64_1 {ρ : Type} (fail : ρ) (fu : Nat) (s_p64 : (EL → ρ) → EL → Int → Int → ByteArray → EL → EL → ρ) (K0 : EL → ρ) (rec2 : EL → Int → Int → ρ) (x5 : EL) (z10 : EL) (z11 : Int) (z12 : Int) : ρ :=
  bif (cmpStd .lss z12 z11) then (gd ((0 : Int) ≤ z12) fail (gd ((z12 : Int) < (x5.length : Nat)) fail (rw_i64_i64_s_l3_l5 fail (List.getD x5 ((z12 : Int).toNat) []) (fun c13 c14 c15 c16 c17 => s_p64 (fun y18 => rec2 y18 z11 (binStd .add .i64 z12 1)) z10 c13 c14 c15 c16 c17)))) else (K0 z10)
def p64_1L {ρ : Type} (fail : ρ) (fu : Nat) (s_p64 : (EL → ρ) → EL → Int → Int → ByteArray → EL → EL → ρ) (K0 : EL → ρ)  (x5 : EL) : Nat → EL → Int → Int → ρ
  | 0, _, _, _ => fail
  | n + 1, z10, z11, z12 => p64_1 fail fu s_p64 K0 (p64_1L fail fu s_p64 K0  x5 n) x5 z10 z11 z12
def p64_2 {ρ : Type} (fail : ρ) (fu : Nat) (s_p64 : (EL → ρ) → EL → Int → Int → ByteArray → EL → EL → ρ) (K0 : EL → ρ) (rec1 : EL → Int → Int → ρ) (x4 : EL) (x5 : EL) (z3 : EL) (z4 : Int) (z5 : Int) : ρ :=
  bif (cmpStd .lss z5 z4) then (gd ((0 : Int) ≤ z5) fail (gd ((z5 : Int) < (x4.length : Nat)) fail (rw_i64_i64_l3 fail (List.getD x4 ((z5 : Int).toNat) []) (fun c6 c7 c8 => p70 fail fu (fun y9 => rec1 y9 z4 (binStd .add .i64 z5 1)) z3 c6 c7 c8)))) else (p64_1L fail fu s_p64 K0 x5 fu z3 ((x5.length : Nat) : Int) 0)
def p64_2L {ρ : Type} (fail : ρ) (fu : Nat) (s_p64 : (EL → ρ) → EL → Int → Int → ByteArray → EL → EL → ρ) (K0 : EL → ρ)  (x4 : EL) (x5 : EL) : Nat → EL → Int → Int → ρ
  | 0, _, _, _ => fail
  | n + 1, z3, z4, z5 => p64_2 fail fu s_p64 K0 (p64_2L fail fu s_p64 K0  x4 x5 n) x4 x5 z3 z4 z5
def p64_3 {ρ : Type} (fail : ρ) (fu : Nat) (s_p64 : (EL → ρ) → EL → Int → Int → ByteArray → EL → EL → ρ) (K0 : EL → ρ)  (x4 : EL) (x5 : EL) (j2 : EL) : ρ :=
  p64_2L fail fu s_p64 K0 x4 x5 fu j2 ((x4.length : Nat) : Int) 0
def p64_4 {ρ : Type} (fail : ρ) (fu : Nat) (s_p64 : (EL → ρ) → EL → Int → Int → ByteArray → EL → EL → ρ) (K0 : EL → ρ)  (x4 : EL) (x5 : EL) (j20 : EL) : ρ :=
  p64_3 fail fu s_p64 K0 x4 x5 j20
/-- (*codec.Writer).Term -/
def p64_b {ρ : Type} (fail : ρ) (fu : Nat) (s_p64 : (EL → ρ) → EL → Int → Int → ByteArray → EL → EL → ρ) (K0 : EL → ρ) (x0 : EL) (x1 : Int) (x2 : Int) (x3 : ByteArray) (x4 : EL) (x5 : EL) : ρ :=
  gd (1 ≤ [[(CV.v (.int .i64 x1))]].length) fail (p83 fail fu (fun y1 => bif (cmpStd .eql x1 0) then (gd (1 ≤ [[(CV.v (.int .i64 x2))]].length) fail (p83 fail fu (fun y19 => p64_3 fail fu s_p64 K0 x4 x5 y19) y1 (List.take 1 [[(CV.v (.int .i64 x2))]]))) else (bif (cmpStd .eql x1 2) then (gd (x3.size ≤ (encB x3.data.toList).length) fail (p87 fail fu (fun y21 => gd (1 ≤ [[(CV.v (.int .i64 ((x4.length : Nat) : Int)))]].length) fail (p83 fail fu (fun y22 => p64_4 fail fu s_p64 K0 x4 x5 y22) y21 (List.take 1 [[(CV.v (.int .i64 ((x4.length : Nat) : Int)))]]))) y1 (List.take x3.size (encB x3.data.toList)))) else (p64_4 fail fu s_p64 K0 x4 x5 y1))) x0 (List.take 1 [[(CV.v (.int .i64 x1))]]))
def p64 {ρ : Type} (fail : ρ) : Nat → (EL → ρ) → EL → Int → Int → ByteArray → EL → EL → ρ
  | 0, _, _, _, _, _, _, _ => fail
  | n + 1, K0, x0, x1, x2, x3, x4, x5 => p64_b fail n (p64 fail n) K0 x0 x1 x2 x3 x4 x5
def D_p64 (fu : Nat) : Prop := ∀ {K0 : EL → Prop} (L : EL → Nat) (_ : L = List.length) {x0 : EL} {x1 : Int} {x2 : Int} {x3 : ByteArray} {x4 : EL} {x5 : EL} (_ : p64 False fu K0 x0 x1 x2 x3 x4 x5), Den Try.prog G0 64 [.ptr [.arr 1 x0 none false (L x0)], .agg [.c (.v (.int .i64 x1)), .c (.v (.int .i64 x2)), .c (.v (.string x3)), .c (.sl 3 x4 none), .c (.sl 5 x5 none)]] (fun r bs => (∃ (y0 : EL) (o1 : OV), (r = .tup [] ∧ bs = [.ptr [.arr 1 y0 none false (L y0)], o1]) ∧ K0 y0))
theorem b_p64 (fu : Nat) (ih_p64 : D_p64 fu) {K0 : EL → Prop} (L : EL → Nat) (hN : L = List.length) {x0 : EL} {x1 : Int} {x2 : Int} {x3 : ByteArray} {x4 : EL} {x5 : EL} (h : p64_b False fu (p64 False fu) K0 x0 x1 x2 x3 x4 x5) : Den Try.prog G0 64 [.ptr [.arr 1 x0 none false (L x0)], .agg [.c (.v (.int .i64 x1)), .c (.v (.int .i64 x2)), .c (.v (.string x3)), .c (.sl 3 x4 none), .c (.sl 5 x5 none)]] (fun r bs => (∃ (y0 : EL) (o1 : OV), (r = .tup [] ∧ bs = [.ptr [.arr 1 y0 none false (L y0)], o1]) ∧ K0 y0)) := by
  obtain ⟨O, hO⟩ : ∃ O, O = std 2 T G0 (Den Try.prog G0) := ⟨_, rfl⟩
  have hLO : L = O.len := by rw [hN, hO]; rfl
  subst hLO
  refine den_h hO tiA mixed tabOk (fn := Try.f64) (sh := true) (by kernel_rfl) rfl rfl rfl rfl ?_
  intro Q hQ
  unfold p64_b at h
  conv => cbv
  obtain ⟨hc8, h⟩ := gd_inv h
  refine call_h hO [.ref 1, .shut] (d_p83 fu O.len hN h) ?_
  intro os Q hos hQ
  conv => cbv
  refine ⟨(by subst hO; exact Nat.le_refl _), ?_⟩
  refine view_of hO (by subst hO; exact hc8) ?_
  conv => cbv
  refine ⟨(by (rw [hos]) <;> (subst hO; rfl)), ?_⟩
  intro r bs hq
  rw [hQ] at hq
  clear hos hQ h
  obtain ⟨y1, _, ⟨rfl, rfl⟩, h⟩ := hq
  conv => cbv
  refine br_join_h hO tiA h (by subst hO; rfl) [0, 3] [0, 4000, 1000000] [] (fun tm m => ∃ (j2 : EL), ((tm = frame 0 57 [(0, .p 0 1 0), (3, .p 4000 2 0)] ∧ m = ⟨[(0, .blk 1 [.t 1000000 2 (O.len j2)]), (4000, .blk 2 [.c (.v (.int .i64 x1)), .c (.v (.int .i64 x2)), .c (.v (.string x3)), .c (.sl 3 x4 none), .c (.sl 5 x5 none)]), (1000000, .arr 2 1 j2 none false)], 3⟩)) ∧ p64_3 False fu (p64 False fu) K0 x4 x5 j2) (fun hc3 h L hL_3 => ?_) (fun hc3 h L hL_3 => ?_) ?_
  · conv => cbv
    obtain ⟨hc4, h⟩ := gd_inv h
    refine call_h hO [.ref 1, .shut] (d_p83 fu O.len hN h) ?_
    intro os Q hos hQ
    conv => cbv
    refine ⟨(by subst hO; exact Nat.le_refl _), ?_⟩
    refine view_of hO (by subst hO; exact hc4) ?_
    conv => cbv
    refine ⟨(by (rw [hos]) <;> (subst hO; rfl)), ?_⟩
    intro r bs hq
    rw [hQ] at hq
    clear hos hQ h
    obtain ⟨y19, _, ⟨rfl, rfl⟩, h⟩ := hq
    conv => cbv
    exact hL_3 _ _ ⟨y19, ⟨(by (conv => lhs; cbv) <;> (subst hO; rfl)), (by (conv => lhs; cbv) <;> (subst hO; rfl))⟩, h⟩
  · conv => cbv
    refine br_join_h hO tiA h (by subst hO; rfl) [0, 3] [0, 4000, 1000000] [] (fun tm m => ∃ (j20 : EL), ((tm = frame 0 57 [(0, .p 0 1 0), (3, .p 4000 2 0)] ∧ m = ⟨[(0, .blk 1 [.t 1000000 2 (O.len j20)]), (4000, .blk 2 [.c (.v (.int .i64 x1)), .c (.v (.int .i64 x2)), .c (.v (.string x3)), .c (.sl 3 x4 none), .c (.sl 5 x5 none)]), (1000000, .arr 2 1 j20 none false)], 3⟩)) ∧ p64_4 False fu (p64 False fu) K0 x4 x5 j20) (fun hc5 h L hL_4 => ?_) (fun hc5 h L hL_4 => ?_) ?_
    · conv => cbv
      obtain ⟨hc7, h⟩ := gd_inv h
      refine call_h hO [.ref 1, .shut] (d_p87 fu O.len hN h) ?_
      intro os Q hos hQ
      conv => cbv
      refine ⟨(by subst hO; exact Nat.le_refl _), ?_⟩
      refine view_of hO (by subst hO; exact hc7) ?_
      conv => cbv
      refine ⟨(by (rw [hos]) <;> (subst hO; rfl)), ?_⟩
      intro r bs hq
      rw [hQ] at hq
      clear hos hQ h
      obtain ⟨y21, _, ⟨rfl, rfl⟩, h⟩ := hq
      conv => cbv
      obtain ⟨hc6, h⟩ := gd_inv h
      refine call_h hO [.ref 1, .shut] (d_p83 fu O.len hN h) ?_
      intro os Q hos hQ
      conv => cbv
      refine ⟨(by subst hO; exact Nat.le_refl _), ?_⟩
      refine view_of hO (by subst hO; exact hc6) ?_
      conv => cbv
      refine ⟨(by (rw [hos]) <;> (subst hO; rfl)), ?_⟩
      intro r bs hq
      rw [hQ] at hq
      clear hos hQ h
      obtain ⟨y22, _, ⟨rfl, rfl⟩, h⟩ := hq
      conv => cbv
      exact hL_4 _ _ ⟨y22, ⟨(by (conv => lhs; cbv) <;> (subst hO; rfl)), (by (conv => lhs; cbv) <;> (subst hO; rfl))⟩, h⟩
    · conv => cbv
      exact hL_4 _ _ ⟨y1, ⟨(by (conv => lhs; cbv) <;> (subst hO; rfl)), (by (conv => lhs; cbv) <;> (subst hO; rfl))⟩, h⟩
    · rintro tm m ⟨j20, hs, h⟩
      unfold p64_4 at h
      obtain ⟨rfl, rfl⟩ := hs
      conv => cbv
      exact hL_3 _ _ ⟨j20, ⟨(by (conv => lhs; cbv) <;> (subst hO; rfl)), (by (conv => lhs; cbv) <;> (subst hO; rfl))⟩, h⟩
  · rintro tm m ⟨j2, hs, h⟩
    unfold p64_3 at h
    obtain ⟨rfl, rfl⟩ := hs
    conv => cbv
    refine loop_of hO tiA [0, 3, 36, 37, 38] [0, 4000, 1000000] [] (fun (n : Nat) tm m => ∃ (z3 : EL) (z4 : Int) (z5 : Int), ((tm = frame 0 57 [(0, .p 0 1 0), (3, .p 4000 2 0), (36, .c (.sl 3 x4 none)), (37, .c (.v (.int .i64 z4))), (38, .c (.v (.int .i64 z5)))] ∧ m = ⟨[(0, .blk 1 [.t 1000000 2 (O.len z3)]), (4000, .blk 2 [.c (.v (.int .i64 x1)), .c (.v (.int .i64 x2)), .c (.v (.string x3)), .c (.sl 3 x4 none), .c (.sl 5 x5 none)]), (1000000, .arr 2 1 z3 none false)], 3⟩)) ∧ p64_2L False fu (p64 False fu) K0 x4 x5 n z3 z4 z5) (fun n => n) fu ⟨j2, ((x4.length : Nat) : Int), 0, ⟨(by (conv => lhs; cbv) <;> (subst hO; rfl)), (by (conv => lhs; cbv) <;> (subst hO; rfl))⟩, h⟩ ?_
    rintro n1 tm m L ⟨z3, z4, z5, hs, h⟩ hLn1
    cases n1 with
    | zero => rw [p64_2L] at h; exact h.elim
    | succ n1 =>
      rw [p64_2L] at h
      unfold p64_2 at h
      obtain ⟨rfl, rfl⟩ := hs
      conv => cbv
      refine br_h hO h (by subst hO; rfl) (fun hc1 h => ?_) (fun hc1 h => ?_)
      · conv => cbv
        refine join_all hO ?_
        conv => cbv
        refine and_h h (fun g => (by subst hO; exact g)) (fun h => ?_)
        refine and_h h (fun g => (by subst hO; exact g)) (fun h => ?_)
        obtain ⟨c6, c7, c8, hr, h⟩ := rw_i64_i64_l3_inv h
        refine elem_of hO _ (by subst hO; exact hr) ?_
        clear hr
        conv => cbv
        refine call_h hO [.ref 1, .shut] (d_p70 fu O.len hN h) ?_
        intro os Q hos hQ
        conv => cbv
        refine ⟨(by subst hO; exact Nat.le_refl _), ?_⟩
        refine ⟨(by (rw [hos]) <;> (subst hO; rfl)), ?_⟩
        intro r bs hq
        rw [hQ] at hq
        clear hos hQ h
        obtain ⟨y9, _, ⟨rfl, rfl⟩, h⟩ := hq
        conv => cbv
        exact hLn1 n1 _ _ (Nat.lt_succ_self n1) ⟨y9, z4, binStd .add .i64 z5 1, ⟨(by (conv => lhs; cbv) <;> (subst hO; rfl)), (by (conv => lhs; cbv) <;> (subst hO; rfl))⟩, h⟩
      · conv => cbv
        refine loop_of hO tiA [0, 47, 48, 49] [0, 1000000] [] (fun (n : Nat) tm m => ∃ (z10 : EL) (z11 : Int) (z12 : Int), ((tm = frame 0 57 [(0, .p 0 1 0), (47, .c (.sl 5 x5 none)), (48, .c (.v (.int .i64 z11))), (49, .c (.v (.int .i64 z12)))] ∧ m = ⟨[(0, .blk 1 [.t 1000000 2 (O.len z10)]), (1000000, .arr 2 1 z10 none false)], 3⟩)) ∧ p64_1L False fu (p64 False fu) K0 x5 n z10 z11 z12) (fun n => n) fu ⟨z3, ((x5.length : Nat) : Int), 0, ⟨(by (conv => lhs; cbv) <;> (subst hO; rfl)), (by (conv => lhs; cbv) <;> (subst hO; rfl))⟩, h⟩ ?_
        rintro n2 tm m L ⟨z10, z11, z12, hs, h⟩ hLn2
        cases n2 with
        | zero => rw [p64_1L] at h; exact h.elim
        | succ n2 =>
          rw [p64_1L] at h
          unfold p64_1 at h
          obtain ⟨rfl, rfl⟩ := hs
          conv => cbv
          refine br_h hO h (by subst hO; rfl) (fun hc2 h => ?_) (fun hc2 h => ?_)
          · conv => cbv
            refine join_all hO ?_
            conv => cbv
            refine and_h h (fun g => (by subst hO; exact g)) (fun h => ?_)
            refine and_h h (fun g => (by subst hO; exact g)) (fun h => ?_)
            obtain ⟨c13, c14, c15, c16, c17, hr, h⟩ := rw_i64_i64_s_l3_l5_inv h
            refine elem_of hO _ (by subst hO; exact hr) ?_
            clear hr
            conv => cbv
            refine call_h hO [.ref 1, .shut] (ih_p64 O.len hN h) ?_
            intro os Q hos hQ
            conv => cbv
            refine ⟨(by subst hO; exact Nat.le_refl _), ?_⟩
            refine ⟨(by (rw [hos]) <;> (subst hO; rfl)), ?_⟩
            intro r bs hq
            rw [hQ] at hq
            clear hos hQ h
            obtain ⟨y18, _, ⟨rfl, rfl⟩, h⟩ := hq
            conv => cbv
            exact hLn2 n2 _ _ (Nat.lt_succ_self n2) ⟨y18, z11, binStd .add .i64 z12 1, ⟨(by (conv => lhs; cbv) <;> (subst hO; rfl)), (by (conv => lhs; cbv) <;> (subst hO; rfl))⟩, h⟩
          · conv => cbv
            refine ⟨(by subst hO; exact Nat.le_refl _), ?_⟩
            rw [hQ]
            exact ⟨z10, _, ⟨(by subst hO; rfl), (by subst hO; rfl)⟩, h⟩
theorem dd_p64 (fu : Nat) : D_p64 fu := by
  induction fu with
  | zero => unfold D_p64; intros; rename_i h; rw [p64] at h; exact h.elim
  | succ n ih =>
    exact (by unfold D_p64; intro K0 L hN x0 x1 x2 x3 x4 x5 h; exact b_p64 n ih L hN (by rw [p64] at h; exact h))
theorem d_p64 (fu : Nat) {K0 : EL → Prop} (L : EL → Nat) (hL : L = List.length) {x0 : EL} {x1 : Int} {x2 : Int} {x3 : ByteArray} {x4 : EL} {x5 : EL} (h : p64 False fu K0 x0 x1 x2 x3 x4 x5) : Den Try.prog G0 64 [.ptr [.arr 1 x0 none false (L x0)], .agg [.c (.v (.int .i64 x1)), .c (.v (.int .i64 x2)), .c (.v (.string x3)), .c (.sl 3 x4 none), .c (.sl 5 x5 none)]] (fun r bs => (∃ (y0 : EL) (o1 : OV), (r = .tup [] ∧ bs = [.ptr [.arr 1 y0 none false (L y0)], o1]) ∧ K0 y0)) := dd_p64 fu L hL h
end Go.Proofs.Ythncmjlcmlmnmaa

namespace Go.Proofs.Ythncmjlcmlmnmaa
open Go V
set_option maxRecDepth 100000
set_option maxHeartbeats 4000000
/-- codec.Term -/
def p17 {ρ : Type} (fail : ρ) (fu : Nat)  (K0 : EL → ρ) (x0 : EL) (x1 : Int) (x2 : Int) (x3 : ByteArray) (x4 : EL) (x5 : EL) : ρ :=
  p63 fail fu (fun y1 => p64 fail fu (fun y2 => K0 y2) y1 x1 x2 x3 x4 x5) x0
theorem d_p17 (fu : Nat)  {K0 : EL → Prop} (L : EL → Nat) (hN : L = List.length) {x0 : EL} {x1 : Int} {x2 : Int} {x3 : ByteArray} {x4 : EL} {x5 : EL} (h : p17 False fu K0 x0 x1 x2 x3 x4 x5) : Den Try.prog G0 17 [.c (.sl 1 x0 none), .agg [.c (.v (.int .i64 x1)), .c (.v (.int .i64 x2)), .c (.v (.string x3)), .c (.sl 3 x4 none), .c (.sl 5 x5 none)]] (fun r bs => (∃ (y0 : EL) (o0 : OV) (o1 : OV), (r = .arr 1 y0 none false (L y0) ∧ bs = [o0, o1]) ∧ K0 y0)) := by
  obtain ⟨O, hO⟩ : ∃ O, O = std 0 T G0 (Den Try.prog G0) := ⟨_, rfl⟩
  have hLO : L = O.len := by rw [hN, hO]; rfl
  subst hLO
  refine den_h hO tiA mixed tabOk (fn := Try.f17) (sh := false) (by kernel_rfl) rfl rfl rfl rfl ?_
  intro Q hQ
  unfold p17 at h
  conv => cbv
  refine call_h hO [.shut] (d_p63 fu O.len hN h) ?_
  intro os Q hos hQ
  conv => cbv
  refine ⟨(by (rw [hos]) <;> (subst hO; rfl)), ?_⟩
  intro r bs hq
  rw [hQ] at hq
  clear hos hQ h
  obtain ⟨y1, _, ⟨rfl, rfl⟩, h⟩ := hq
  conv => cbv
  refine call_h hO [.ref 1, .shut] (d_p64 fu O.len hN h) ?_
  intro os Q hos hQ
  conv => cbv
  refine ⟨(by subst hO; exact Nat.le_refl _), ?_⟩
  refine ⟨(by (rw [hos]) <;> (subst hO; rfl)), ?_⟩
  intro r bs hq
  rw [hQ] at hq
  clear hos hQ h
  obtain ⟨y2, _, ⟨rfl, rfl⟩, h⟩ := hq
  conv => cbv
  refine ⟨(by subst hO; exact Nat.le_refl _), ?_⟩
  rw [hQ]
  exact ⟨y2, _, _, ⟨(by subst hO; rfl), (by subst hO; rfl)⟩, h⟩
def p94_1 {ρ : Type} (fail : ρ) (fu : Nat)  (K0 : EL → Int → ρ)  (x0 : EL) (j1 : Int) : ρ :=
  K0 x0 j1
/-- (*codec.Reader).Fails -/
def p94 {ρ : Type} (fail : ρ) (fu : Nat)  (K0 : EL → Int → ρ) (x0 : EL) (x1 : Int) (x2 : Int) : ρ :=
  bif (cmpStd .eql x1 0) then (p94_1 fail fu  K0 x0 x2) else (p94_1 fail fu  K0 x0 x1)
theorem d_p94 (fu : Nat)  {K0 : EL → Int → Prop} (L : EL → Nat) (hN : L = List.length) {x0 : EL} {x1 : Int} {x2 : Int} (h : p94 False fu K0 x0 x1 x2) : Den Try.prog G0 94 [.ptr [.c (.sl 1 x0 none), .c (.v (.int .i64 x1))], .c (.v (.int .i64 x2))] (fun r bs => (∃ (y0 : EL) (y1 : Int) (o1 : OV), (r = .tup [] ∧ bs = [.ptr [.c (.sl 1 y0 none), .c (.v (.int .i64 y1))], o1]) ∧ K0 y0 y1)) := by
  obtain ⟨O, hO⟩ : ∃ O, O = std 1 T G0 (Den Try.prog G0) := ⟨_, rfl⟩
  have hLO : L = O.len := by rw [hN, hO]; rfl
  subst hLO
  refine den_h hO tiA mixed tabOk (fn := Try.f94) (sh := true) (by kernel_rfl) rfl rfl rfl rfl ?_
  intro Q hQ
  unfold p94 at h
  conv => cbv
  refine br_join_h hO tiA h (by subst hO; rfl) [] [0] [] (fun tm m => ∃ (j1 : Int), ((tm = frame 0 13 [] ∧ m = ⟨[(0, .blk 0 [.c (.sl 1 x0 none), .c (.v (.int .i64 j1))])], 2⟩)) ∧ p94_1 False fu  K0 x0 j1) (fun hc1 h L hL_1 => ?_) (fun hc1 h L hL_1 => ?_) ?_
  · conv => cbv
    exact hL_1 _ _ ⟨x2, ⟨(by (conv => lhs; cbv) <;> (subst hO; rfl)), (by (conv => lhs; cbv) <;> (subst hO; rfl))⟩, h⟩
  · conv => cbv
    exact hL_1 _ _ ⟨x1, ⟨(by (conv => lhs; cbv) <;> (subst hO; rfl)), (by (conv => lhs; cbv) <;> (subst hO; rfl))⟩, h⟩
  · rintro tm m ⟨j1, hs, h⟩
    unfold p94_1 at h
    obtain ⟨rfl, rfl⟩ := hs
    conv => cbv
    rw [hQ]
    exact ⟨x0, j1, _, ⟨(by subst hO; rfl), (by subst hO; rfl)⟩, h⟩
def p137_1 {ρ : Type} (fail : ρ) (fu : Nat)  (K0 : EL → Int → Int → ρ)   (j1 : EL) (j2 : Int) (j3 : Int) : ρ :=
  K0 j1 j2 j3
def p137_2 {ρ : Type} (fail : ρ) (fu : Nat)  (K0 : EL → Int → Int → ρ)   (j6 : EL) (j7 : Int) (j8 : Int) : ρ :=
  p137_1 fail fu  K0  j6 j7 j8
/-- (*codec.Reader).part -/
def p137 {ρ : Type} (fail : ρ) (fu : Nat)  (K0 : EL → Int → Int → ρ) (x0 : EL) (x1 : Int) (x2 : Int) (x3 : Int) (x4 : Int) (x5 : Int) : ρ :=
  bif (cmpStd .gtr (binStd .add .i64 x2 1) x3) then (p94 fail fu (fun y4 y5 => p137_1 fail fu  K0  y4 y5 (binStd .add .i64 x2 1)) x0 x1 3) else (bif (cmpStd .gtr x4 x5) then (p94 fail fu (fun y9 y10 => p137_2 fail fu  K0  y9 y10 (binStd .add .i64 x2 1)) x0 x1 6) else (p137_2 fail fu  K0  x0 x1 (binStd .add .i64 x2 1)))
theorem d_p137 (fu : Nat)  {K0 : EL → Int → Int → Prop} (L : EL → Nat) (hN : L = List.length) {x0 : EL} {x1 : Int} {x2 : Int} {x3 : Int} {x4 : Int} {x5 : Int} (h : p137 False fu K0 x0 x1 x2 x3 x4 x5) : Den Try.prog G0 137 [.ptr [.c (.sl 1 x0 none), .c (.v (.int .i64 x1))], .ptr [.c (.v (.int .i64 x2))], .c (.v (.int .i64 x3)), .c (.v (.int .i64 x4)), .c (.v (.int .i64 x5))] (fun r bs => (∃ (y0 : EL) (y1 : Int) (y2 : Int) (o2 : OV) (o3 : OV) (o4 : OV), (r = .tup [] ∧ bs = [.ptr [.c (.sl 1 y0 none), .c (.v (.int .i64 y1))], .ptr [.c (.v (.int .i64 y2))], o2, o3, o4]) ∧ K0 y0 y1 y2)) := by
  obtain ⟨O, hO⟩ : ∃ O, O = std 2 T G0 (Den Try.prog G0) := ⟨_, rfl⟩
  have hLO : L = O.len := by rw [hN, hO]; rfl
  subst hLO
  refine den_h hO tiA mixed tabOk (fn := Try.f137) (sh := true) (by kernel_rfl) rfl rfl rfl rfl ?_
  intro Q hQ
  unfold p137 at h
  conv => cbv
  refine br_join_h hO tiA h (by subst hO; rfl) [] [0, 1] [] (fun tm m => ∃ (j1 : EL) (j2 : Int) (j3 : Int), ((tm = frame 0 29 [] ∧ m = ⟨[(0, .blk 0 [.c (.sl 1 j1 none), .c (.v (.int .i64 j2))]), (1, .blk 1 [.c (.v (.int .i64 j3))])], 3⟩)) ∧ p137_1 False fu  K0  j1 j2 j3) (fun hc1 h L hL_1 => ?_) (fun hc1 h L hL_1 => ?_) ?_
  · conv => cbv
    refine call_h hO [.ref 2, .shut] (d_p94 fu O.len hN h) ?_
    intro os Q hos hQ
    conv => cbv
    refine ⟨(by (rw [hos]) <;> (subst hO; rfl)), ?_⟩
    intro r bs hq
    rw [hQ] at hq
    clear hos hQ h
    obtain ⟨y4, y5, _, ⟨rfl, rfl⟩, h⟩ := hq
    conv => cbv
    exact hL_1 _ _ ⟨y4, y5, binStd .add .i64 x2 1, ⟨(by (conv => lhs; cbv) <;> (subst hO; rfl)), (by (conv => lhs; cbv) <;> (subst hO; rfl))⟩, h⟩
  · conv => cbv
    refine br_join_h hO tiA h (by subst hO; rfl) [] [0, 1] [] (fun tm m => ∃ (j6 : EL) (j7 : Int) (j8 : Int), ((tm = frame 0 29 [] ∧ m = ⟨[(0, .blk 0 [.c (.sl 1 j6 none), .c (.v (.int .i64 j7))]), (1, .blk 1 [.c (.v (.int .i64 j8))])], 3⟩)) ∧ p137_2 False fu  K0  j6 j7 j8) (fun hc2 h L hL_2 => ?_) (fun hc2 h L hL_2 => ?_) ?_
    · conv => cbv
      refine call_h hO [.ref 2, .shut] (d_p94 fu O.len hN h) ?_
      intro os Q hos hQ
      conv => cbv
      refine ⟨(by (rw [hos]) <;> (subst hO; rfl)), ?_⟩
      intro r bs hq
      rw [hQ] at hq
      clear hos hQ h
      obtain ⟨y9, y10, _, ⟨rfl, rfl⟩, h⟩ := hq
      conv => cbv
      exact hL_2 _ _ ⟨y9, y10, binStd .add .i64 x2 1, ⟨(by (conv => lhs; cbv) <;> (subst hO; rfl)), (by (conv => lhs; cbv) <;> (subst hO; rfl))⟩, h⟩
    · conv => cbv
      exact hL_2 _ _ ⟨x0, x1, binStd .add .i64 x2 1, ⟨(by (conv => lhs; cbv) <;> (subst hO; rfl)), (by (conv => lhs; cbv) <;> (subst hO; rfl))⟩, h⟩
    · rintro tm m ⟨j6, j7, j8, hs, h⟩
      unfold p137_2 at h
      obtain ⟨rfl, rfl⟩ := hs
      conv => cbv
      exact hL_1 _ _ ⟨j6, j7, j8, ⟨(by (conv => lhs; cbv) <;> (subst hO; rfl)), (by (conv => lhs; cbv) <;> (subst hO; rfl))⟩, h⟩
  · rintro tm m ⟨j1, j2, j3, hs, h⟩
    unfold p137_1 at h
    obtain ⟨rfl, rfl⟩ := hs
    conv => cbv
    rw [hQ]
    exact ⟨j1, j2, j3, _, _, _, ⟨(by subst hO; rfl), (by subst hO; rfl)⟩, h⟩
end Go.Proofs.Ythncmjlcmlmnmaa

namespace Go.Proofs.Ythncmjlcmlmnmaa
open Go V
set_option maxRecDepth 100000
set_option maxHeartbeats 4000000
def p139_1 {ρ : Type} (fail : ρ) (fu : Nat)  (K0 : Int → Int → Int → ρ)  (z3 : Int) (j6 : Int) (j7 : Bool) : ρ :=
  bif j7 then (K0 0 0 5) else (K0 j6 (binStd .add .i64 z3 1) 0)
def p139_2 {ρ : Type} (fail : ρ) (fu : Nat)  (K0 : Int → Int → Int → ρ) (rec1 : Int → Int → Int → ρ) (z1 : Int) (z2 : Int) (z3 : Int) (c4 : Int) (j5 : Bool) : ρ :=
  bif j5 then (K0 0 0 4) else (gd ((0 : Int) ≤ (IntKind.u64.wrap (binStd .mul .i64 7 z3))) fail (bif (cmpStd .geq c4 128) then (rec1 (binStd .or .u64 z1 (binStd .shl .u64 (IntKind.u64.wrap (binStd .andNot .u8 c4 128)) (IntKind.u64.wrap (binStd .mul .i64 7 z3)))) z2 (binStd .add .i64 z3 1)) else (bif (cmpStd .eql c4 0) then (p139_1 fail fu  K0 z3 (binStd .or .u64 z1 (binStd .shl .u64 (IntKind.u64.wrap (binStd .andNot .u8 c4 128)) (IntKind.u64.wrap (binStd .mul .i64 7 z3)))) (cmpStd .gtr z3 0)) else (p139_1 fail fu  K0 z3 (binStd .or .u64 z1 (binStd .shl .u64 (IntKind.u64.wrap (binStd .andNot .u8 c4 128)) (IntKind.u64.wrap (binStd .mul .i64 7 z3)))) false))))
def p139_3 {ρ : Type} (fail : ρ) (fu : Nat)  (K0 : Int → Int → Int → ρ) (rec1 : Int → Int → Int → ρ) (x0 : EL) (z1 : Int) (z2 : Int) (z3 : Int) : ρ :=
  bif (cmpStd .lss z3 z2) then (gd ((0 : Int) ≤ z3) fail (gd ((z3 : Int) < (x0.length : Nat)) fail (rw_u8 fail (List.getD x0 ((z3 : Int).toNat) []) (fun c4 => bif (cmpStd .eql z3 9) then (p139_2 fail fu  K0 rec1 z1 z2 z3 c4 (cmpStd .gtr c4 1)) else (p139_2 fail fu  K0 rec1 z1 z2 z3 c4 false))))) else (K0 0 0 2)
def p139_3L {ρ : Type} (fail : ρ) (fu : Nat)  (K0 : Int → Int → Int → ρ)  (x0 : EL) : Nat → Int → Int → Int → ρ
  | 0, _, _, _ => fail
  | n + 1, z1, z2, z3 => p139_3 fail fu  K0 (p139_3L fail fu  K0  x0 n) x0 z1 z2 z3
/-- octet.TakeVar -/
def p139 {ρ : Type} (fail : ρ) (fu : Nat)  (K0 : Int → Int → Int → ρ) (x0 : EL) : ρ :=
  p139_3L fail fu  K0 x0 fu 0 ((x0.length : Nat) : Int) 0
theorem d_p139 (fu : Nat)  {K0 : Int → Int → Int → Prop} (L : EL → Nat) (hN : L = List.length) {x0 : EL} (h : p139 False fu K0 x0) : Den Try.prog G0 139 [.c (.sl 1 x0 none)] (fun r bs => (∃ (y0 : Int) (y1 : Int) (y2 : Int) (o0 : OV), (r = .tup [.c (.v (.int .u64 y0)), .c (.v (.int .i64 y1)), .c (.v (.int .i64 y2))] ∧ bs = [o0]) ∧ K0 y0 y1 y2)) := by
  obtain ⟨O, hO⟩ : ∃ O, O = std 0 T G0 (Den Try.prog G0) := ⟨_, rfl⟩
  have hLO : L = O.len := by rw [hN, hO]; rfl
  subst hLO
  refine den_h hO tiA mixed tabOk (fn := Try.f139) (sh := true) (by kernel_rfl) rfl rfl rfl rfl ?_
  intro Q hQ
  unfold p139 at h
  conv => cbv
  refine loop_of hO tiA [2, 7, 8, 9] [] [] (fun (n : Nat) tm m => ∃ (z1 : Int) (z2 : Int) (z3 : Int), ((tm = frame 0 43 [(2, .c (.v (.int .u64 z1))), (7, .c (.sl 1 x0 none)), (8, .c (.v (.int .i64 z2))), (9, .c (.v (.int .i64 z3)))] ∧ m = ⟨[], 1⟩)) ∧ p139_3L False fu  K0 x0 n z1 z2 z3) (fun n => n) fu ⟨0, ((x0.length : Nat) : Int), 0, ⟨(by (conv => lhs; cbv) <;> (subst hO; rfl)), (by (conv => lhs; cbv) <;> (subst hO; rfl))⟩, h⟩ ?_
  rintro n1 tm m L ⟨z1, z2, z3, hs, h⟩ hLn1
  cases n1 with
  | zero => rw [p139_3L] at h; exact h.elim
  | succ n1 =>
    rw [p139_3L] at h
    unfold p139_3 at h
    obtain ⟨rfl, rfl⟩ := hs
    conv => cbv
    refine br_h hO h (by subst hO; rfl) (fun hc1 h => ?_) (fun hc1 h => ?_)
    · conv => cbv
      refine join_all hO ?_
      conv => cbv
      refine and_h h (fun g => (by subst hO; exact g)) (fun h => ?_)
      refine and_h h (fun g => (by subst hO; exact g)) (fun h => ?_)
      obtain ⟨c4, hr, h⟩ := rw_u8_inv h
      refine elem_of hO _ (by subst hO; exact hr) ?_
      clear hr
      conv => cbv
      refine reg_join hO tiA [2, 5, 6, 7, 8, 9, 19] [] [] (fun tm m => ∃ (j5 : Bool), ((tm = frame 0 43 [(2, .c (.v (.int .u64 z1))), (5, .c (.v (.int .i64 z3))), (6, .c (.v (.int .u8 c4))), (7, .c (.sl 1 x0 none)), (8, .c (.v (.int .i64 z2))), (9, .c (.v (.int .i64 z3))), (19, .c (.v (.bool j5)))] ∧ m = ⟨[], 1⟩)) ∧ p139_2 False fu  K0 (p139_3L False fu  K0  x0 n1) z1 z2 z3 c4 j5) (fun L hL_2 => ?_) ?_
      · conv => cbv
        refine br_h hO h (by subst hO; rfl) (fun hc6 h => ?_) (fun hc6 h => ?_)
        · conv => cbv
          refine br_t hO hc6 ?_
          conv => cbv
          refine br_t hO hc6 ?_
          conv => cbv
          exact hL_2 _ _ ⟨(cmpStd .gtr c4 1), ⟨(by (conv => lhs; cbv) <;> (subst hO; rfl)), (by (conv => lhs; cbv) <;> (subst hO; rfl))⟩, h⟩
        · conv => cbv
          refine br_f hO hc6 ?_
          conv => cbv
          refine br_f hO hc6 ?_
          conv => cbv
          exact hL_2 _ _ ⟨false, ⟨(by (conv => lhs; cbv) <;> (subst hO; rfl)), (by (conv => lhs; cbv) <;> (subst hO; rfl))⟩, h⟩
      · rintro tm m ⟨j5, hs, h⟩
        unfold p139_2 at h
        obtain ⟨rfl, rfl⟩ := hs
        conv => cbv
        refine br_h hO h (by subst hO; rfl) (fun hc2 h => ?_) (fun hc2 h => ?_)
        · conv => cbv
          rw [hQ]
          exact ⟨0, 0, 4, _, ⟨(by subst hO; rfl), (by subst hO; rfl)⟩, h⟩
        · conv => cbv
          refine join_all hO ?_
          conv => cbv
          refine and_h h (fun g => (by subst hO; exact g)) (fun h => ?_)
          refine br_h hO h (by subst hO; rfl) (fun hc3 h => ?_) (fun hc3 h => ?_)
          · conv => cbv
            refine join_all hO ?_
            conv => cbv
            exact hLn1 n1 _ _ (Nat.lt_succ_self n1) ⟨binStd .or .u64 z1 (binStd .shl .u64 (IntKind.u64.wrap (binStd .andNot .u8 c4 128)) (IntKind.u64.wrap (binStd .mul .i64 7 z3))), z2, binStd .add .i64 z3 1, ⟨(by (conv => lhs; cbv) <;> (subst hO; rfl)), (by (conv => lhs; cbv) <;> (subst hO; rfl))⟩, h⟩
          · conv => cbv
            refine reg_join hO tiA [2, 5, 35] [] [] (fun tm m => ∃ (j6 : Int) (j7 : Bool), ((tm = frame 0 43 [(2, .c (.v (.int .u64 j6))), (5, .c (.v (.int .i64 z3))), (35, .c (.v (.bool j7)))] ∧ m = ⟨[], 1⟩)) ∧ p139_1 False fu  K0 z3 j6 j7) (fun L hL_1 => ?_) ?_
            · conv => cbv
              refine br_h hO h (by subst hO; rfl) (fun hc5 h => ?_) (fun hc5 h => ?_)
              · conv => cbv
                refine br_t hO hc5 ?_
                conv => cbv
                refine br_t hO hc5 ?_
                conv => cbv
                exact hL_1 _ _ ⟨binStd .or .u64 z1 (binStd .shl .u64 (IntKind.u64.wrap (binStd .andNot .u8 c4 128)) (IntKind.u64.wrap (binStd .mul .i64 7 z3))), (cmpStd .gtr z3 0), ⟨(by (conv => lhs; cbv) <;> (subst hO; rfl)), (by (conv => lhs; cbv) <;> (subst hO; rfl))⟩, h⟩
              · conv => cbv
                refine br_f hO hc5 ?_
                conv => cbv
                refine br_f hO hc5 ?_
                conv => cbv
                exact hL_1 _ _ ⟨binStd .or .u64 z1 (binStd .shl .u64 (IntKind.u64.wrap (binStd .andNot .u8 c4 128)) (IntKind.u64.wrap (binStd .mul .i64 7 z3))), false, ⟨(by (conv => lhs; cbv) <;> (subst hO; rfl)), (by (conv => lhs; cbv) <;> (subst hO; rfl))⟩, h⟩
            · rintro tm m ⟨j6, j7, hs, h⟩
              unfold p139_1 at h
              obtain ⟨rfl, rfl⟩ := hs
              conv => cbv
              refine br_h hO h (by subst hO; rfl) (fun hc4 h => ?_) (fun hc4 h => ?_)
              · conv => cbv
                rw [hQ]
                exact ⟨0, 0, 5, _, ⟨(by subst hO; rfl), (by subst hO; rfl)⟩, h⟩
              · conv => cbv
                rw [hQ]
                exact ⟨j6, binStd .add .i64 z3 1, 0, _, ⟨(by subst hO; rfl), (by subst hO; rfl)⟩, h⟩
    · conv => cbv
      rw [hQ]
      exact ⟨0, 0, 2, _, ⟨(by subst hO; rfl), (by subst hO; rfl)⟩, h⟩
end Go.Proofs.Ythncmjlcmlmnmaa

namespace Go.Proofs.Ythncmjlcmlmnmaa
open Go V
set_option maxRecDepth 100000
set_option maxHeartbeats 4000000
/-- (*codec.Reader).Raw -/
def p116 {ρ : Type} (fail : ρ) (fu : Nat)  (K0 : Int → EL → Int → ρ) (x0 : EL) (x1 : Int) : ρ :=
  bif (cmpStd .neq x1 0) then (K0 0 x0 x1) else (p139 fail fu (fun y1 y2 y3 => p94 fail fu (fun y4 y5 => gd ((0 : Int) ≤ y2) fail (gd ((y2 : Int) ≤ (y4.length : Nat)) fail (gd (((y4.length : Nat) : Int) ≤ (y4.length : Nat)) fail (K0 y1 (List.drop ((y2 : Int).toNat) (List.take (((y4.length : Nat) : Int).toNat) y4)) y5)))) x0 x1 y3) x0)
theorem d_p116 (fu : Nat)  {K0 : Int → EL → Int → Prop} (L : EL → Nat) (hN : L = List.length) {x0 : EL} {x1 : Int} (h : p116 False fu K0 x0 x1) : Den Try.prog G0 116 [.ptr [.c (.sl 1 x0 none), .c (.v (.int .i64 x1))]] (fun r bs => (∃ (y0 : Int) (y1 : EL) (y2 : Int), (r = .c (.v (.int .u64 y0)) ∧ bs = [.ptr [.c (.sl 1 y1 none), .c (.v (.int .i64 y2))]]) ∧ K0 y0 y1 y2)) := by
  obtain ⟨O, hO⟩ : ∃ O, O = std 1 T G0 (Den Try.prog G0) := ⟨_, rfl⟩
  have hLO : L = O.len := by rw [hN, hO]; rfl
  subst hLO
  refine den_h hO tiA mixed tabOk (fn := Try.f116) (sh := true) (by kernel_rfl) rfl rfl rfl rfl ?_
  intro Q hQ
  unfold p116 at h
  conv => cbv
  refine br_h hO h (by subst hO; rfl) (fun hc1 h => ?_) (fun hc1 h => ?_)
  · conv => cbv
    rw [hQ]
    exact ⟨0, x0, x1, ⟨(by subst hO; rfl), (by subst hO; rfl)⟩, h⟩
  · conv => cbv
    refine join_all hO ?_
    conv => cbv
    refine call_h hO [.shut] (d_p139 fu O.len hN h) ?_
    intro os Q hos hQ
    conv => cbv
    refine ⟨(by (rw [hos]) <;> (subst hO; rfl)), ?_⟩
    intro r bs hq
    rw [hQ] at hq
    clear hos hQ h
    obtain ⟨y1, y2, y3, _, ⟨rfl, rfl⟩, h⟩ := hq
    conv => cbv
    refine call_h hO [.ref 2, .shut] (d_p94 fu O.len hN h) ?_
    intro os Q hos hQ
    conv => cbv
    refine ⟨(by (rw [hos]) <;> (subst hO; rfl)), ?_⟩
    intro r bs hq
    rw [hQ] at hq
    clear hos hQ h
    obtain ⟨y4, y5, _, ⟨rfl, rfl⟩, h⟩ := hq
    conv => cbv
    refine and_h h (fun g => (by subst hO; exact g)) (fun h => ?_)
    refine and_h h (fun g => (by subst hO; exact g)) (fun h => ?_)
    refine and_h h (fun g => (by subst hO; exact g)) (fun h => ?_)
    rw [hQ]
    exact ⟨y1, List.drop ((y2 : Int).toNat) (List.take (((y4.length : Nat) : Int).toNat) y4), y5, ⟨(by subst hO; rfl), (by subst hO; rfl)⟩, h⟩
def p93_1 {ρ : Type} (fail : ρ) (fu : Nat)  (K0 : Int → EL → Int → ρ)  (x2 : Int) (y1 : Int) (y2 : EL) (y3 : Int) (j4 : Bool) : ρ :=
  bif j4 then (p94 fail fu (fun y5 y6 => K0 x2 y5 y6) y2 y3 5) else (K0 (IntKind.i64.wrap y1) y2 y3)
/-- (*codec.Reader).Kind -/
def p93 {ρ : Type} (fail : ρ) (fu : Nat)  (K0 : Int → EL → Int → ρ) (x0 : EL) (x1 : Int) (x2 : Int) (x3 : Int) : ρ :=
  p116 fail fu (fun y1 y2 y3 => bif (cmpStd .lss y1 (IntKind.u64.wrap x2)) then (p93_1 fail fu  K0 x2 y1 y2 y3 true) else (p93_1 fail fu  K0 x2 y1 y2 y3 (cmpStd .gtr y1 (IntKind.u64.wrap x3)))) x0 x1
theorem d_p93 (fu : Nat)  {K0 : Int → EL → Int → Prop} (L : EL → Nat) (hN : L = List.length) {x0 : EL} {x1 : Int} {x2 : Int} {x3 : Int} (h : p93 False fu K0 x0 x1 x2 x3) : Den Try.prog G0 93 [.ptr [.c (.sl 1 x0 none), .c (.v (.int .i64 x1))], .c (.v (.int .i64 x2)), .c (.v (.int .i64 x3))] (fun r bs => (∃ (y0 : Int) (y1 : EL) (y2 : Int) (o1 : OV) (o2 : OV), (r = .c (.v (.int .i64 y0)) ∧ bs = [.ptr [.c (.sl 1 y1 none), .c (.v (.int .i64 y2))], o1, o2]) ∧ K0 y0 y1 y2)) := by
  obtain ⟨O, hO⟩ : ∃ O, O = std 1 T G0 (Den Try.prog G0) := ⟨_, rfl⟩
  have hLO : L = O.len := by rw [hN, hO]; rfl
  subst hLO
  refine den_h hO tiA mixed tabOk (fn := Try.f93) (sh := true) (by kernel_rfl) rfl rfl rfl rfl ?_
  intro Q hQ
  unfold p93 at h
  conv => cbv
  refine call_h hO [.ref 2] (d_p116 fu O.len hN h) ?_
  intro os Q hos hQ
  conv => cbv
  refine ⟨(by (rw [hos]) <;> (subst hO; rfl)), ?_⟩
  intro r bs hq
  rw [hQ] at hq
  clear hos hQ h
  obtain ⟨y1, y2, y3, ⟨rfl, rfl⟩, h⟩ := hq
  conv => cbv
  refine reg_join hO tiA [0, 1, 7, 19] [0] [] (fun tm m => ∃ (j4 : Bool), ((tm = frame 0 25 [(0, .p 0 0 0), (1, .c (.v (.int .i64 x2))), (7, .c (.v (.int .u64 y1))), (19, .c (.v (.bool j4)))] ∧ m = ⟨[(0, .blk 0 [.c (.sl 1 y2 none), .c (.v (.int .i64 y3))])], 2⟩)) ∧ p93_1 False fu  K0 x2 y1 y2 y3 j4) (fun L hL_1 => ?_) ?_
  · conv => cbv
    refine br_h hO h (by subst hO; rfl) (fun hc2 h => ?_) (fun hc2 h => ?_)
    · conv => cbv
      refine br_t hO hc2 ?_
      conv => cbv
      refine br_t hO hc2 ?_
      conv => cbv
      refine br_t hO hc2 ?_
      conv => cbv
      refine br_t hO hc2 ?_
      conv => cbv
      exact hL_1 _ _ ⟨true, ⟨(by (conv => lhs; cbv) <;> (subst hO; rfl)), (by (conv => lhs; cbv) <;> (subst hO; rfl))⟩, h⟩
    · conv => cbv
      refine br_f hO hc2 ?_
      conv => cbv
      refine br_f hO hc2 ?_
      conv => cbv
      refine br_f hO hc2 ?_
      conv => cbv
      refine br_f hO hc2 ?_
      conv => cbv
      exact hL_1 _ _ ⟨(cmpStd .gtr y1 (IntKind.u64.wrap x3)), ⟨(by (conv => lhs; cbv) <;> (subst hO; rfl)), (by (conv => lhs; cbv) <;> (subst hO; rfl))⟩, h⟩
  · rintro tm m ⟨j4, hs, h⟩
    unfold p93_1 at h
    obtain ⟨rfl, rfl⟩ := hs
    conv => cbv
    refine br_h hO h (by subst hO; rfl) (fun hc1 h => ?_) (fun hc1 h => ?_)
    · conv => cbv
      refine call_h hO [.ref 2, .shut] (d_p94 fu O.len hN h) ?_
      intro os Q hos hQ
      conv => cbv
      refine ⟨(by (rw [hos]) <;> (subst hO; rfl)), ?_⟩
      intro r bs hq
      rw [hQ] at hq
      clear hos hQ h
      obtain ⟨y5, y6, _, ⟨rfl, rfl⟩, h⟩ := hq
      conv => cbv
      rw [hQ]
      exact ⟨x2, y5, y6, _, _, ⟨(by subst hO; rfl), (by subst hO; rfl)⟩, h⟩
    · conv => cbv
      refine join_all hO ?_
      conv => cbv
      rw [hQ]
      exact ⟨IntKind.i64.wrap y1, y2, y3, _, _, ⟨(by subst hO; rfl), (by subst hO; rfl)⟩, h⟩
/-- (*codec.Reader).Num -/
def p91 {ρ : Type} (fail : ρ) (fu : Nat)  (K0 : Int → EL → Int → ρ) (x0 : EL) (x1 : Int) : ρ :=
  p116 fail fu (fun y1 y2 y3 => bif (cmpStd .gtr y1 1073741824) then (p94 fail fu (fun y4 y5 => K0 0 y4 y5) y2 y3 4) else (K0 (IntKind.i64.wrap y1) y2 y3)) x0 x1
theorem d_p91 (fu : Nat)  {K0 : Int → EL → Int → Prop} (L : EL → Nat) (hN : L = List.length) {x0 : EL} {x1 : Int} (h : p91 False fu K0 x0 x1) : Den Try.prog G0 91 [.ptr [.c (.sl 1 x0 none), .c (.v (.int .i64 x1))]] (fun r bs => (∃ (y0 : Int) (y1 : EL) (y2 : Int), (r = .c (.v (.int .i64 y0)) ∧ bs = [.ptr [.c (.sl 1 y1 none), .c (.v (.int .i64 y2))]]) ∧ K0 y0 y1 y2)) := by
  obtain ⟨O, hO⟩ : ∃ O, O = std 1 T G0 (Den Try.prog G0) := ⟨_, rfl⟩
  have hLO : L = O.len := by rw [hN, hO]; rfl
  subst hLO
  refine den_h hO tiA mixed tabOk (fn := Try.f91) (sh := true) (by kernel_rfl) rfl rfl rfl rfl ?_
  intro Q hQ
  unfold p91 at h
  conv => cbv
  refine call_h hO [.ref 2] (d_p116 fu O.len hN h) ?_
  intro os Q hos hQ
  conv => cbv
  refine ⟨(by (rw [hos]) <;> (subst hO; rfl)), ?_⟩
  intro r bs hq
  rw [hQ] at hq
  clear hos hQ h
  obtain ⟨y1, y2, y3, ⟨rfl, rfl⟩, h⟩ := hq
  conv => cbv
  refine br_h hO h (by subst hO; rfl) (fun hc1 h => ?_) (fun hc1 h => ?_)
  · conv => cbv
    refine call_h hO [.ref 2, .shut] (d_p94 fu O.len hN h) ?_
    intro os Q hos hQ
    conv => cbv
    refine ⟨(by (rw [hos]) <;> (subst hO; rfl)), ?_⟩
    intro r bs hq
    rw [hQ] at hq
    clear hos hQ h
    obtain ⟨y4, y5, _, ⟨rfl, rfl⟩, h⟩ := hq
    conv => cbv
    rw [hQ]
    exact ⟨0, y4, y5, ⟨(by subst hO; rfl), (by subst hO; rfl)⟩, h⟩
  · conv => cbv
    refine join_all hO ?_
    conv => cbv
    rw [hQ]
    exact ⟨IntKind.i64.wrap y1, y2, y3, ⟨(by subst hO; rfl), (by subst hO; rfl)⟩, h⟩
end Go.Proofs.Ythncmjlcmlmnmaa

namespace Go.Proofs.Ythncmjlcmlmnmaa
open Go V
set_option maxRecDepth 100000
set_option maxHeartbeats 4000000
/-- octet.TakeText -/
def p126 {ρ : Type} (fail : ρ) (fu : Nat)  (K0 : EL → Int → Int → ρ) (x0 : EL) (x1 : Int) : ρ :=
  p139 fail fu (fun y1 y2 y3 => bif (cmpStd .neq y3 0) then (K0 nilE 0 y3) else (bif (cmpStd .gtr y1 (IntKind.u64.wrap (if 0 > x1 then 0 else x1))) then (K0 nilE 0 3) else (bif (cmpStd .gtr y1 (IntKind.u64.wrap (binStd .sub .i64 ((x0.length : Nat) : Int) y2))) then (K0 nilE 0 2) else (gd ((0 : Int) ≤ y2) fail (gd ((y2 : Int) ≤ (binStd .add .i64 y2 (IntKind.i64.wrap y1))) fail (gd ((binStd .add .i64 y2 (IntKind.i64.wrap y1) : Int) ≤ (binStd .add .i64 y2 (IntKind.i64.wrap y1))) fail (gd ((binStd .add .i64 y2 (IntKind.i64.wrap y1) : Int) ≤ (x0.length : Nat)) fail (gd (0 = nilE.length) fail (gd ((nilE.length + (List.drop ((y2 : Int).toNat) (List.take ((binStd .add .i64 y2 (IntKind.i64.wrap y1) : Int).toNat) x0)).length) * 1 ≤ 35184372088832) fail (K0 (nilE ++ (List.drop ((y2 : Int).toNat) (List.take ((binStd .add .i64 y2 (IntKind.i64.wrap y1) : Int).toNat) x0))) (binStd .add .i64 y2 (IntKind.i64.wrap y1)) 0)))))))))) x0
theorem d_p126 (fu : Nat)  {K0 : EL → Int → Int → Prop} (L : EL → Nat) (hN : L = List.length) {x0 : EL} {x1 : Int} (h : p126 False fu K0 x0 x1) : Den Try.prog G0 126 [.c (.sl 1 x0 none), .c (.v (.int .i64 x1))] (fun r bs => (∃ (y0 : EL) (y1 : Int) (y2 : Int) (o0 : OV) (o1 : OV), (r = .tup [.c (.sl 1 y0 none), .c (.v (.int .i64 y1)), .c (.v (.int .i64 y2))] ∧ bs = [o0, o1]) ∧ K0 y0 y1 y2)) := by
  obtain ⟨O, hO⟩ : ∃ O, O = std 0 T G0 (Den Try.prog G0) := ⟨_, rfl⟩
  have hLO : L = O.len := by rw [hN, hO]; rfl
  subst hLO
  refine den_h hO tiA mixed tabOk (fn := Try.f126) (sh := true) (by kernel_rfl) rfl rfl rfl rfl ?_
  intro Q hQ
  unfold p126 at h
  conv => cbv
  refine call_h hO [.shut] (d_p139 fu O.len hN h) ?_
  intro os Q hos hQ
  conv => cbv
  refine ⟨(by (rw [hos]) <;> (subst hO; rfl)), ?_⟩
  intro r bs hq
  rw [hQ] at hq
  clear hos hQ h
  obtain ⟨y1, y2, y3, _, ⟨rfl, rfl⟩, h⟩ := hq
  conv => cbv
  refine br_h hO h (by subst hO; rfl) (fun hc1 h => ?_) (fun hc1 h => ?_)
  · conv => cbv
    rw [hQ]
    exact ⟨nilE, 0, y3, _, _, ⟨(by subst hO; rfl), (by subst hO; rfl)⟩, h⟩
  · conv => cbv
    refine br_h hO h (by subst hO; rfl) (fun hc2 h => ?_) (fun hc2 h => ?_)
    · conv => cbv
      rw [hQ]
      exact ⟨nilE, 0, 3, _, _, ⟨(by subst hO; rfl), (by subst hO; rfl)⟩, h⟩
    · conv => cbv
      refine br_h hO h (by subst hO; rfl) (fun hc3 h => ?_) (fun hc3 h => ?_)
      · conv => cbv
        rw [hQ]
        exact ⟨nilE, 0, 2, _, _, ⟨(by subst hO; rfl), (by subst hO; rfl)⟩, h⟩
      · conv => cbv
        refine join_all hO ?_
        conv => cbv
        refine join_all hO ?_
        conv => cbv
        refine join_all hO ?_
        conv => cbv
        refine and_h h (fun g => (by subst hO; exact g)) (fun h => ?_)
        refine and_h h (fun g => (by subst hO; exact g)) (fun h => ?_)
        refine and_h h (fun g => (by subst hO; exact g)) (fun h => ?_)
        refine and_h h (fun g => (by subst hO; exact g)) (fun h => ?_)
        refine and_h h (fun g => (by subst hO; exact g)) (fun h => ?_)
        refine and_h h (fun g => (by subst hO; exact g)) (fun h => ?_)
        refine view_full hO ?_
        conv => cbv
        rw [hQ]
        exact ⟨(nilE ++ (List.drop ((y2 : Int).toNat) (List.take ((binStd .add .i64 y2 (IntKind.i64.wrap y1) : Int).toNat) x0))), binStd .add .i64 y2 (IntKind.i64.wrap y1), 0, _, _, ⟨(by subst hO; rfl), (by subst hO; rfl)⟩, h⟩
/-- (*codec.Reader).Text -/
def p95 {ρ : Type} (fail : ρ) (fu : Nat)  (K0 : EL → EL → Int → ρ) (x0 : EL) (x1 : Int) (x2 : Int) : ρ :=
  bif (cmpStd .neq x1 0) then (K0 nilE x0 x1) else (p126 fail fu (fun y1 y2 y3 => p94 fail fu (fun y4 y5 => gd ((0 : Int) ≤ y2) fail (gd ((y2 : Int) ≤ (y4.length : Nat)) fail (gd (((y4.length : Nat) : Int) ≤ (y4.length : Nat)) fail (K0 y1 (List.drop ((y2 : Int).toNat) (List.take (((y4.length : Nat) : Int).toNat) y4)) y5)))) x0 x1 y3) x0 x2)
theorem d_p95 (fu : Nat)  {K0 : EL → EL → Int → Prop} (L : EL → Nat) (hN : L = List.length) {x0 : EL} {x1 : Int} {x2 : Int} (h : p95 False fu K0 x0 x1 x2) : Den Try.prog G0 95 [.ptr [.c (.sl 1 x0 none), .c (.v (.int .i64 x1))], .c (.v (.int .i64 x2))] (fun r bs => (∃ (y0 : EL) (y1 : EL) (y2 : Int) (o1 : OV), (r = .c (.sl 1 y0 none) ∧ bs = [.ptr [.c (.sl 1 y1 none), .c (.v (.int .i64 y2))], o1]) ∧ K0 y0 y1 y2)) := by
  obtain ⟨O, hO⟩ : ∃ O, O = std 1 T G0 (Den Try.prog G0) := ⟨_, rfl⟩
  have hLO : L = O.len := by rw [hN, hO]; rfl
  subst hLO
  refine den_h hO tiA mixed tabOk (fn := Try.f95) (sh := true) (by kernel_rfl) rfl rfl rfl rfl ?_
  intro Q hQ
  unfold p95 at h
  conv => cbv
  refine br_h hO h (by subst hO; rfl) (fun hc1 h => ?_) (fun hc1 h => ?_)
  · conv => cbv
    rw [hQ]
    exact ⟨nilE, x0, x1, _, ⟨(by subst hO; rfl), (by subst hO; rfl)⟩, h⟩
  · conv => cbv
    refine join_all hO ?_
    conv => cbv
    refine call_h hO [.shut, .shut] (d_p126 fu O.len hN h) ?_
    intro os Q hos hQ
    conv => cbv
    refine ⟨(by (rw [hos]) <;> (subst hO; rfl)), ?_⟩
    intro r bs hq
    rw [hQ] at hq
    clear hos hQ h
    obtain ⟨y1, y2, y3, _, _, ⟨rfl, rfl⟩, h⟩ := hq
    conv => cbv
    refine call_h hO [.ref 2, .shut] (d_p94 fu O.len hN h) ?_
    intro os Q hos hQ
    conv => cbv
    refine ⟨(by (rw [hos]) <;> (subst hO; rfl)), ?_⟩
    intro r bs hq
    rw [hQ] at hq
    clear hos hQ h
    obtain ⟨y4, y5, _, ⟨rfl, rfl⟩, h⟩ := hq
    conv => cbv
    refine and_h h (fun g => (by subst hO; exact g)) (fun h => ?_)
    refine and_h h (fun g => (by subst hO; exact g)) (fun h => ?_)
    refine and_h h (fun g => (by subst hO; exact g)) (fun h => ?_)
    rw [hQ]
    exact ⟨y1, List.drop ((y2 : Int).toNat) (List.take (((y4.length : Nat) : Int).toNat) y4), y5, _, ⟨(by subst hO; rfl), (by subst hO; rfl)⟩, h⟩
end Go.Proofs.Ythncmjlcmlmnmaa
