/- Functions without memory, and that the Go functions are followed by them. Printed by gen.py. Conditions: none. -/
import Derived.Test.YthncmjlcmlmnmaaG
import Derived.Test.YthncmjlcmlmnmaaPR
namespace Go.Proofs.Ythncmjlcmlmnmaa
open Go V
set_option maxRecDepth 100000
set_option maxHeartbeats 4000000
def p37_1 {ρ : Type} (fail : ρ) (fu : Nat) (s_p37 : (Bool → ρ) → Int → Int → EL → Int → Int → EL → ρ) (K0 : Bool → ρ) (rec1 : Int → ρ) (x2 : EL) (x5 : EL) (z2 : Int) : ρ :=
  bif (cmpStd .lss z2 ((x2.length : Nat) : Int)) then (gd ((0 : Int) ≤ z2) fail (gd ((z2 : Int) < (x2.length : Nat)) fail (rw_i64_i64_l3 fail (List.getD x2 ((z2 : Int).toNat) []) (fun c3 c4 c5 => gd ((0 : Int) ≤ z2) fail (gd ((z2 : Int) < (x5.length : Nat)) fail (rw_i64_i64_l3 fail (List.getD x5 ((z2 : Int).toNat) []) (fun c6 c7 c8 => s_p37 (fun y9 => bif (!y9) then (K0 false) else (rec1 (binStd .add .i64 z2 1))) c3 c4 c5 c6 c7 c8))))))) else (K0 true)
def p37_1L {ρ : Type} (fail : ρ) (fu : Nat) (s_p37 : (Bool → ρ) → Int → Int → EL → Int → Int → EL → ρ) (K0 : Bool → ρ)  (x2 : EL) (x5 : EL) : Nat → Int → ρ
  | 0, _ => fail
  | n + 1, z2 => p37_1 fail fu s_p37 K0 (p37_1L fail fu s_p37 K0  x2 x5 n) x2 x5 z2
def p37_2 {ρ : Type} (fail : ρ) (fu : Nat) (s_p37 : (Bool → ρ) → Int → Int → EL → Int → Int → EL → ρ) (K0 : Bool → ρ)  (x2 : EL) (x5 : EL) (j1 : Bool) : ρ :=
  bif j1 then (K0 false) else (p37_1L fail fu s_p37 K0 x2 x5 fu 0)
/-- ref4.Equal -/
def p37_b {ρ : Type} (fail : ρ) (fu : Nat) (s_p37 : (Bool → ρ) → Int → Int → EL → Int → Int → EL → ρ) (K0 : Bool → ρ) (x0 : Int) (x1 : Int) (x2 : EL) (x3 : Int) (x4 : Int) (x5 : EL) : ρ :=
  bif (cmpStd .neq x0 x3) then (p37_2 fail fu s_p37 K0 x2 x5 true) else (bif (cmpStd .neq x1 x4) then (p37_2 fail fu s_p37 K0 x2 x5 true) else (p37_2 fail fu s_p37 K0 x2 x5 (cmpStd .neq ((x2.length : Nat) : Int) ((x5.length : Nat) : Int))))
def p37 {ρ : Type} (fail : ρ) : Nat → (Bool → ρ) → Int → Int → EL → Int → Int → EL → ρ
  | 0, _, _, _, _, _, _, _ => fail
  | n + 1, K0, x0, x1, x2, x3, x4, x5 => p37_b fail n (p37 fail n) K0 x0 x1 x2 x3 x4 x5
def D_p37 (fu : Nat) : Prop := ∀ {K0 : Bool → Prop} (L : EL → Nat) (_ : L = List.length) {x0 : Int} {x1 : Int} {x2 : EL} {x3 : Int} {x4 : Int} {x5 : EL} (_ : p37 False fu K0 x0 x1 x2 x3 x4 x5), Den Try.prog G0 37 [.agg [.c (.v (.int .i64 x0)), .c (.v (.int .i64 x1)), .c (.sl 3 x2 none)], .agg [.c (.v (.int .i64 x3)), .c (.v (.int .i64 x4)), .c (.sl 3 x5 none)]] (fun r bs => (∃ (y0 : Bool) (o0 : OV) (o1 : OV), (r = .c (.v (.bool y0)) ∧ bs = [o0, o1]) ∧ K0 y0))
theorem b_p37 (fu : Nat) (ih_p37 : D_p37 fu) {K0 : Bool → Prop} (L : EL → Nat) (hN : L = List.length) {x0 : Int} {x1 : Int} {x2 : EL} {x3 : Int} {x4 : Int} {x5 : EL} (h : p37_b False fu (p37 False fu) K0 x0 x1 x2 x3 x4 x5) : Den Try.prog G0 37 [.agg [.c (.v (.int .i64 x0)), .c (.v (.int .i64 x1)), .c (.sl 3 x2 none)], .agg [.c (.v (.int .i64 x3)), .c (.v (.int .i64 x4)), .c (.sl 3 x5 none)]] (fun r bs => (∃ (y0 : Bool) (o0 : OV) (o1 : OV), (r = .c (.v (.bool y0)) ∧ bs = [o0, o1]) ∧ K0 y0)) := by
  obtain ⟨O, hO⟩ : ∃ O, O = std 0 T G0 (Den Try.prog G0) := ⟨_, rfl⟩
  have hLO : L = O.len := by rw [hN, hO]; rfl
  subst hLO
  refine den_h hO tiA mixed tabOk (fn := Try.f37) (sh := true) (by kernel_rfl) rfl rfl rfl rfl ?_
  intro Q hQ
  unfold p37_b at h
  conv => cbv
  refine reg_join hO tiA [2, 3, 26] [3000, 4000] [] (fun tm m => ∃ (j1 : Bool), ((tm = frame 0 46 [(2, .p 3000 0 0), (3, .p 4000 0 0), (26, .c (.v (.bool j1)))] ∧ m = ⟨[(3000, .blk 0 [.c (.v (.int .i64 x0)), .c (.v (.int .i64 x1)), .c (.sl 3 x2 none)]), (4000, .blk 0 [.c (.v (.int .i64 x3)), .c (.v (.int .i64 x4)), .c (.sl 3 x5 none)])], 1⟩)) ∧ p37_2 False fu (p37 False fu) K0 x2 x5 j1) (fun L hL_2 => ?_) ?_
  · conv => cbv
    refine br_h hO h (by subst hO; rfl) (fun hc4 h => ?_) (fun hc4 h => ?_)
    · conv => cbv
      refine br_t hO hc4 ?_
      conv => cbv
      refine br_t hO hc4 ?_
      conv => cbv
      refine br_t hO hc4 ?_
      conv => cbv
      refine br_t hO hc4 ?_
      conv => cbv
      refine br_t hO hc4 ?_
      conv => cbv
      refine br_t hO rfl ?_
      conv => cbv
      refine br_t hO rfl ?_
      conv => cbv
      refine br_t hO rfl ?_
      conv => cbv
      refine br_t hO rfl ?_
      conv => cbv
      refine br_t hO rfl ?_
      conv => cbv
      refine br_t hO rfl ?_
      conv => cbv
      refine br_t hO rfl ?_
      conv => cbv
      refine br_t hO rfl ?_
      conv => cbv
      exact hL_2 _ _ ⟨true, ⟨(by (conv => lhs; cbv) <;> (subst hO; rfl)), (by (conv => lhs; cbv) <;> (subst hO; rfl))⟩, h⟩
    · conv => cbv
      refine br_f hO hc4 ?_
      conv => cbv
      refine br_f hO hc4 ?_
      conv => cbv
      refine br_f hO hc4 ?_
      conv => cbv
      refine br_f hO hc4 ?_
      conv => cbv
      refine br_f hO hc4 ?_
      conv => cbv
      refine br_h hO h (by subst hO; rfl) (fun hc5 h => ?_) (fun hc5 h => ?_)
      · conv => cbv
        refine br_t hO hc5 ?_
        conv => cbv
        refine br_t hO hc5 ?_
        conv => cbv
        refine br_t hO hc5 ?_
        conv => cbv
        refine br_t hO hc5 ?_
        conv => cbv
        refine br_t hO hc5 ?_
        conv => cbv
        refine br_t hO hc5 ?_
        conv => cbv
        refine br_t hO hc5 ?_
        conv => cbv
        exact hL_2 _ _ ⟨true, ⟨(by (conv => lhs; cbv) <;> (subst hO; rfl)), (by (conv => lhs; cbv) <;> (subst hO; rfl))⟩, h⟩
      · conv => cbv
        refine br_f hO hc5 ?_
        conv => cbv
        refine br_f hO hc5 ?_
        conv => cbv
        refine br_f hO hc5 ?_
        conv => cbv
        refine br_f hO hc5 ?_
        conv => cbv
        refine br_f hO hc5 ?_
        conv => cbv
        refine br_f hO hc5 ?_
        conv => cbv
        refine br_f hO hc5 ?_
        conv => cbv
        exact hL_2 _ _ ⟨(cmpStd .neq ((x2.length : Nat) : Int) ((x5.length : Nat) : Int)), ⟨(by (conv => lhs; cbv) <;> (subst hO; rfl)), (by (conv => lhs; cbv) <;> (subst hO; rfl))⟩, h⟩
  · rintro tm m ⟨j1, hs, h⟩
    unfold p37_2 at h
    obtain ⟨rfl, rfl⟩ := hs
    conv => cbv
    refine br_h hO h (by subst hO; rfl) (fun hc1 h => ?_) (fun hc1 h => ?_)
    · conv => cbv
      rw [hQ]
      exact ⟨false, _, _, ⟨(by subst hO; rfl), (by subst hO; rfl)⟩, h⟩
    · conv => cbv
      refine join_all hO ?_
      conv => cbv
      refine loop_of hO tiA [2, 3, 5] [3000, 4000] [] (fun (n : Nat) tm m => ∃ (z2 : Int), ((tm = frame 0 46 [(2, .p 3000 0 0), (3, .p 4000 0 0), (5, .c (.v (.int .i64 z2)))] ∧ m = ⟨[(3000, .blk 0 [.c (.v (.int .i64 x0)), .c (.v (.int .i64 x1)), .c (.sl 3 x2 none)]), (4000, .blk 0 [.c (.v (.int .i64 x3)), .c (.v (.int .i64 x4)), .c (.sl 3 x5 none)])], 1⟩)) ∧ p37_1L False fu (p37 False fu) K0 x2 x5 n z2) (fun n => n) fu ⟨0, ⟨(by (conv => lhs; cbv) <;> (subst hO; rfl)), (by (conv => lhs; cbv) <;> (subst hO; rfl))⟩, h⟩ ?_
      rintro n1 tm m L ⟨z2, hs, h⟩ hLn1
      cases n1 with
      | zero => rw [p37_1L] at h; exact h.elim
      | succ n1 =>
        rw [p37_1L] at h
        unfold p37_1 at h
        obtain ⟨rfl, rfl⟩ := hs
        conv => cbv
        refine br_h hO h (by subst hO; rfl) (fun hc2 h => ?_) (fun hc2 h => ?_)
        · conv => cbv
          refine join_all hO ?_
          conv => cbv
          refine drawn_of hO tiA [[], []] [(0, true, false), (1, true, false), (2, true, false), (3, true, false), (4, true, false), (5, true, false), (6, true, false), (7, true, false), (8, true, false), (9, true, false), (10, false, true), (11, true, true)] (by kernel_rfl) ?_
          conv => cbv
          refine and_h h (fun g => (by subst hO; exact g)) (fun h => ?_)
          refine and_h h (fun g => (by subst hO; exact g)) (fun h => ?_)
          obtain ⟨c3, c4, c5, hr, h⟩ := rw_i64_i64_l3_inv h
          refine elem_of hO _ (by subst hO; exact hr) ?_
          clear hr
          conv => cbv
          refine and_h h (fun g => (by subst hO; exact g)) (fun h => ?_)
          refine and_h h (fun g => (by subst hO; exact g)) (fun h => ?_)
          obtain ⟨c6, c7, c8, hr, h⟩ := rw_i64_i64_l3_inv h
          refine elem_of hO _ (by subst hO; exact hr) ?_
          clear hr
          conv => cbv
          refine call_h hO [.shut, .shut] (ih_p37 O.len hN h) ?_
          intro os Q hos hQ
          conv => cbv
          refine ⟨(by (rw [hos]) <;> (subst hO; rfl)), ?_⟩
          intro r bs hq
          rw [hQ] at hq
          clear hos hQ h
          obtain ⟨y9, _, _, ⟨rfl, rfl⟩, h⟩ := hq
          conv => cbv
          refine join_all hO ?_
          conv => cbv
          refine br_h hO h (by subst hO; rfl) (fun hc3 h => ?_) (fun hc3 h => ?_)
          · conv => cbv
            rw [hQ]
            exact ⟨false, _, _, ⟨(by subst hO; rfl), (by subst hO; rfl)⟩, h⟩
          · conv => cbv
            refine join_all hO ?_
            conv => cbv
            exact hLn1 n1 _ _ (Nat.lt_succ_self n1) ⟨binStd .add .i64 z2 1, ⟨(by (conv => lhs; cbv) <;> (subst hO; rfl)), (by (conv => lhs; cbv) <;> (subst hO; rfl))⟩, h⟩
        · conv => cbv
          rw [hQ]
          exact ⟨true, _, _, ⟨(by subst hO; rfl), (by subst hO; rfl)⟩, h⟩
theorem dd_p37 (fu : Nat) : D_p37 fu := by
  induction fu with
  | zero => unfold D_p37; intros; rename_i h; rw [p37] at h; exact h.elim
  | succ n ih =>
    exact (by unfold D_p37; intro K0 L hN x0 x1 x2 x3 x4 x5 h; exact b_p37 n ih L hN (by rw [p37] at h; exact h))
theorem d_p37 (fu : Nat) {K0 : Bool → Prop} (L : EL → Nat) (hL : L = List.length) {x0 : Int} {x1 : Int} {x2 : EL} {x3 : Int} {x4 : Int} {x5 : EL} (h : p37 False fu K0 x0 x1 x2 x3 x4 x5) : Den Try.prog G0 37 [.agg [.c (.v (.int .i64 x0)), .c (.v (.int .i64 x1)), .c (.sl 3 x2 none)], .agg [.c (.v (.int .i64 x3)), .c (.v (.int .i64 x4)), .c (.sl 3 x5 none)]] (fun r bs => (∃ (y0 : Bool) (o0 : OV) (o1 : OV), (r = .c (.v (.bool y0)) ∧ bs = [o0, o1]) ∧ K0 y0)) := dd_p37 fu L hL h
end Go.Proofs.Ythncmjlcmlmnmaa

namespace Go.Proofs.Ythncmjlcmlmnmaa
open Go V
set_option maxRecDepth 100000
set_option maxHeartbeats 4000000
def p19_1 {ρ : Type} (fail : ρ) (fu : Nat) (s_p19 : (Bool → ρ) → Int → Int → ByteArray → EL → EL → Int → Int → ByteArray → EL → EL → ρ) (K0 : Bool → ρ) (rec2 : Int → ρ) (x4 : EL) (x9 : EL) (z10 : Int) : ρ :=
  bif (cmpStd .lss z10 ((x4.length : Nat) : Int)) then (gd ((0 : Int) ≤ z10) fail (gd ((z10 : Int) < (x4.length : Nat)) fail (rw_i64_i64_s_l3_l5 fail (List.getD x4 ((z10 : Int).toNat) []) (fun c11 c12 c13 c14 c15 => gd ((0 : Int) ≤ z10) fail (gd ((z10 : Int) < (x9.length : Nat)) fail (rw_i64_i64_s_l3_l5 fail (List.getD x9 ((z10 : Int).toNat) []) (fun c16 c17 c18 c19 c20 => s_p19 (fun y21 => bif (!y21) then (K0 false) else (rec2 (binStd .add .i64 z10 1))) c11 c12 c13 c14 c15 c16 c17 c18 c19 c20))))))) else (K0 true)
def p19_1L {ρ : Type} (fail : ρ) (fu : Nat) (s_p19 : (Bool → ρ) → Int → Int → ByteArray → EL → EL → Int → Int → ByteArray → EL → EL → ρ) (K0 : Bool → ρ)  (x4 : EL) (x9 : EL) : Nat → Int → ρ
  | 0, _ => fail
  | n + 1, z10 => p19_1 fail fu s_p19 K0 (p19_1L fail fu s_p19 K0  x4 x9 n) x4 x9 z10
def p19_2 {ρ : Type} (fail : ρ) (fu : Nat) (s_p19 : (Bool → ρ) → Int → Int → ByteArray → EL → EL → Int → Int → ByteArray → EL → EL → ρ) (K0 : Bool → ρ) (rec1 : Int → ρ) (x3 : EL) (x4 : EL) (x8 : EL) (x9 : EL) (z2 : Int) : ρ :=
  bif (cmpStd .lss z2 ((x3.length : Nat) : Int)) then (gd ((0 : Int) ≤ z2) fail (gd ((z2 : Int) < (x3.length : Nat)) fail (rw_i64_i64_l3 fail (List.getD x3 ((z2 : Int).toNat) []) (fun c3 c4 c5 => gd ((0 : Int) ≤ z2) fail (gd ((z2 : Int) < (x8.length : Nat)) fail (rw_i64_i64_l3 fail (List.getD x8 ((z2 : Int).toNat) []) (fun c6 c7 c8 => p37 fail fu (fun y9 => bif (!y9) then (K0 false) else (rec1 (binStd .add .i64 z2 1))) c3 c4 c5 c6 c7 c8))))))) else (p19_1L fail fu s_p19 K0 x4 x9 fu 0)
def p19_2L {ρ : Type} (fail : ρ) (fu : Nat) (s_p19 : (Bool → ρ) → Int → Int → ByteArray → EL → EL → Int → Int → ByteArray → EL → EL → ρ) (K0 : Bool → ρ)  (x3 : EL) (x4 : EL) (x8 : EL) (x9 : EL) : Nat → Int → ρ
  | 0, _ => fail
  | n + 1, z2 => p19_2 fail fu s_p19 K0 (p19_2L fail fu s_p19 K0  x3 x4 x8 x9 n) x3 x4 x8 x9 z2
def p19_3 {ρ : Type} (fail : ρ) (fu : Nat) (s_p19 : (Bool → ρ) → Int → Int → ByteArray → EL → EL → Int → Int → ByteArray → EL → EL → ρ) (K0 : Bool → ρ)  (x3 : EL) (x4 : EL) (x8 : EL) (x9 : EL) (j1 : Bool) : ρ :=
  bif j1 then (K0 false) else (p19_2L fail fu s_p19 K0 x3 x4 x8 x9 fu 0)
/-- ref5.Equal -/
def p19_b {ρ : Type} (fail : ρ) (fu : Nat) (s_p19 : (Bool → ρ) → Int → Int → ByteArray → EL → EL → Int → Int → ByteArray → EL → EL → ρ) (K0 : Bool → ρ) (x0 : Int) (x1 : Int) (x2 : ByteArray) (x3 : EL) (x4 : EL) (x5 : Int) (x6 : Int) (x7 : ByteArray) (x8 : EL) (x9 : EL) : ρ :=
  bif (cmpStd .neq x0 x5) then (p19_3 fail fu s_p19 K0 x3 x4 x8 x9 true) else (bif (cmpStd .neq x1 x6) then (p19_3 fail fu s_p19 K0 x3 x4 x8 x9 true) else (bif (scmpStd .neq x2 x7) then (p19_3 fail fu s_p19 K0 x3 x4 x8 x9 true) else (bif (cmpStd .neq ((x3.length : Nat) : Int) ((x8.length : Nat) : Int)) then (p19_3 fail fu s_p19 K0 x3 x4 x8 x9 true) else (p19_3 fail fu s_p19 K0 x3 x4 x8 x9 (cmpStd .neq ((x4.length : Nat) : Int) ((x9.length : Nat) : Int))))))
def p19 {ρ : Type} (fail : ρ) : Nat → (Bool → ρ) → Int → Int → ByteArray → EL → EL → Int → Int → ByteArray → EL → EL → ρ
  | 0, _, _, _, _, _, _, _, _, _, _, _ => fail
  | n + 1, K0, x0, x1, x2, x3, x4, x5, x6, x7, x8, x9 => p19_b fail n (p19 fail n) K0 x0 x1 x2 x3 x4 x5 x6 x7 x8 x9
def D_p19 (fu : Nat) : Prop := ∀ {K0 : Bool → Prop} (L : EL → Nat) (_ : L = List.length) {x0 : Int} {x1 : Int} {x2 : ByteArray} {x3 : EL} {x4 : EL} {x5 : Int} {x6 : Int} {x7 : ByteArray} {x8 : EL} {x9 : EL} (_ : p19 False fu K0 x0 x1 x2 x3 x4 x5 x6 x7 x8 x9), Den Try.prog G0 19 [.agg [.c (.v (.int .i64 x0)), .c (.v (.int .i64 x1)), .c (.v (.string x2)), .c (.sl 3 x3 none), .c (.sl 5 x4 none)], .agg [.c (.v (.int .i64 x5)), .c (.v (.int .i64 x6)), .c (.v (.string x7)), .c (.sl 3 x8 none), .c (.sl 5 x9 none)]] (fun r bs => (∃ (y0 : Bool) (o0 : OV) (o1 : OV), (r = .c (.v (.bool y0)) ∧ bs = [o0, o1]) ∧ K0 y0))
theorem b_p19 (fu : Nat) (ih_p19 : D_p19 fu) {K0 : Bool → Prop} (L : EL → Nat) (hN : L = List.length) {x0 : Int} {x1 : Int} {x2 : ByteArray} {x3 : EL} {x4 : EL} {x5 : Int} {x6 : Int} {x7 : ByteArray} {x8 : EL} {x9 : EL} (h : p19_b False fu (p19 False fu) K0 x0 x1 x2 x3 x4 x5 x6 x7 x8 x9) : Den Try.prog G0 19 [.agg [.c (.v (.int .i64 x0)), .c (.v (.int .i64 x1)), .c (.v (.string x2)), .c (.sl 3 x3 none), .c (.sl 5 x4 none)], .agg [.c (.v (.int .i64 x5)), .c (.v (.int .i64 x6)), .c (.v (.string x7)), .c (.sl 3 x8 none), .c (.sl 5 x9 none)]] (fun r bs => (∃ (y0 : Bool) (o0 : OV) (o1 : OV), (r = .c (.v (.bool y0)) ∧ bs = [o0, o1]) ∧ K0 y0)) := by
  obtain ⟨O, hO⟩ : ∃ O, O = std 0 T G0 (Den Try.prog G0) := ⟨_, rfl⟩
  have hLO : L = O.len := by rw [hN, hO]; rfl
  subst hLO
  refine den_h hO tiA mixed tabOk (fn := Try.f19) (sh := true) (by kernel_rfl) rfl rfl rfl rfl ?_
  intro Q hQ
  unfold p19_b at h
  conv => cbv
  refine reg_join hO tiA [2, 3, 43] [3000, 4000] [] (fun tm m => ∃ (j1 : Bool), ((tm = frame 0 82 [(2, .p 3000 0 0), (3, .p 4000 0 0), (43, .c (.v (.bool j1)))] ∧ m = ⟨[(3000, .blk 0 [.c (.v (.int .i64 x0)), .c (.v (.int .i64 x1)), .c (.v (.string x2)), .c (.sl 3 x3 none), .c (.sl 5 x4 none)]), (4000, .blk 0 [.c (.v (.int .i64 x5)), .c (.v (.int .i64 x6)), .c (.v (.string x7)), .c (.sl 3 x8 none), .c (.sl 5 x9 none)])], 1⟩)) ∧ p19_3 False fu (p19 False fu) K0 x3 x4 x8 x9 j1) (fun L hL_3 => ?_) ?_
  · conv => cbv
    refine br_h hO h (by subst hO; rfl) (fun hc6 h => ?_) (fun hc6 h => ?_)
    · conv => cbv
      refine br_t hO hc6 ?_
      conv => cbv
      refine br_t hO hc6 ?_
      conv => cbv
      refine br_t hO hc6 ?_
      conv => cbv
      refine br_t hO hc6 ?_
      conv => cbv
      refine br_t hO hc6 ?_
      conv => cbv
      refine br_t hO rfl ?_
      conv => cbv
      refine br_t hO rfl ?_
      conv => cbv
      refine br_t hO rfl ?_
      conv => cbv
      refine br_t hO rfl ?_
      conv => cbv
      refine br_t hO rfl ?_
      conv => cbv
      refine br_t hO rfl ?_
      conv => cbv
      refine br_t hO rfl ?_
      conv => cbv
      refine br_t hO rfl ?_
      conv => cbv
      refine br_t hO rfl ?_
      conv => cbv
      refine br_t hO rfl ?_
      conv => cbv
      refine br_t hO rfl ?_
      conv => cbv
      refine br_t hO rfl ?_
      conv => cbv
      refine br_t hO rfl ?_
      conv => cbv
      refine br_t hO rfl ?_
      conv => cbv
      refine br_t hO rfl ?_
      conv => cbv
      refine br_t hO rfl ?_
      conv => cbv
      refine br_t hO rfl ?_
      conv => cbv
      refine br_t hO rfl ?_
      conv => cbv
      refine br_t hO rfl ?_
      conv => cbv
      refine br_t hO rfl ?_
      conv => cbv
      refine br_t hO rfl ?_
      conv => cbv
      refine br_t hO rfl ?_
      conv => cbv
      exact hL_3 _ _ ⟨true, ⟨(by (conv => lhs; cbv) <;> (subst hO; rfl)), (by (conv => lhs; cbv) <;> (subst hO; rfl))⟩, h⟩
    · conv => cbv
      refine br_f hO hc6 ?_
      conv => cbv
      refine br_f hO hc6 ?_
      conv => cbv
      refine br_f hO hc6 ?_
      conv => cbv
      refine br_f hO hc6 ?_
      conv => cbv
      refine br_f hO hc6 ?_
      conv => cbv
      refine br_h hO h (by subst hO; rfl) (fun hc7 h => ?_) (fun hc7 h => ?_)
      · conv => cbv
        refine br_t hO hc7 ?_
        conv => cbv
        refine br_t hO hc7 ?_
        conv => cbv
        refine br_t hO hc7 ?_
        conv => cbv
        refine br_t hO hc7 ?_
        conv => cbv
        refine br_t hO hc7 ?_
        conv => cbv
        refine br_t hO rfl ?_
        conv => cbv
        refine br_t hO rfl ?_
        conv => cbv
        refine br_t hO rfl ?_
        conv => cbv
        refine br_t hO rfl ?_
        conv => cbv
        refine br_t hO rfl ?_
        conv => cbv
        refine br_t hO rfl ?_
        conv => cbv
        refine br_t hO rfl ?_
        conv => cbv
        refine br_t hO rfl ?_
        conv => cbv
        refine br_t hO rfl ?_
        conv => cbv
        refine br_t hO rfl ?_
        conv => cbv
        refine br_t hO rfl ?_
        conv => cbv
        refine br_t hO rfl ?_
        conv => cbv
        refine br_t hO rfl ?_
        conv => cbv
        refine br_t hO rfl ?_
        conv => cbv
        refine br_t hO rfl ?_
        conv => cbv
        refine br_t hO rfl ?_
        conv => cbv
        exact hL_3 _ _ ⟨true, ⟨(by (conv => lhs; cbv) <;> (subst hO; rfl)), (by (conv => lhs; cbv) <;> (subst hO; rfl))⟩, h⟩
      · conv => cbv
        refine br_f hO hc7 ?_
        conv => cbv
        refine br_f hO hc7 ?_
        conv => cbv
        refine br_f hO hc7 ?_
        conv => cbv
        refine br_f hO hc7 ?_
        conv => cbv
        refine br_f hO hc7 ?_
        conv => cbv
        refine br_h hO h (by subst hO; rfl) (fun hc8 h => ?_) (fun hc8 h => ?_)
        · conv => cbv
          refine br_t hO hc8 ?_
          conv => cbv
          refine br_t hO hc8 ?_
          conv => cbv
          refine br_t hO hc8 ?_
          conv => cbv
          refine br_t hO hc8 ?_
          conv => cbv
          refine br_t hO hc8 ?_
          conv => cbv
          refine br_t hO hc8 ?_
          conv => cbv
          refine br_t hO hc8 ?_
          conv => cbv
          refine br_t hO rfl ?_
          conv => cbv
          refine br_t hO rfl ?_
          conv => cbv
          refine br_t hO rfl ?_
          conv => cbv
          refine br_t hO rfl ?_
          conv => cbv
          refine br_t hO rfl ?_
          conv => cbv
          refine br_t hO rfl ?_
          conv => cbv
          refine br_t hO rfl ?_
          conv => cbv
          refine br_t hO rfl ?_
          conv => cbv
          exact hL_3 _ _ ⟨true, ⟨(by (conv => lhs; cbv) <;> (subst hO; rfl)), (by (conv => lhs; cbv) <;> (subst hO; rfl))⟩, h⟩
        · conv => cbv
          refine br_f hO hc8 ?_
          conv => cbv
          refine br_f hO hc8 ?_
          conv => cbv
          refine br_f hO hc8 ?_
          conv => cbv
          refine br_f hO hc8 ?_
          conv => cbv
          refine br_f hO hc8 ?_
          conv => cbv
          refine br_f hO hc8 ?_
          conv => cbv
          refine br_f hO hc8 ?_
          conv => cbv
          refine br_h hO h (by subst hO; rfl) (fun hc9 h => ?_) (fun hc9 h => ?_)
          · conv => cbv
            refine br_t hO hc9 ?_
            conv => cbv
            refine br_t hO hc9 ?_
            conv => cbv
            refine br_t hO hc9 ?_
            conv => cbv
            refine br_t hO hc9 ?_
            conv => cbv
            refine br_t hO hc9 ?_
            conv => cbv
            refine br_t hO hc9 ?_
            conv => cbv
            refine br_t hO hc9 ?_
            conv => cbv
            exact hL_3 _ _ ⟨true, ⟨(by (conv => lhs; cbv) <;> (subst hO; rfl)), (by (conv => lhs; cbv) <;> (subst hO; rfl))⟩, h⟩
          · conv => cbv
            refine br_f hO hc9 ?_
            conv => cbv
            refine br_f hO hc9 ?_
            conv => cbv
            refine br_f hO hc9 ?_
            conv => cbv
            refine br_f hO hc9 ?_
            conv => cbv
            refine br_f hO hc9 ?_
            conv => cbv
            refine br_f hO hc9 ?_
            conv => cbv
            refine br_f hO hc9 ?_
            conv => cbv
            exact hL_3 _ _ ⟨(cmpStd .neq ((x4.length : Nat) : Int) ((x9.length : Nat) : Int)), ⟨(by (conv => lhs; cbv) <;> (subst hO; rfl)), (by (conv => lhs; cbv) <;> (subst hO; rfl))⟩, h⟩
  · rintro tm m ⟨j1, hs, h⟩
    unfold p19_3 at h
    obtain ⟨rfl, rfl⟩ := hs
    conv => cbv
    refine br_h hO h (by subst hO; rfl) (fun hc1 h => ?_) (fun hc1 h => ?_)
    · conv => cbv
      rw [hQ]
      exact ⟨false, _, _, ⟨(by subst hO; rfl), (by subst hO; rfl)⟩, h⟩
    · conv => cbv
      refine join_all hO ?_
      conv => cbv
      refine loop_of hO tiA [2, 3, 5] [3000, 4000] [] (fun (n : Nat) tm m => ∃ (z2 : Int), ((tm = frame 0 82 [(2, .p 3000 0 0), (3, .p 4000 0 0), (5, .c (.v (.int .i64 z2)))] ∧ m = ⟨[(3000, .blk 0 [.c (.v (.int .i64 x0)), .c (.v (.int .i64 x1)), .c (.v (.string x2)), .c (.sl 3 x3 none), .c (.sl 5 x4 none)]), (4000, .blk 0 [.c (.v (.int .i64 x5)), .c (.v (.int .i64 x6)), .c (.v (.string x7)), .c (.sl 3 x8 none), .c (.sl 5 x9 none)])], 1⟩)) ∧ p19_2L False fu (p19 False fu) K0 x3 x4 x8 x9 n z2) (fun n => n) fu ⟨0, ⟨(by (conv => lhs; cbv) <;> (subst hO; rfl)), (by (conv => lhs; cbv) <;> (subst hO; rfl))⟩, h⟩ ?_
      rintro n1 tm m L ⟨z2, hs, h⟩ hLn1
      cases n1 with
      | zero => rw [p19_2L] at h; exact h.elim
      | succ n1 =>
        rw [p19_2L] at h
        unfold p19_2 at h
        obtain ⟨rfl, rfl⟩ := hs
        conv => cbv
        refine br_h hO h (by subst hO; rfl) (fun hc2 h => ?_) (fun hc2 h => ?_)
        · conv => cbv
          refine join_all hO ?_
          conv => cbv
          refine drawn_of hO tiA [[], []] [(0, true, false), (1, true, false), (2, true, false), (3, true, false), (4, true, false), (5, true, false), (6, true, false), (7, true, false), (8, true, false), (9, true, false), (10, false, true), (11, true, true)] (by kernel_rfl) ?_
          conv => cbv
          refine and_h h (fun g => (by subst hO; exact g)) (fun h => ?_)
          refine and_h h (fun g => (by subst hO; exact g)) (fun h => ?_)
          obtain ⟨c3, c4, c5, hr, h⟩ := rw_i64_i64_l3_inv h
          refine elem_of hO _ (by subst hO; exact hr) ?_
          clear hr
          conv => cbv
          refine and_h h (fun g => (by subst hO; exact g)) (fun h => ?_)
          refine and_h h (fun g => (by subst hO; exact g)) (fun h => ?_)
          obtain ⟨c6, c7, c8, hr, h⟩ := rw_i64_i64_l3_inv h
          refine elem_of hO _ (by subst hO; exact hr) ?_
          clear hr
          conv => cbv
          refine call_h hO [.shut, .shut] (d_p37 fu O.len hN h) ?_
          intro os Q hos hQ
          conv => cbv
          refine ⟨(by (rw [hos]) <;> (subst hO; rfl)), ?_⟩
          intro r bs hq
          rw [hQ] at hq
          clear hos hQ h
          obtain ⟨y9, _, _, ⟨rfl, rfl⟩, h⟩ := hq
          conv => cbv
          refine join_all hO ?_
          conv => cbv
          refine br_h hO h (by subst hO; rfl) (fun hc3 h => ?_) (fun hc3 h => ?_)
          · conv => cbv
            rw [hQ]
            exact ⟨false, _, _, ⟨(by subst hO; rfl), (by subst hO; rfl)⟩, h⟩
          · conv => cbv
            refine join_all hO ?_
            conv => cbv
            exact hLn1 n1 _ _ (Nat.lt_succ_self n1) ⟨binStd .add .i64 z2 1, ⟨(by (conv => lhs; cbv) <;> (subst hO; rfl)), (by (conv => lhs; cbv) <;> (subst hO; rfl))⟩, h⟩
        · conv => cbv
          refine loop_of hO tiA [2, 3, 6] [3000, 4000] [] (fun (n : Nat) tm m => ∃ (z10 : Int), ((tm = frame 0 82 [(2, .p 3000 0 0), (3, .p 4000 0 0), (6, .c (.v (.int .i64 z10)))] ∧ m = ⟨[(3000, .blk 0 [.c (.v (.int .i64 x0)), .c (.v (.int .i64 x1)), .c (.v (.string x2)), .c (.sl 3 x3 none), .c (.sl 5 x4 none)]), (4000, .blk 0 [.c (.v (.int .i64 x5)), .c (.v (.int .i64 x6)), .c (.v (.string x7)), .c (.sl 3 x8 none), .c (.sl 5 x9 none)])], 1⟩)) ∧ p19_1L False fu (p19 False fu) K0 x4 x9 n z10) (fun n => n) fu ⟨0, ⟨(by (conv => lhs; cbv) <;> (subst hO; rfl)), (by (conv => lhs; cbv) <;> (subst hO; rfl))⟩, h⟩ ?_
          rintro n2 tm m L ⟨z10, hs, h⟩ hLn2
          cases n2 with
          | zero => rw [p19_1L] at h; exact h.elim
          | succ n2 =>
            rw [p19_1L] at h
            unfold p19_1 at h
            obtain ⟨rfl, rfl⟩ := hs
            conv => cbv
            refine br_h hO h (by subst hO; rfl) (fun hc4 h => ?_) (fun hc4 h => ?_)
            · conv => cbv
              refine join_all hO ?_
              conv => cbv
              refine drawn_of hO tiA [[], []] [(0, true, false), (1, true, false), (2, true, false), (3, true, false), (4, true, false), (5, true, false), (6, true, false), (7, true, false), (8, true, false), (9, true, false), (10, false, true), (11, true, true)] (by kernel_rfl) ?_
              conv => cbv
              refine and_h h (fun g => (by subst hO; exact g)) (fun h => ?_)
              refine and_h h (fun g => (by subst hO; exact g)) (fun h => ?_)
              obtain ⟨c11, c12, c13, c14, c15, hr, h⟩ := rw_i64_i64_s_l3_l5_inv h
              refine elem_of hO _ (by subst hO; exact hr) ?_
              clear hr
              conv => cbv
              refine and_h h (fun g => (by subst hO; exact g)) (fun h => ?_)
              refine and_h h (fun g => (by subst hO; exact g)) (fun h => ?_)
              obtain ⟨c16, c17, c18, c19, c20, hr, h⟩ := rw_i64_i64_s_l3_l5_inv h
              refine elem_of hO _ (by subst hO; exact hr) ?_
              clear hr
              conv => cbv
              refine call_h hO [.shut, .shut] (ih_p19 O.len hN h) ?_
              intro os Q hos hQ
              conv => cbv
              refine ⟨(by (rw [hos]) <;> (subst hO; rfl)), ?_⟩
              intro r bs hq
              rw [hQ] at hq
              clear hos hQ h
              obtain ⟨y21, _, _, ⟨rfl, rfl⟩, h⟩ := hq
              conv => cbv
              refine join_all hO ?_
              conv => cbv
              refine br_h hO h (by subst hO; rfl) (fun hc5 h => ?_) (fun hc5 h => ?_)
              · conv => cbv
                rw [hQ]
                exact ⟨false, _, _, ⟨(by subst hO; rfl), (by subst hO; rfl)⟩, h⟩
              · conv => cbv
                refine join_all hO ?_
                conv => cbv
                exact hLn2 n2 _ _ (Nat.lt_succ_self n2) ⟨binStd .add .i64 z10 1, ⟨(by (conv => lhs; cbv) <;> (subst hO; rfl)), (by (conv => lhs; cbv) <;> (subst hO; rfl))⟩, h⟩
            · conv => cbv
              rw [hQ]
              exact ⟨true, _, _, ⟨(by subst hO; rfl), (by subst hO; rfl)⟩, h⟩
theorem dd_p19 (fu : Nat) : D_p19 fu := by
  induction fu with
  | zero => unfold D_p19; intros; rename_i h; rw [p19] at h; exact h.elim
  | succ n ih =>
    exact (by unfold D_p19; intro K0 L hN x0 x1 x2 x3 x4 x5 x6 x7 x8 x9 h; exact b_p19 n ih L hN (by rw [p19] at h; exact h))
theorem d_p19 (fu : Nat) {K0 : Bool → Prop} (L : EL → Nat) (hL : L = List.length) {x0 : Int} {x1 : Int} {x2 : ByteArray} {x3 : EL} {x4 : EL} {x5 : Int} {x6 : Int} {x7 : ByteArray} {x8 : EL} {x9 : EL} (h : p19 False fu K0 x0 x1 x2 x3 x4 x5 x6 x7 x8 x9) : Den Try.prog G0 19 [.agg [.c (.v (.int .i64 x0)), .c (.v (.int .i64 x1)), .c (.v (.string x2)), .c (.sl 3 x3 none), .c (.sl 5 x4 none)], .agg [.c (.v (.int .i64 x5)), .c (.v (.int .i64 x6)), .c (.v (.string x7)), .c (.sl 3 x8 none), .c (.sl 5 x9 none)]] (fun r bs => (∃ (y0 : Bool) (o0 : OV) (o1 : OV), (r = .c (.v (.bool y0)) ∧ bs = [o0, o1]) ∧ K0 y0)) := dd_p19 fu L hL h
end Go.Proofs.Ythncmjlcmlmnmaa

namespace Go.Proofs.Ythncmjlcmlmnmaa
open Go V
set_option maxRecDepth 100000
set_option maxHeartbeats 4000000
def p130_1 {ρ : Type} (fail : ρ) (fu : Nat)  (K0 : Bool → ρ) (rec1 : Int → ρ) (x0 : EL) (x1 : EL) (z1 : Int) : ρ :=
  bif (cmpStd .lss z1 ((x0.length : Nat) : Int)) then (gd ((0 : Int) ≤ z1) fail (gd ((z1 : Int) < (x0.length : Nat)) fail (rw_s fail (List.getD x0 ((z1 : Int).toNat) []) (fun c2 => gd ((0 : Int) ≤ z1) fail (gd ((z1 : Int) < (x1.length : Nat)) fail (rw_s fail (List.getD x1 ((z1 : Int).toNat) []) (fun c3 => bif (scmpStd .neq c2 c3) then (K0 false) else (rec1 (binStd .add .i64 z1 1))))))))) else (K0 true)
def p130_1L {ρ : Type} (fail : ρ) (fu : Nat)  (K0 : Bool → ρ)  (x0 : EL) (x1 : EL) : Nat → Int → ρ
  | 0, _ => fail
  | n + 1, z1 => p130_1 fail fu  K0 (p130_1L fail fu  K0  x0 x1 n) x0 x1 z1
/-- ref24.SameNames -/
def p130 {ρ : Type} (fail : ρ) (fu : Nat)  (K0 : Bool → ρ) (x0 : EL) (x1 : EL) : ρ :=
  bif (cmpStd .neq ((x0.length : Nat) : Int) ((x1.length : Nat) : Int)) then (K0 false) else (p130_1L fail fu  K0 x0 x1 fu 0)
theorem d_p130 (fu : Nat)  {K0 : Bool → Prop} (L : EL → Nat) (hN : L = List.length) {x0 : EL} {x1 : EL} (h : p130 False fu K0 x0 x1) : Den Try.prog G0 130 [.c (.sl 1 x0 none), .c (.sl 1 x1 none)] (fun r bs => (∃ (y0 : Bool) (o0 : OV) (o1 : OV), (r = .c (.v (.bool y0)) ∧ bs = [o0, o1]) ∧ K0 y0)) := by
  obtain ⟨O, hO⟩ : ∃ O, O = std 0 T G0 (Den Try.prog G0) := ⟨_, rfl⟩
  have hLO : L = O.len := by rw [hN, hO]; rfl
  subst hLO
  refine den_h hO tiA mixed tabOk (fn := Try.f130) (sh := true) (by kernel_rfl) rfl rfl rfl rfl ?_
  intro Q hQ
  unfold p130 at h
  conv => cbv
  refine br_h hO h (by subst hO; rfl) (fun hc1 h => ?_) (fun hc1 h => ?_)
  · conv => cbv
    rw [hQ]
    exact ⟨false, _, _, ⟨(by subst hO; rfl), (by subst hO; rfl)⟩, h⟩
  · conv => cbv
    refine join_all hO ?_
    conv => cbv
    refine loop_of hO tiA [0, 1, 5] [] [] (fun (n : Nat) tm m => ∃ (z1 : Int), ((tm = frame 0 26 [(0, .c (.sl 1 x0 none)), (1, .c (.sl 1 x1 none)), (5, .c (.v (.int .i64 z1)))] ∧ m = ⟨[], 1⟩)) ∧ p130_1L False fu  K0 x0 x1 n z1) (fun n => n) fu ⟨0, ⟨(by (conv => lhs; cbv) <;> (subst hO; rfl)), (by (conv => lhs; cbv) <;> (subst hO; rfl))⟩, h⟩ ?_
    rintro n1 tm m L ⟨z1, hs, h⟩ hLn1
    cases n1 with
    | zero => rw [p130_1L] at h; exact h.elim
    | succ n1 =>
      rw [p130_1L] at h
      unfold p130_1 at h
      obtain ⟨rfl, rfl⟩ := hs
      conv => cbv
      refine br_h hO h (by subst hO; rfl) (fun hc2 h => ?_) (fun hc2 h => ?_)
      · conv => cbv
        refine join_all hO ?_
        conv => cbv
        refine drawn_of hO tiA [[]] [(0, true, false), (1, true, false), (2, true, false), (3, true, false), (4, true, false), (5, true, false), (6, true, false), (7, true, false), (8, true, true)] (by kernel_rfl) ?_
        conv => cbv
        refine and_h h (fun g => (by subst hO; exact g)) (fun h => ?_)
        refine and_h h (fun g => (by subst hO; exact g)) (fun h => ?_)
        obtain ⟨c2, hr, h⟩ := rw_s_inv h
        refine elem_of hO _ (by subst hO; exact hr) ?_
        clear hr
        conv => cbv
        refine and_h h (fun g => (by subst hO; exact g)) (fun h => ?_)
        refine and_h h (fun g => (by subst hO; exact g)) (fun h => ?_)
        obtain ⟨c3, hr, h⟩ := rw_s_inv h
        refine elem_of hO _ (by subst hO; exact hr) ?_
        clear hr
        conv => cbv
        refine join_all hO ?_
        conv => cbv
        refine br_h hO h (by subst hO; rfl) (fun hc3 h => ?_) (fun hc3 h => ?_)
        · conv => cbv
          rw [hQ]
          exact ⟨false, _, _, ⟨(by subst hO; rfl), (by subst hO; rfl)⟩, h⟩
        · conv => cbv
          refine join_all hO ?_
          conv => cbv
          exact hLn1 n1 _ _ (Nat.lt_succ_self n1) ⟨binStd .add .i64 z1 1, ⟨(by (conv => lhs; cbv) <;> (subst hO; rfl)), (by (conv => lhs; cbv) <;> (subst hO; rfl))⟩, h⟩
      · conv => cbv
        rw [hQ]
        exact ⟨true, _, _, ⟨(by subst hO; rfl), (by subst hO; rfl)⟩, h⟩
end Go.Proofs.Ythncmjlcmlmnmaa

namespace Go.Proofs.Ythncmjlcmlmnmaa
open Go V
set_option maxRecDepth 100000
set_option maxHeartbeats 4000000
def p99_1 {ρ : Type} (fail : ρ) (fu : Nat)  (K0 : Bool → ρ)   (j1 : Bool) : ρ :=
  K0 j1
/-- ref24.SameReply -/
def p99 {ρ : Type} (fail : ρ) (fu : Nat)  (K0 : Bool → ρ) (x0 : Int) (x1 : Int) (x2 : Int) (x3 : Int) (x4 : Int) (x5 : Bool) (x6 : Int) (x7 : Int) (x8 : ByteArray) (x9 : EL) (x10 : EL) (x11 : Int) (x12 : EL) (x13 : Int) (x14 : Int) (x15 : Int) (x16 : Int) (x17 : Int) (x18 : Bool) (x19 : Int) (x20 : Int) (x21 : ByteArray) (x22 : EL) (x23 : EL) (x24 : Int) (x25 : EL) : ρ :=
  bif (cmpStd .eql x0 x13) then (bif ((cmpStd .eql x1 x14) && ((cmpStd .eql x2 x15) && true)) then (bif (cmpStd .eql x3 x16) then (bif (cmpStd .eql x4 x17) then (bif (x5 == x18) then (bif (cmpStd .eql x11 x24) then (p19 fail fu (fun y2 => bif y2 then (p130 fail fu (fun y3 => p99_1 fail fu  K0  y3) x12 x25) else (p99_1 fail fu  K0  false)) x6 x7 x8 x9 x10 x19 x20 x21 x22 x23) else (p99_1 fail fu  K0  false)) else (p99_1 fail fu  K0  false)) else (p99_1 fail fu  K0  false)) else (p99_1 fail fu  K0  false)) else (p99_1 fail fu  K0  false)) else (p99_1 fail fu  K0  false)
theorem d_p99 (fu : Nat)  {K0 : Bool → Prop} (L : EL → Nat) (hN : L = List.length) {x0 : Int} {x1 : Int} {x2 : Int} {x3 : Int} {x4 : Int} {x5 : Bool} {x6 : Int} {x7 : Int} {x8 : ByteArray} {x9 : EL} {x10 : EL} {x11 : Int} {x12 : EL} {x13 : Int} {x14 : Int} {x15 : Int} {x16 : Int} {x17 : Int} {x18 : Bool} {x19 : Int} {x20 : Int} {x21 : ByteArray} {x22 : EL} {x23 : EL} {x24 : Int} {x25 : EL} (h : p99 False fu K0 x0 x1 x2 x3 x4 x5 x6 x7 x8 x9 x10 x11 x12 x13 x14 x15 x16 x17 x18 x19 x20 x21 x22 x23 x24 x25) : Den Try.prog G0 99 [.agg [.c (.v (.int .i64 x0)), .c (.v (.int .u64 x1)), .c (.v (.int .u64 x2)), .c (.v (.int .i64 x3)), .c (.v (.int .i64 x4)), .c (.v (.bool x5)), .c (.v (.int .i64 x6)), .c (.v (.int .i64 x7)), .c (.v (.string x8)), .c (.sl 3 x9 none), .c (.sl 5 x10 none), .c (.v (.int .i64 x11)), .c (.sl 1 x12 none)], .agg [.c (.v (.int .i64 x13)), .c (.v (.int .u64 x14)), .c (.v (.int .u64 x15)), .c (.v (.int .i64 x16)), .c (.v (.int .i64 x17)), .c (.v (.bool x18)), .c (.v (.int .i64 x19)), .c (.v (.int .i64 x20)), .c (.v (.string x21)), .c (.sl 3 x22 none), .c (.sl 5 x23 none), .c (.v (.int .i64 x24)), .c (.sl 1 x25 none)]] (fun r bs => (∃ (y0 : Bool) (o0 : OV) (o1 : OV), (r = .c (.v (.bool y0)) ∧ bs = [o0, o1]) ∧ K0 y0)) := by
  obtain ⟨O, hO⟩ : ∃ O, O = std 0 T G0 (Den Try.prog G0) := ⟨_, rfl⟩
  have hLO : L = O.len := by rw [hN, hO]; rfl
  subst hLO
  refine den_h hO tiA mixed tabOk (fn := Try.f99) (sh := true) (by kernel_rfl) rfl rfl rfl rfl ?_
  intro Q hQ
  unfold p99 at h
  conv => cbv
  refine reg_join hO tiA [4] [] [] (fun tm m => ∃ (j1 : Bool), ((tm = frame 0 59 [(4, .c (.v (.bool j1)))] ∧ m = ⟨[], 1⟩)) ∧ p99_1 False fu  K0  j1) (fun L hL_1 => ?_) ?_
  · conv => cbv
    refine br_h hO h (by subst hO; rfl) (fun hc1 h => ?_) (fun hc1 h => ?_)
    · conv => cbv
      refine br_t hO hc1 ?_
      conv => cbv
      refine br_t hO hc1 ?_
      conv => cbv
      refine br_t hO hc1 ?_
      conv => cbv
      refine br_t hO hc1 ?_
      conv => cbv
      refine br_t hO hc1 ?_
      conv => cbv
      refine br_h hO h (by subst hO; rfl) (fun hc2 h => ?_) (fun hc2 h => ?_)
      · conv => cbv
        refine br_t hO hc2 ?_
        conv => cbv
        refine br_t hO hc2 ?_
        conv => cbv
        refine br_t hO hc2 ?_
        conv => cbv
        refine br_t hO hc2 ?_
        conv => cbv
        refine br_t hO hc2 ?_
        conv => cbv
        refine br_h hO h (by subst hO; rfl) (fun hc3 h => ?_) (fun hc3 h => ?_)
        · conv => cbv
          refine br_t hO hc3 ?_
          conv => cbv
          refine br_t hO hc3 ?_
          conv => cbv
          refine br_t hO hc3 ?_
          conv => cbv
          refine br_t hO hc3 ?_
          conv => cbv
          refine br_t hO hc3 ?_
          conv => cbv
          refine br_h hO h (by subst hO; rfl) (fun hc4 h => ?_) (fun hc4 h => ?_)
          · conv => cbv
            refine br_t hO hc4 ?_
            conv => cbv
            refine br_t hO hc4 ?_
            conv => cbv
            refine br_t hO hc4 ?_
            conv => cbv
            refine br_t hO hc4 ?_
            conv => cbv
            refine br_t hO hc4 ?_
            conv => cbv
            refine br_h hO h (by subst hO; rfl) (fun hc5 h => ?_) (fun hc5 h => ?_)
            · conv => cbv
              refine br_t hO hc5 ?_
              conv => cbv
              refine br_t hO hc5 ?_
              conv => cbv
              refine br_t hO hc5 ?_
              conv => cbv
              refine br_t hO hc5 ?_
              conv => cbv
              refine br_t hO hc5 ?_
              conv => cbv
              refine br_h hO h (by subst hO; rfl) (fun hc6 h => ?_) (fun hc6 h => ?_)
              · conv => cbv
                refine br_t hO hc6 ?_
                conv => cbv
                refine br_t hO hc6 ?_
                conv => cbv
                refine br_t hO hc6 ?_
                conv => cbv
                refine br_t hO hc6 ?_
                conv => cbv
                refine call_h hO [.shut, .shut] (d_p19 fu O.len hN h) ?_
                intro os Q hos hQ
                conv => cbv
                refine ⟨(by (rw [hos]) <;> (subst hO; rfl)), ?_⟩
                intro r bs hq
                rw [hQ] at hq
                clear hos hQ h
                obtain ⟨y2, _, _, ⟨rfl, rfl⟩, h⟩ := hq
                conv => cbv
                refine br_t hO hc6 ?_
                conv => cbv
                refine br_h hO h (by subst hO; rfl) (fun hc7 h => ?_) (fun hc7 h => ?_)
                · conv => cbv
                  refine br_t hO hc7 ?_
                  conv => cbv
                  refine br_t hO hc7 ?_
                  conv => cbv
                  refine br_t hO hc7 ?_
                  conv => cbv
                  refine br_t hO hc7 ?_
                  conv => cbv
                  refine call_h hO [.shut, .shut] (d_p130 fu O.len hN h) ?_
                  intro os Q hos hQ
                  conv => cbv
                  refine ⟨(by (rw [hos]) <;> (subst hO; rfl)), ?_⟩
                  intro r bs hq
                  rw [hQ] at hq
                  clear hos hQ h
                  obtain ⟨y3, _, _, ⟨rfl, rfl⟩, h⟩ := hq
                  conv => cbv
                  refine br_t hO hc7 ?_
                  conv => cbv
                  exact hL_1 _ _ ⟨y3, ⟨(by (conv => lhs; cbv) <;> (subst hO; rfl)), (by (conv => lhs; cbv) <;> (subst hO; rfl))⟩, h⟩
                · conv => cbv
                  refine br_f hO hc7 ?_
                  conv => cbv
                  refine br_f hO hc7 ?_
                  conv => cbv
                  refine br_f hO hc7 ?_
                  conv => cbv
                  refine br_f hO hc7 ?_
                  conv => cbv
                  refine br_f hO hc7 ?_
                  conv => cbv
                  exact hL_1 _ _ ⟨false, ⟨(by (conv => lhs; cbv) <;> (subst hO; rfl)), (by (conv => lhs; cbv) <;> (subst hO; rfl))⟩, h⟩
              · conv => cbv
                refine br_f hO hc6 ?_
                conv => cbv
                refine br_f hO hc6 ?_
                conv => cbv
                refine br_f hO hc6 ?_
                conv => cbv
                refine br_f hO hc6 ?_
                conv => cbv
                refine br_f hO hc6 ?_
                conv => cbv
                refine br_f hO rfl ?_
                conv => cbv
                refine br_f hO rfl ?_
                conv => cbv
                refine br_f hO rfl ?_
                conv => cbv
                refine br_f hO rfl ?_
                conv => cbv
                refine br_f hO rfl ?_
                conv => cbv
                refine br_f hO rfl ?_
                conv => cbv
                exact hL_1 _ _ ⟨false, ⟨(by (conv => lhs; cbv) <;> (subst hO; rfl)), (by (conv => lhs; cbv) <;> (subst hO; rfl))⟩, h⟩
            · conv => cbv
              refine br_f hO hc5 ?_
              conv => cbv
              refine br_f hO hc5 ?_
              conv => cbv
              refine br_f hO hc5 ?_
              conv => cbv
              refine br_f hO hc5 ?_
              conv => cbv
              refine br_f hO hc5 ?_
              conv => cbv
              refine br_f hO rfl ?_
              conv => cbv
              refine br_f hO rfl ?_
              conv => cbv
              refine br_f hO rfl ?_
              conv => cbv
              refine br_f hO rfl ?_
              conv => cbv
              refine br_f hO rfl ?_
              conv => cbv
              refine br_f hO rfl ?_
              conv => cbv
              refine br_f hO rfl ?_
              conv => cbv
              refine br_f hO rfl ?_
              conv => cbv
              refine br_f hO rfl ?_
              conv => cbv
              refine br_f hO rfl ?_
              conv => cbv
              refine br_f hO rfl ?_
              conv => cbv
              refine br_f hO rfl ?_
              conv => cbv
              exact hL_1 _ _ ⟨false, ⟨(by (conv => lhs; cbv) <;> (subst hO; rfl)), (by (conv => lhs; cbv) <;> (subst hO; rfl))⟩, h⟩
          · conv => cbv
            refine br_f hO hc4 ?_
            conv => cbv
            refine br_f hO hc4 ?_
            conv => cbv
            refine br_f hO hc4 ?_
            conv => cbv
            refine br_f hO hc4 ?_
            conv => cbv
            refine br_f hO hc4 ?_
            conv => cbv
            refine br_f hO rfl ?_
            conv => cbv
            refine br_f hO rfl ?_
            conv => cbv
            refine br_f hO rfl ?_
            conv => cbv
            refine br_f hO rfl ?_
            conv => cbv
            refine br_f hO rfl ?_
            conv => cbv
            refine br_f hO rfl ?_
            conv => cbv
            refine br_f hO rfl ?_
            conv => cbv
            refine br_f hO rfl ?_
            conv => cbv
            refine br_f hO rfl ?_
            conv => cbv
            refine br_f hO rfl ?_
            conv => cbv
            refine br_f hO rfl ?_
            conv => cbv
            refine br_f hO rfl ?_
            conv => cbv
            refine br_f hO rfl ?_
            conv => cbv
            refine br_f hO rfl ?_
            conv => cbv
            refine br_f hO rfl ?_
            conv => cbv
            refine br_f hO rfl ?_
            conv => cbv
            refine br_f hO rfl ?_
            conv => cbv
            refine br_f hO rfl ?_
            conv => cbv
            exact hL_1 _ _ ⟨false, ⟨(by (conv => lhs; cbv) <;> (subst hO; rfl)), (by (conv => lhs; cbv) <;> (subst hO; rfl))⟩, h⟩
        · conv => cbv
          refine br_f hO hc3 ?_
          conv => cbv
          refine br_f hO hc3 ?_
          conv => cbv
          refine br_f hO hc3 ?_
          conv => cbv
          refine br_f hO hc3 ?_
          conv => cbv
          refine br_f hO hc3 ?_
          conv => cbv
          refine br_f hO rfl ?_
          conv => cbv
          refine br_f hO rfl ?_
          conv => cbv
          refine br_f hO rfl ?_
          conv => cbv
          refine br_f hO rfl ?_
          conv => cbv
          refine br_f hO rfl ?_
          conv => cbv
          refine br_f hO rfl ?_
          conv => cbv
          refine br_f hO rfl ?_
          conv => cbv
          refine br_f hO rfl ?_
          conv => cbv
          refine br_f hO rfl ?_
          conv => cbv
          refine br_f hO rfl ?_
          conv => cbv
          refine br_f hO rfl ?_
          conv => cbv
          refine br_f hO rfl ?_
          conv => cbv
          refine br_f hO rfl ?_
          conv => cbv
          refine br_f hO rfl ?_
          conv => cbv
          refine br_f hO rfl ?_
          conv => cbv
          refine br_f hO rfl ?_
          conv => cbv
          refine br_f hO rfl ?_
          conv => cbv
          refine br_f hO rfl ?_
          conv => cbv
          refine br_f hO rfl ?_
          conv => cbv
          refine br_f hO rfl ?_
          conv => cbv
          refine br_f hO rfl ?_
          conv => cbv
          refine br_f hO rfl ?_
          conv => cbv
          refine br_f hO rfl ?_
          conv => cbv
          refine br_f hO rfl ?_
          conv => cbv
          exact hL_1 _ _ ⟨false, ⟨(by (conv => lhs; cbv) <;> (subst hO; rfl)), (by (conv => lhs; cbv) <;> (subst hO; rfl))⟩, h⟩
      · conv => cbv
        refine br_f hO hc2 ?_
        conv => cbv
        refine br_f hO hc2 ?_
        conv => cbv
        refine br_f hO hc2 ?_
        conv => cbv
        refine br_f hO hc2 ?_
        conv => cbv
        refine br_f hO hc2 ?_
        conv => cbv
        refine br_f hO rfl ?_
        conv => cbv
        refine br_f hO rfl ?_
        conv => cbv
        refine br_f hO rfl ?_
        conv => cbv
        refine br_f hO rfl ?_
        conv => cbv
        refine br_f hO rfl ?_
        conv => cbv
        refine br_f hO rfl ?_
        conv => cbv
        refine br_f hO rfl ?_
        conv => cbv
        refine br_f hO rfl ?_
        conv => cbv
        refine br_f hO rfl ?_
        conv => cbv
        refine br_f hO rfl ?_
        conv => cbv
        refine br_f hO rfl ?_
        conv => cbv
        refine br_f hO rfl ?_
        conv => cbv
        refine br_f hO rfl ?_
        conv => cbv
        refine br_f hO rfl ?_
        conv => cbv
        refine br_f hO rfl ?_
        conv => cbv
        refine br_f hO rfl ?_
        conv => cbv
        refine br_f hO rfl ?_
        conv => cbv
        refine br_f hO rfl ?_
        conv => cbv
        refine br_f hO rfl ?_
        conv => cbv
        refine br_f hO rfl ?_
        conv => cbv
        refine br_f hO rfl ?_
        conv => cbv
        refine br_f hO rfl ?_
        conv => cbv
        refine br_f hO rfl ?_
        conv => cbv
        refine br_f hO rfl ?_
        conv => cbv
        refine br_f hO rfl ?_
        conv => cbv
        refine br_f hO rfl ?_
        conv => cbv
        refine br_f hO rfl ?_
        conv => cbv
        refine br_f hO rfl ?_
        conv => cbv
        refine br_f hO rfl ?_
        conv => cbv
        refine br_f hO rfl ?_
        conv => cbv
        exact hL_1 _ _ ⟨false, ⟨(by (conv => lhs; cbv) <;> (subst hO; rfl)), (by (conv => lhs; cbv) <;> (subst hO; rfl))⟩, h⟩
    · conv => cbv
      refine br_f hO hc1 ?_
      conv => cbv
      refine br_f hO hc1 ?_
      conv => cbv
      refine br_f hO hc1 ?_
      conv => cbv
      refine br_f hO hc1 ?_
      conv => cbv
      refine br_f hO hc1 ?_
      conv => cbv
      refine br_f hO rfl ?_
      conv => cbv
      refine br_f hO rfl ?_
      conv => cbv
      refine br_f hO rfl ?_
      conv => cbv
      refine br_f hO rfl ?_
      conv => cbv
      refine br_f hO rfl ?_
      conv => cbv
      refine br_f hO rfl ?_
      conv => cbv
      refine br_f hO rfl ?_
      conv => cbv
      refine br_f hO rfl ?_
      conv => cbv
      refine br_f hO rfl ?_
      conv => cbv
      refine br_f hO rfl ?_
      conv => cbv
      refine br_f hO rfl ?_
      conv => cbv
      refine br_f hO rfl ?_
      conv => cbv
      refine br_f hO rfl ?_
      conv => cbv
      refine br_f hO rfl ?_
      conv => cbv
      refine br_f hO rfl ?_
      conv => cbv
      refine br_f hO rfl ?_
      conv => cbv
      refine br_f hO rfl ?_
      conv => cbv
      refine br_f hO rfl ?_
      conv => cbv
      refine br_f hO rfl ?_
      conv => cbv
      refine br_f hO rfl ?_
      conv => cbv
      refine br_f hO rfl ?_
      conv => cbv
      refine br_f hO rfl ?_
      conv => cbv
      refine br_f hO rfl ?_
      conv => cbv
      refine br_f hO rfl ?_
      conv => cbv
      refine br_f hO rfl ?_
      conv => cbv
      refine br_f hO rfl ?_
      conv => cbv
      refine br_f hO rfl ?_
      conv => cbv
      refine br_f hO rfl ?_
      conv => cbv
      refine br_f hO rfl ?_
      conv => cbv
      refine br_f hO rfl ?_
      conv => cbv
      refine br_f hO rfl ?_
      conv => cbv
      refine br_f hO rfl ?_
      conv => cbv
      refine br_f hO rfl ?_
      conv => cbv
      refine br_f hO rfl ?_
      conv => cbv
      refine br_f hO rfl ?_
      conv => cbv
      refine br_f hO rfl ?_
      conv => cbv
      exact hL_1 _ _ ⟨false, ⟨(by (conv => lhs; cbv) <;> (subst hO; rfl)), (by (conv => lhs; cbv) <;> (subst hO; rfl))⟩, h⟩
  · rintro tm m ⟨j1, hs, h⟩
    unfold p99_1 at h
    obtain ⟨rfl, rfl⟩ := hs
    conv => cbv
    rw [hQ]
    exact ⟨j1, _, _, ⟨(by subst hO; rfl), (by subst hO; rfl)⟩, h⟩
end Go.Proofs.Ythncmjlcmlmnmaa

namespace Go.Proofs.Ythncmjlcmlmnmaa
open Go V
set_option maxRecDepth 100000
set_option maxHeartbeats 4000000
/-- ref25.SameReply -/
def p47 {ρ : Type} (fail : ρ) (fu : Nat)  (K0 : Bool → ρ) (x0 : Int) (x1 : Int) (x2 : Int) (x3 : Int) (x4 : Int) (x5 : Bool) (x6 : Int) (x7 : Int) (x8 : ByteArray) (x9 : EL) (x10 : EL) (x11 : Int) (x12 : EL) (x13 : Int) (x14 : Int) (x15 : Int) (x16 : Int) (x17 : Int) (x18 : Bool) (x19 : Int) (x20 : Int) (x21 : ByteArray) (x22 : EL) (x23 : EL) (x24 : Int) (x25 : EL) : ρ :=
  p99 fail fu (fun y1 => K0 y1) x0 x1 x2 x3 x4 x5 x6 x7 x8 x9 x10 x11 x12 x13 x14 x15 x16 x17 x18 x19 x20 x21 x22 x23 x24 x25
theorem d_p47 (fu : Nat)  {K0 : Bool → Prop} (L : EL → Nat) (hN : L = List.length) {x0 : Int} {x1 : Int} {x2 : Int} {x3 : Int} {x4 : Int} {x5 : Bool} {x6 : Int} {x7 : Int} {x8 : ByteArray} {x9 : EL} {x10 : EL} {x11 : Int} {x12 : EL} {x13 : Int} {x14 : Int} {x15 : Int} {x16 : Int} {x17 : Int} {x18 : Bool} {x19 : Int} {x20 : Int} {x21 : ByteArray} {x22 : EL} {x23 : EL} {x24 : Int} {x25 : EL} (h : p47 False fu K0 x0 x1 x2 x3 x4 x5 x6 x7 x8 x9 x10 x11 x12 x13 x14 x15 x16 x17 x18 x19 x20 x21 x22 x23 x24 x25) : Den Try.prog G0 47 [.agg [.c (.v (.int .i64 x0)), .c (.v (.int .u64 x1)), .c (.v (.int .u64 x2)), .c (.v (.int .i64 x3)), .c (.v (.int .i64 x4)), .c (.v (.bool x5)), .c (.v (.int .i64 x6)), .c (.v (.int .i64 x7)), .c (.v (.string x8)), .c (.sl 3 x9 none), .c (.sl 5 x10 none), .c (.v (.int .i64 x11)), .c (.sl 1 x12 none)], .agg [.c (.v (.int .i64 x13)), .c (.v (.int .u64 x14)), .c (.v (.int .u64 x15)), .c (.v (.int .i64 x16)), .c (.v (.int .i64 x17)), .c (.v (.bool x18)), .c (.v (.int .i64 x19)), .c (.v (.int .i64 x20)), .c (.v (.string x21)), .c (.sl 3 x22 none), .c (.sl 5 x23 none), .c (.v (.int .i64 x24)), .c (.sl 1 x25 none)]] (fun r bs => (∃ (y0 : Bool) (o0 : OV) (o1 : OV), (r = .c (.v (.bool y0)) ∧ bs = [o0, o1]) ∧ K0 y0)) := by
  obtain ⟨O, hO⟩ : ∃ O, O = std 0 T G0 (Den Try.prog G0) := ⟨_, rfl⟩
  have hLO : L = O.len := by rw [hN, hO]; rfl
  subst hLO
  refine den_h hO tiA mixed tabOk (fn := Try.f47) (sh := true) (by kernel_rfl) rfl rfl rfl rfl ?_
  intro Q hQ
  unfold p47 at h
  conv => cbv
  refine call_h hO [.shut, .shut] (d_p99 fu O.len hN h) ?_
  intro os Q hos hQ
  conv => cbv
  refine ⟨(by (rw [hos]) <;> (subst hO; rfl)), ?_⟩
  intro r bs hq
  rw [hQ] at hq
  clear hos hQ h
  obtain ⟨y1, _, _, ⟨rfl, rfl⟩, h⟩ := hq
  conv => cbv
  rw [hQ]
  exact ⟨y1, _, _, ⟨(by subst hO; rfl), (by subst hO; rfl)⟩, h⟩
end Go.Proofs.Ythncmjlcmlmnmaa
