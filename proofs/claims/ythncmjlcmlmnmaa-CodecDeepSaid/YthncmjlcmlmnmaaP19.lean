/- Functions without memory, and that the Go functions are followed by them. Printed by gen.py. Conditions: none. -/
import Derived.Test.YthncmjlcmlmnmaaP18
namespace Go.Proofs.Ythncmjlcmlmnmaa
open Go V
set_option maxRecDepth 100000
set_option maxHeartbeats 4000000
def p37_1 {ρ : Type} (fail : ρ) (fu : Nat) (s_p37 : (Bool → ρ) → Int → Int → EL → Int → Int → EL → ρ) (K0 : Bool → ρ) (rec1 : Int → ρ) (x2 : EL) (x5 : EL) (z2 : Int) : ρ :=
  bif (cmpStd .lss z2 ((x2.length : Nat) : Int)) then (gd ((0 : Int) ≤ z2) fail (gd ((z2 : Int) < (x2.length : Nat)) fail (rw_i64_i64_l3 fail (List.getD x2 ((z2 : Int).toNat) []) (fun c3 c4 c5 => gd ((0 : Int) ≤ z2) fail (gd ((z2 : Int) < (x5.length : Nat)) fail (rw_i64_i64_l3 fail (List.getD x5 ((z2 : Int).toNat) []) (fun c6 c7 c8 => s_p37 (fun y9 => bif (!y9) then (K0 false) else (rec1 (binStd .add .i64 z2 1))) c3 c4 c5 c6 c7 c8))))))) else (K0 true)
def p37_1L {ρ : Type} (fail : ρ) (fu : Nat) (s_p37 : (Bool → ρ) → Int → Int → EL → Int → Int → EL → ρ) (K0 : Bool → ρ)  (x2 : EL) (x5 : EL) : Nat → Int → ρ
  | 0, _ => fail
  | n + 1, z2 => p37_1 fail fu s_p37 K0 (p37_1L fail fu s_p37 K0  x2 x5 n) x2 x5 z2
def p37_2 {ρ : Type} (fail : ρ) (fu : Nat) (s_p37 : (Bool → ρ) → Int → Int → EL → Int → Int → EL → ρ) (K0 : Bool → ρ)  (x2 : EL) (x5 : EL) (j1 : Bool) : ρ :=
  bif j1 then (K0 false) else (p37_1L fail fu s_p37 K0 x2 x5 fu 0)
/-- ref4.Equal -/
def p37_b {ρ : Type} (fail : ρ) (fu : Nat) (s_p37 : (Bool → ρ) → Int → Int → EL → Int → Int → EL → ρ) (K0 : Bool → ρ) (x0 : Int) (x1 : Int) (x2 : EL) (x3 : Int) (x4 : Int) (x5 : EL) : ρ :=
  bif (cmpStd .neq x0 x3) then (p37_2 fail fu s_p37 K0 x2 x5 true) else (bif (cmpStd .neq x1 x4) then (p37_2 fail fu s_p37 K0 x2 x5 true) else (p37_2 fail fu s_p37 K0 x2 x5 (cmpStd .neq ((x2.length : Nat) : Int) ((x5.length : Nat) : Int))))
def p37 {ρ : Type} (fail : ρ) : Nat → (Bool → ρ) → Int → Int → EL → Int → Int → EL → ρ
  | 0, _, _, _, _, _, _, _ => fail
  | n + 1, K0, x0, x1, x2, x3, x4, x5 => p37_b fail n (p37 fail n) K0 x0 x1 x2 x3 x4 x5
def D_p37 (fu : Nat) : Prop := ∀ {K0 : Bool → Prop} (L : EL → Nat) (_ : L = List.length) {x0 : Int} {x1 : Int} {x2 : EL} {x3 : Int} {x4 : Int} {x5 : EL} (_ : p37 False fu K0 x0 x1 x2 x3 x4 x5), Den Try.prog G0 37 [.agg [.c (.v (.int .i64 x0)), .c (.v (.int .i64 x1)), .c (.sl 3 x2 none)], .agg [.c (.v (.int .i64 x3)), .c (.v (.int .i64 x4)), .c (.sl 3 x5 none)]] (fun r bs => (∃ (y0 : Bool) (o0 : OV) (o1 : OV), (r = .c (.v (.bool y0)) ∧ bs = [o0, o1]) ∧ K0 y0))
theorem b_p37 (fu : Nat) (ih_p37 : D_p37 fu) {K0 : Bool → Prop} (L : EL → Nat) (hN : L = List.length) {x0 : Int} {x1 : Int} {x2 : EL} {x3 : Int} {x4 : Int} {x5 : EL} (h : p37_b False fu (p37 False fu) K0 x0 x1 x2 x3 x4 x5) : Den Try.prog G0 37 [.agg [.c (.v (.int .i64 x0)), .c (.v (.int .i64 x1)), .c (.sl 3 x2 none)], .agg [.c (.v (.int .i64 x3)), .c (.v (.int .i64 x4)), .c (.sl 3 x5 none)]] (fun r bs => (∃ (y0 : Bool) (o0 : OV) (o1 : OV), (r = .c (.v (.bool y0)) ∧ bs = [o0, o1]) ∧ K0 y0)) := by
  obtain ⟨O, hO⟩ : ∃ O, O = std 0 T G0 (Den Try.prog G0) := ⟨_, rfl⟩
  have hLO : L = O.len := by rw [hN, hO]; rfl
  subst hLO
  refine den_h hO tiA mixed tabOk (fn := Try.f37) (sh := true) (by kernel_rfl) rfl rfl rfl rfl ?_
  intro Q hQ
  unfold p37_b at h
  conv => cbv
  refine reg_join hO tiA [2, 3, 26] [3000, 4000] [] (fun tm m => ∃ (j1 : Bool), ((tm = frame 0 46 [(2, .p 3000 0 0), (3, .p 4000 0 0), (26, .c (.v (.bool j1)))] ∧ m = ⟨[(3000, .blk 0 [.c (.v (.int .i64 x0)), .c (.v (.int .i64 x1)), .c (.sl 3 x2 none)]), (4000, .blk 0 [.c (.v (.int .i64 x3)), .c (.v (.int .i64 x4)), .c (.sl 3 x5 none)])], 1⟩)) ∧ p37_2 False fu (p37 False fu) K0 x2 x5 j1) (fun L hL_2 => ?_) ?_
  · conv => cbv
    refine br_h hO h (by subst hO; rfl) (fun hc4 h => ?_) (fun hc4 h => ?_)
    · conv => cbv
      refine br_t hO hc4 ?_
      conv => cbv
      refine br_t hO hc4 ?_
      conv => cbv
      refine br_t hO hc4 ?_
      conv => cbv
      refine br_t hO hc4 ?_
      conv => cbv
      refine br_t hO hc4 ?_
      conv => cbv
      refine br_t hO rfl ?_
      conv => cbv
      refine br_t hO rfl ?_
      conv => cbv
      refine br_t hO rfl ?_
      conv => cbv
      refine br_t hO rfl ?_
      conv => cbv
      refine br_t hO rfl ?_
      conv => cbv
      refine br_t hO rfl ?_
      conv => cbv
      refine br_t hO rfl ?_
      conv => cbv
      refine br_t hO rfl ?_
      conv => cbv
      exact hL_2 _ _ ⟨true, ⟨(by (conv => lhs; cbv) <;> (subst hO; rfl)), (by (conv => lhs; cbv) <;> (subst hO; rfl))⟩, h⟩
    · conv => cbv
      refine br_f hO hc4 ?_
      conv => cbv
      refine br_f hO hc4 ?_
      conv => cbv
      refine br_f hO hc4 ?_
      conv => cbv
      refine br_f hO hc4 ?_
      conv => cbv
      refine br_f hO hc4 ?_
      conv => cbv
      refine br_h hO h (by subst hO; rfl) (fun hc5 h => ?_) (fun hc5 h => ?_)
      · conv => cbv
        refine br_t hO hc5 ?_
        conv => cbv
        refine br_t hO hc5 ?_
        conv => cbv
        refine br_t hO hc5 ?_
        conv => cbv
        refine br_t hO hc5 ?_
        conv => cbv
        refine br_t hO hc5 ?_
        conv => cbv
        refine br_t hO hc5 ?_
        conv => cbv
        refine br_t hO hc5 ?_
        conv => cbv
        exact hL_2 _ _ ⟨true, ⟨(by (conv => lhs; cbv) <;> (subst hO; rfl)), (by (conv => lhs; cbv) <;> (subst hO; rfl))⟩, h⟩
      · conv => cbv
        refine br_f hO hc5 ?_
        conv => cbv
        refine br_f hO hc5 ?_
        conv => cbv
        refine br_f hO hc5 ?_
        conv => cbv
        refine br_f hO hc5 ?_
        conv => cbv
        refine br_f hO hc5 ?_
        conv => cbv
        refine br_f hO hc5 ?_
        conv => cbv
        refine br_f hO hc5 ?_
        conv => cbv
        exact hL_2 _ _ ⟨(cmpStd .neq ((x2.length : Nat) : Int) ((x5.length : Nat) : Int)), ⟨(by (conv => lhs; cbv) <;> (subst hO; rfl)), (by (conv => lhs; cbv) <;> (subst hO; rfl))⟩, h⟩
  · rintro tm m ⟨j1, hs, h⟩
    unfold p37_2 at h
    obtain ⟨rfl, rfl⟩ := hs
    conv => cbv
    refine br_h hO h (by subst hO; rfl) (fun hc1 h => ?_) (fun hc1 h => ?_)
    · conv => cbv
      rw [hQ]
      exact ⟨false, _, _, ⟨(by subst hO; rfl), (by subst hO; rfl)⟩, h⟩
    · conv => cbv
      refine join_all hO ?_
      conv => cbv
      refine loop_of hO tiA [2, 3, 5] [3000, 4000] [] (fun (n : Nat) tm m => ∃ (z2 : Int), ((tm = frame 0 46 [(2, .p 3000 0 0), (3, .p 4000 0 0), (5, .c (.v (.int .i64 z2)))] ∧ m = ⟨[(3000, .blk 0 [.c (.v (.int .i64 x0)), .c (.v (.int .i64 x1)), .c (.sl 3 x2 none)]), (4000, .blk 0 [.c (.v (.int .i64 x3)), .c (.v (.int .i64 x4)), .c (.sl 3 x5 none)])], 1⟩)) ∧ p37_1L False fu (p37 False fu) K0 x2 x5 n z2) (fun n => n) fu ⟨0, ⟨(by (conv => lhs; cbv) <;> (subst hO; rfl)), (by (conv => lhs; cbv) <;> (subst hO; rfl))⟩, h⟩ ?_
      rintro n1 tm m L ⟨z2, hs, h⟩ hLn1
      cases n1 with
      | zero => rw [p37_1L] at h; exact h.elim
      | succ n1 =>
        rw [p37_1L] at h
        unfold p37_1 at h
        obtain ⟨rfl, rfl⟩ := hs
        conv => cbv
        refine br_h hO h (by subst hO; rfl) (fun hc2 h => ?_) (fun hc2 h => ?_)
        · conv => cbv
          refine join_all hO ?_
          conv => cbv
          refine drawn_of hO tiA [] [(0, true, false), (1, true, false), (2, true, false), (3, true, false), (4, true, false), (5, true, false), (6, true, false), (7, true, false), (8, true, false), (9, true, false), (10, false, false), (11, true, false)] (by kernel_rfl) ?_
          conv => cbv
          refine and_h h (fun g => (by subst hO; exact g)) (fun h => ?_)
          refine and_h h (fun g => (by subst hO; exact g)) (fun h => ?_)
          obtain ⟨c3, c4, c5, hr, h⟩ := rw_i64_i64_l3_inv h
          refine elem_of hO _ (by subst hO; exact hr) ?_
          clear hr
          conv => cbv
          refine and_h h (fun g => (by subst hO; exact g)) (fun h => ?_)
          refine and_h h (fun g => (by subst hO; exact g)) (fun h => ?_)
          obtain ⟨c6, c7, c8, hr, h⟩ := rw_i64_i64_l3_inv h
          refine elem_of hO _ (by subst hO; exact hr) ?_
          clear hr
          conv => cbv
          refine call_h hO [.shut, .shut] (ih_p37 O.len hN h) ?_
          intro os Q hos hQ
          conv => cbv
          refine ⟨(by (rw [hos]) <;> (subst hO; rfl)), ?_⟩
          intro r bs hq
          rw [hQ] at hq
          clear hos hQ h
          obtain ⟨y9, _, _, ⟨rfl, rfl⟩, h⟩ := hq
          conv => cbv
          refine ⟨agree_of hO (Nat.le_of_ble_eq_true rfl) rfl, ?_⟩
          refine join_all hO ?_
          conv => cbv
          refine br_h hO h (by subst hO; rfl) (fun hc3 h => ?_) (fun hc3 h => ?_)
          · conv => cbv
            rw [hQ]
            exact ⟨false, _, _, ⟨(by subst hO; rfl), (by subst hO; rfl)⟩, h⟩
          · conv => cbv
            refine join_all hO ?_
            conv => cbv
            exact hLn1 n1 _ _ (Nat.lt_succ_self n1) ⟨binStd .add .i64 z2 1, ⟨(by (conv => lhs; cbv) <;> (subst hO; rfl)), (by (conv => lhs; cbv) <;> (subst hO; rfl))⟩, h⟩
        · conv => cbv
          rw [hQ]
          exact ⟨true, _, _, ⟨(by subst hO; rfl), (by subst hO; rfl)⟩, h⟩
theorem dd_p37 (fu : Nat) : D_p37 fu := by
  induction fu with
  | zero => unfold D_p37; intros; rename_i h; rw [p37] at h; exact h.elim
  | succ n ih =>
    exact (by unfold D_p37; intro K0 L hN x0 x1 x2 x3 x4 x5 h; exact b_p37 n ih L hN (by rw [p37] at h; exact h))
theorem d_p37 (fu : Nat) {K0 : Bool → Prop} (L : EL → Nat) (hL : L = List.length) {x0 : Int} {x1 : Int} {x2 : EL} {x3 : Int} {x4 : Int} {x5 : EL} (h : p37 False fu K0 x0 x1 x2 x3 x4 x5) : Den Try.prog G0 37 [.agg [.c (.v (.int .i64 x0)), .c (.v (.int .i64 x1)), .c (.sl 3 x2 none)], .agg [.c (.v (.int .i64 x3)), .c (.v (.int .i64 x4)), .c (.sl 3 x5 none)]] (fun r bs => (∃ (y0 : Bool) (o0 : OV) (o1 : OV), (r = .c (.v (.bool y0)) ∧ bs = [o0, o1]) ∧ K0 y0)) := dd_p37 fu L hL h
end Go.Proofs.Ythncmjlcmlmnmaa
