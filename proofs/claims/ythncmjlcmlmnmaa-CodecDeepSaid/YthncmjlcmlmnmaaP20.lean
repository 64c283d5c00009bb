/- Functions without memory, and that the Go functions are followed by them. Printed by gen.py. Conditions: none. -/
import Derived.Test.YthncmjlcmlmnmaaP19
namespace Go.Proofs.Ythncmjlcmlmnmaa
open Go V
set_option maxRecDepth 100000
set_option maxHeartbeats 4000000
def p19_1 {ρ : Type} (fail : ρ) (fu : Nat) (s_p19 : (Bool → ρ) → Int → Int → ByteArray → EL → EL → Int → Int → ByteArray → EL → EL → ρ) (K0 : Bool → ρ) (rec2 : Int → ρ) (x4 : EL) (x9 : EL) (z10 : Int) : ρ :=
  bif (cmpStd .lss z10 ((x4.length : Nat) : Int)) then (gd ((0 : Int) ≤ z10) fail (gd ((z10 : Int) < (x4.length : Nat)) fail (rw_i64_i64_s_l3_l5 fail (List.getD x4 ((z10 : Int).toNat) []) (fun c11 c12 c13 c14 c15 => gd ((0 : Int) ≤ z10) fail (gd ((z10 : Int) < (x9.length : Nat)) fail (rw_i64_i64_s_l3_l5 fail (List.getD x9 ((z10 : Int).toNat) []) (fun c16 c17 c18 c19 c20 => s_p19 (fun y21 => bif (!y21) then (K0 false) else (rec2 (binStd .add .i64 z10 1))) c11 c12 c13 c14 c15 c16 c17 c18 c19 c20))))))) else (K0 true)
def p19_1L {ρ : Type} (fail : ρ) (fu : Nat) (s_p19 : (Bool → ρ) → Int → Int → ByteArray → EL → EL → Int → Int → ByteArray → EL → EL → ρ) (K0 : Bool → ρ)  (x4 : EL) (x9 : EL) : Nat → Int → ρ
  | 0, _ => fail
  | n + 1, z10 => p19_1 fail fu s_p19 K0 (p19_1L fail fu s_p19 K0  x4 x9 n) x4 x9 z10
def p19_2 {ρ : Type} (fail : ρ) (fu : Nat) (s_p19 : (Bool → ρ) → Int → Int → ByteArray → EL → EL → Int → Int → ByteArray → EL → EL → ρ) (K0 : Bool → ρ) (rec1 : Int → ρ) (x3 : EL) (x4 : EL) (x8 : EL) (x9 : EL) (z2 : Int) : ρ :=
  bif (cmpStd .lss z2 ((x3.length : Nat) : Int)) then (gd ((0 : Int) ≤ z2) fail (gd ((z2 : Int) < (x3.length : Nat)) fail (rw_i64_i64_l3 fail (List.getD x3 ((z2 : Int).toNat) []) (fun c3 c4 c5 => gd ((0 : Int) ≤ z2) fail (gd ((z2 : Int) < (x8.length : Nat)) fail (rw_i64_i64_l3 fail (List.getD x8 ((z2 : Int).toNat) []) (fun c6 c7 c8 => p37 fail fu (fun y9 => bif (!y9) then (K0 false) else (rec1 (binStd .add .i64 z2 1))) c3 c4 c5 c6 c7 c8))))))) else (p19_1L fail fu s_p19 K0 x4 x9 fu 0)
def p19_2L {ρ : Type} (fail : ρ) (fu : Nat) (s_p19 : (Bool → ρ) → Int → Int → ByteArray → EL → EL → Int → Int → ByteArray → EL → EL → ρ) (K0 : Bool → ρ)  (x3 : EL) (x4 : EL) (x8 : EL) (x9 : EL) : Nat → Int → ρ
  | 0, _ => fail
  | n + 1, z2 => p19_2 fail fu s_p19 K0 (p19_2L fail fu s_p19 K0  x3 x4 x8 x9 n) x3 x4 x8 x9 z2
def p19_3 {ρ : Type} (fail : ρ) (fu : Nat) (s_p19 : (Bool → ρ) → Int → Int → ByteArray → EL → EL → Int → Int → ByteArray → EL → EL → ρ) (K0 : Bool → ρ)  (x3 : EL) (x4 : EL) (x8 : EL) (x9 : EL) (j1 : Bool) : ρ :=
  bif j1 then (K0 false) else (p19_2L fail fu s_p19 K0 x3 x4 x8 x9 fu 0)
/-- ref5.Equal -/
def p19_b {ρ : Type} (fail : ρ) (fu : Nat) (s_p19 : (Bool → ρ) → Int → Int → ByteArray → EL → EL → Int → Int → ByteArray → EL → EL → ρ) (K0 : Bool → ρ) (x0 : Int) (x1 : Int) (x2 : ByteArray) (x3 : EL) (x4 : EL) (x5 : Int) (x6 : Int) (x7 : ByteArray) (x8 : EL) (x9 : EL) : ρ :=
  bif (cmpStd .neq x0 x5) then (p19_3 fail fu s_p19 K0 x3 x4 x8 x9 true) else (bif (cmpStd .neq x1 x6) then (p19_3 fail fu s_p19 K0 x3 x4 x8 x9 true) else (bif (scmpStd .neq x2 x7) then (p19_3 fail fu s_p19 K0 x3 x4 x8 x9 true) else (bif (cmpStd .neq ((x3.length : Nat) : Int) ((x8.length : Nat) : Int)) then (p19_3 fail fu s_p19 K0 x3 x4 x8 x9 true) else (p19_3 fail fu s_p19 K0 x3 x4 x8 x9 (cmpStd .neq ((x4.length : Nat) : Int) ((x9.length : Nat) : Int))))))
def p19 {ρ : Type} (fail : ρ) : Nat → (Bool → ρ) → Int → Int → ByteArray → EL → EL → Int → Int → ByteArray → EL → EL → ρ
  | 0, _, _, _, _, _, _, _, _, _, _, _ => fail
  | n + 1, K0, x0, x1, x2, x3, x4, x5, x6, x7, x8, x9 => p19_b fail n (p19 fail n) K0 x0 x1 x2 x3 x4 x5 x6 x7 x8 x9
def D_p19 (fu : Nat) : Prop := ∀ {K0 : Bool → Prop} (L : EL → Nat) (_ : L = List.length) {x0 : Int} {x1 : Int} {x2 : ByteArray} {x3 : EL} {x4 : EL} {x5 : Int} {x6 : Int} {x7 : ByteArray} {x8 : EL} {x9 : EL} (_ : p19 False fu K0 x0 x1 x2 x3 x4 x5 x6 x7 x8 x9), Den Try.prog G0 19 [.agg [.c (.v (.int .i64 x0)), .c (.v (.int .i64 x1)), .c (.v (.string x2)), .c (.sl 3 x3 none), .c (.sl 5 x4 none)], .agg [.c (.v (.int .i64 x5)), .c (.v (.int .i64 x6)), .c (.v (.string x7)), .c (.sl 3 x8 none), .c (.sl 5 x9 none)]] (fun r bs => (∃ (y0 : Bool) (o0 : OV) (o1 : OV), (r = .c (.v (.bool y0)) ∧ bs = [o0, o1]) ∧ K0 y0))
theorem b_p19 (fu : Nat) (ih_p19 : D_p19 fu) {K0 : Bool → Prop} (L : EL → Nat) (hN : L = List.length) {x0 : Int} {x1 : Int} {x2 : ByteArray} {x3 : EL} {x4 : EL} {x5 : Int} {x6 : Int} {x7 : ByteArray} {x8 : EL} {x9 : EL} (h : p19_b False fu (p19 False fu) K0 x0 x1 x2 x3 x4 x5 x6 x7 x8 x9) : Den Try.prog G0 19 [.agg [.c (.v (.int .i64 x0)), .c (.v (.int .i64 x1)), .c (.v (.string x2)), .c (.sl 3 x3 none), .c (.sl 5 x4 none)], .agg [.c (.v (.int .i64 x5)), .c (.v (.int .i64 x6)), .c (.v (.string x7)), .c (.sl 3 x8 none), .c (.sl 5 x9 none)]] (fun r bs => (∃ (y0 : Bool) (o0 : OV) (o1 : OV), (r = .c (.v (.bool y0)) ∧ bs = [o0, o1]) ∧ K0 y0)) := by
  obtain ⟨O, hO⟩ : ∃ O, O = std 0 T G0 (Den Try.prog G0) := ⟨_, rfl⟩
  have hLO : L = O.len := by rw [hN, hO]; rfl
  subst hLO
  refine den_h hO tiA mixed tabOk (fn := Try.f19) (sh := true) (by kernel_rfl) rfl rfl rfl rfl ?_
  intro Q hQ
  unfold p19_b at h
  conv => cbv
  refine reg_join hO tiA [2, 3, 43] [3000, 4000] [] (fun tm m => ∃ (j1 : Bool), ((tm = frame 0 82 [(2, .p 3000 0 0), (3, .p 4000 0 0), (43, .c (.v (.bool j1)))] ∧ m = ⟨[(3000, .blk 0 [.c (.v (.int .i64 x0)), .c (.v (.int .i64 x1)), .c (.v (.string x2)), .c (.sl 3 x3 none), .c (.sl 5 x4 none)]), (4000, .blk 0 [.c (.v (.int .i64 x5)), .c (.v (.int .i64 x6)), .c (.v (.string x7)), .c (.sl 3 x8 none), .c (.sl 5 x9 none)])], 1⟩)) ∧ p19_3 False fu (p19 False fu) K0 x3 x4 x8 x9 j1) (fun L hL_3 => ?_) ?_
  · conv => cbv
    refine br_h hO h (by subst hO; rfl) (fun hc6 h => ?_) (fun hc6 h => ?_)
    · conv => cbv
      refine br_t hO hc6 ?_
      conv => cbv
      refine br_t hO hc6 ?_
      conv => cbv
      refine br_t hO hc6 ?_
      conv => cbv
      refine br_t hO hc6 ?_
      conv => cbv
      refine br_t hO hc6 ?_
      conv => cbv
      refine br_t hO rfl ?_
      conv => cbv
      refine br_t hO rfl ?_
      conv => cbv
      refine br_t hO rfl ?_
      conv => cbv
      refine br_t hO rfl ?_
      conv => cbv
      refine br_t hO rfl ?_
      conv => cbv
      refine br_t hO rfl ?_
      conv => cbv
      refine br_t hO rfl ?_
      conv => cbv
      refine br_t hO rfl ?_
      conv => cbv
      refine br_t hO rfl ?_
      conv => cbv
      refine br_t hO rfl ?_
      conv => cbv
      refine br_t hO rfl ?_
      conv => cbv
      refine br_t hO rfl ?_
      conv => cbv
      refine br_t hO rfl ?_
      conv => cbv
      refine br_t hO rfl ?_
      conv => cbv
      refine br_t hO rfl ?_
      conv => cbv
      refine br_t hO rfl ?_
      conv => cbv
      refine br_t hO rfl ?_
      conv => cbv
      refine br_t hO rfl ?_
      conv => cbv
      refine br_t hO rfl ?_
      conv => cbv
      refine br_t hO rfl ?_
      conv => cbv
      refine br_t hO rfl ?_
      conv => cbv
      refine br_t hO rfl ?_
      conv => cbv
      exact hL_3 _ _ ⟨true, ⟨(by (conv => lhs; cbv) <;> (subst hO; rfl)), (by (conv => lhs; cbv) <;> (subst hO; rfl))⟩, h⟩
    · conv => cbv
      refine br_f hO hc6 ?_
      conv => cbv
      refine br_f hO hc6 ?_
      conv => cbv
      refine br_f hO hc6 ?_
      conv => cbv
      refine br_f hO hc6 ?_
      conv => cbv
      refine br_f hO hc6 ?_
      conv => cbv
      refine br_h hO h (by subst hO; rfl) (fun hc7 h => ?_) (fun hc7 h => ?_)
      · conv => cbv
        refine br_t hO hc7 ?_
        conv => cbv
        refine br_t hO hc7 ?_
        conv => cbv
        refine br_t hO hc7 ?_
        conv => cbv
        refine br_t hO hc7 ?_
        conv => cbv
        refine br_t hO hc7 ?_
        conv => cbv
        refine br_t hO rfl ?_
        conv => cbv
        refine br_t hO rfl ?_
        conv => cbv
        refine br_t hO rfl ?_
        conv => cbv
        refine br_t hO rfl ?_
        conv => cbv
        refine br_t hO rfl ?_
        conv => cbv
        refine br_t hO rfl ?_
        conv => cbv
        refine br_t hO rfl ?_
        conv => cbv
        refine br_t hO rfl ?_
        conv => cbv
        refine br_t hO rfl ?_
        conv => cbv
        refine br_t hO rfl ?_
        conv => cbv
        refine br_t hO rfl ?_
        conv => cbv
        refine br_t hO rfl ?_
        conv => cbv
        refine br_t hO rfl ?_
        conv => cbv
        refine br_t hO rfl ?_
        conv => cbv
        refine br_t hO rfl ?_
        conv => cbv
        refine br_t hO rfl ?_
        conv => cbv
        exact hL_3 _ _ ⟨true, ⟨(by (conv => lhs; cbv) <;> (subst hO; rfl)), (by (conv => lhs; cbv) <;> (subst hO; rfl))⟩, h⟩
      · conv => cbv
        refine br_f hO hc7 ?_
        conv => cbv
        refine br_f hO hc7 ?_
        conv => cbv
        refine br_f hO hc7 ?_
        conv => cbv
        refine br_f hO hc7 ?_
        conv => cbv
        refine br_f hO hc7 ?_
        conv => cbv
        refine br_h hO h (by subst hO; rfl) (fun hc8 h => ?_) (fun hc8 h => ?_)
        · conv => cbv
          refine br_t hO hc8 ?_
          conv => cbv
          refine br_t hO hc8 ?_
          conv => cbv
          refine br_t hO hc8 ?_
          conv => cbv
          refine br_t hO hc8 ?_
          conv => cbv
          refine br_t hO hc8 ?_
          conv => cbv
          refine br_t hO hc8 ?_
          conv => cbv
          refine br_t hO hc8 ?_
          conv => cbv
          refine br_t hO rfl ?_
          conv => cbv
          refine br_t hO rfl ?_
          conv => cbv
          refine br_t hO rfl ?_
          conv => cbv
          refine br_t hO rfl ?_
          conv => cbv
          refine br_t hO rfl ?_
          conv => cbv
          refine br_t hO rfl ?_
          conv => cbv
          refine br_t hO rfl ?_
          conv => cbv
          refine br_t hO rfl ?_
          conv => cbv
          exact hL_3 _ _ ⟨true, ⟨(by (conv => lhs; cbv) <;> (subst hO; rfl)), (by (conv => lhs; cbv) <;> (subst hO; rfl))⟩, h⟩
        · conv => cbv
          refine br_f hO hc8 ?_
          conv => cbv
          refine br_f hO hc8 ?_
          conv => cbv
          refine br_f hO hc8 ?_
          conv => cbv
          refine br_f hO hc8 ?_
          conv => cbv
          refine br_f hO hc8 ?_
          conv => cbv
          refine br_f hO hc8 ?_
          conv => cbv
          refine br_f hO hc8 ?_
          conv => cbv
          refine br_h hO h (by subst hO; rfl) (fun hc9 h => ?_) (fun hc9 h => ?_)
          · conv => cbv
            refine br_t hO hc9 ?_
            conv => cbv
            refine br_t hO hc9 ?_
            conv => cbv
            refine br_t hO hc9 ?_
            conv => cbv
            refine br_t hO hc9 ?_
            conv => cbv
            refine br_t hO hc9 ?_
            conv => cbv
            refine br_t hO hc9 ?_
            conv => cbv
            refine br_t hO hc9 ?_
            conv => cbv
            exact hL_3 _ _ ⟨true, ⟨(by (conv => lhs; cbv) <;> (subst hO; rfl)), (by (conv => lhs; cbv) <;> (subst hO; rfl))⟩, h⟩
          · conv => cbv
            refine br_f hO hc9 ?_
            conv => cbv
            refine br_f hO hc9 ?_
            conv => cbv
            refine br_f hO hc9 ?_
            conv => cbv
            refine br_f hO hc9 ?_
            conv => cbv
            refine br_f hO hc9 ?_
            conv => cbv
            refine br_f hO hc9 ?_
            conv => cbv
            refine br_f hO hc9 ?_
            conv => cbv
            exact hL_3 _ _ ⟨(cmpStd .neq ((x4.length : Nat) : Int) ((x9.length : Nat) : Int)), ⟨(by (conv => lhs; cbv) <;> (subst hO; rfl)), (by (conv => lhs; cbv) <;> (subst hO; rfl))⟩, h⟩
  · rintro tm m ⟨j1, hs, h⟩
    unfold p19_3 at h
    obtain ⟨rfl, rfl⟩ := hs
    conv => cbv
    refine br_h hO h (by subst hO; rfl) (fun hc1 h => ?_) (fun hc1 h => ?_)
    · conv => cbv
      rw [hQ]
      exact ⟨false, _, _, ⟨(by subst hO; rfl), (by subst hO; rfl)⟩, h⟩
    · conv => cbv
      refine join_all hO ?_
      conv => cbv
      refine loop_of hO tiA [2, 3, 5] [3000, 4000] [] (fun (n : Nat) tm m => ∃ (z2 : Int), ((tm = frame 0 82 [(2, .p 3000 0 0), (3, .p 4000 0 0), (5, .c (.v (.int .i64 z2)))] ∧ m = ⟨[(3000, .blk 0 [.c (.v (.int .i64 x0)), .c (.v (.int .i64 x1)), .c (.v (.string x2)), .c (.sl 3 x3 none), .c (.sl 5 x4 none)]), (4000, .blk 0 [.c (.v (.int .i64 x5)), .c (.v (.int .i64 x6)), .c (.v (.string x7)), .c (.sl 3 x8 none), .c (.sl 5 x9 none)])], 1⟩)) ∧ p19_2L False fu (p19 False fu) K0 x3 x4 x8 x9 n z2) (fun n => n) fu ⟨0, ⟨(by (conv => lhs; cbv) <;> (subst hO; rfl)), (by (conv => lhs; cbv) <;> (subst hO; rfl))⟩, h⟩ ?_
      rintro n1 tm m L ⟨z2, hs, h⟩ hLn1
      cases n1 with
      | zero => rw [p19_2L] at h; exact h.elim
      | succ n1 =>
        rw [p19_2L] at h
        unfold p19_2 at h
        obtain ⟨rfl, rfl⟩ := hs
        conv => cbv
        refine br_h hO h (by subst hO; rfl) (fun hc2 h => ?_) (fun hc2 h => ?_)
        · conv => cbv
          refine join_all hO ?_
          conv => cbv
          refine drawn_of hO tiA [] [(0, true, false), (1, true, false), (2, true, false), (3, true, false), (4, true, false), (5, true, false), (6, true, false), (7, true, false), (8, true, false), (9, true, false), (10, false, false), (11, true, false)] (by kernel_rfl) ?_
          conv => cbv
          refine and_h h (fun g => (by subst hO; exact g)) (fun h => ?_)
          refine and_h h (fun g => (by subst hO; exact g)) (fun h => ?_)
          obtain ⟨c3, c4, c5, hr, h⟩ := rw_i64_i64_l3_inv h
          refine elem_of hO _ (by subst hO; exact hr) ?_
          clear hr
          conv => cbv
          refine and_h h (fun g => (by subst hO; exact g)) (fun h => ?_)
          refine and_h h (fun g => (by subst hO; exact g)) (fun h => ?_)
          obtain ⟨c6, c7, c8, hr, h⟩ := rw_i64_i64_l3_inv h
          refine elem_of hO _ (by subst hO; exact hr) ?_
          clear hr
          conv => cbv
          refine call_h hO [.shut, .shut] (d_p37 fu O.len hN h) ?_
          intro os Q hos hQ
          conv => cbv
          refine ⟨(by (rw [hos]) <;> (subst hO; rfl)), ?_⟩
          intro r bs hq
          rw [hQ] at hq
          clear hos hQ h
          obtain ⟨y9, _, _, ⟨rfl, rfl⟩, h⟩ := hq
          conv => cbv
          refine ⟨agree_of hO (Nat.le_of_ble_eq_true rfl) rfl, ?_⟩
          refine join_all hO ?_
          conv => cbv
          refine br_h hO h (by subst hO; rfl) (fun hc3 h => ?_) (fun hc3 h => ?_)
          · conv => cbv
            rw [hQ]
            exact ⟨false, _, _, ⟨(by subst hO; rfl), (by subst hO; rfl)⟩, h⟩
          · conv => cbv
            refine join_all hO ?_
            conv => cbv
            exact hLn1 n1 _ _ (Nat.lt_succ_self n1) ⟨binStd .add .i64 z2 1, ⟨(by (conv => lhs; cbv) <;> (subst hO; rfl)), (by (conv => lhs; cbv) <;> (subst hO; rfl))⟩, h⟩
        · conv => cbv
          refine loop_of hO tiA [2, 3, 6] [3000, 4000] [] (fun (n : Nat) tm m => ∃ (z10 : Int), ((tm = frame 0 82 [(2, .p 3000 0 0), (3, .p 4000 0 0), (6, .c (.v (.int .i64 z10)))] ∧ m = ⟨[(3000, .blk 0 [.c (.v (.int .i64 x0)), .c (.v (.int .i64 x1)), .c (.v (.string x2)), .c (.sl 3 x3 none), .c (.sl 5 x4 none)]), (4000, .blk 0 [.c (.v (.int .i64 x5)), .c (.v (.int .i64 x6)), .c (.v (.string x7)), .c (.sl 3 x8 none), .c (.sl 5 x9 none)])], 1⟩)) ∧ p19_1L False fu (p19 False fu) K0 x4 x9 n z10) (fun n => n) fu ⟨0, ⟨(by (conv => lhs; cbv) <;> (subst hO; rfl)), (by (conv => lhs; cbv) <;> (subst hO; rfl))⟩, h⟩ ?_
          rintro n2 tm m L ⟨z10, hs, h⟩ hLn2
          cases n2 with
          | zero => rw [p19_1L] at h; exact h.elim
          | succ n2 =>
            rw [p19_1L] at h
            unfold p19_1 at h
            obtain ⟨rfl, rfl⟩ := hs
            conv => cbv
            refine br_h hO h (by subst hO; rfl) (fun hc4 h => ?_) (fun hc4 h => ?_)
            · conv => cbv
              refine join_all hO ?_
              conv => cbv
              refine drawn_of hO tiA [] [(0, true, false), (1, true, false), (2, true, false), (3, true, false), (4, true, false), (5, true, false), (6, true, false), (7, true, false), (8, true, false), (9, true, false), (10, false, false), (11, true, false)] (by kernel_rfl) ?_
              conv => cbv
              refine and_h h (fun g => (by subst hO; exact g)) (fun h => ?_)
              refine and_h h (fun g => (by subst hO; exact g)) (fun h => ?_)
              obtain ⟨c11, c12, c13, c14, c15, hr, h⟩ := rw_i64_i64_s_l3_l5_inv h
              refine elem_of hO _ (by subst hO; exact hr) ?_
              clear hr
              conv => cbv
              refine and_h h (fun g => (by subst hO; exact g)) (fun h => ?_)
              refine and_h h (fun g => (by subst hO; exact g)) (fun h => ?_)
              obtain ⟨c16, c17, c18, c19, c20, hr, h⟩ := rw_i64_i64_s_l3_l5_inv h
              refine elem_of hO _ (by subst hO; exact hr) ?_
              clear hr
              conv => cbv
              refine call_h hO [.shut, .shut] (ih_p19 O.len hN h) ?_
              intro os Q hos hQ
              conv => cbv
              refine ⟨(by (rw [hos]) <;> (subst hO; rfl)), ?_⟩
              intro r bs hq
              rw [hQ] at hq
              clear hos hQ h
              obtain ⟨y21, _, _, ⟨rfl, rfl⟩, h⟩ := hq
              conv => cbv
              refine ⟨agree_of hO (Nat.le_of_ble_eq_true rfl) rfl, ?_⟩
              refine join_all hO ?_
              conv => cbv
              refine br_h hO h (by subst hO; rfl) (fun hc5 h => ?_) (fun hc5 h => ?_)
              · conv => cbv
                rw [hQ]
                exact ⟨false, _, _, ⟨(by subst hO; rfl), (by subst hO; rfl)⟩, h⟩
              · conv => cbv
                refine join_all hO ?_
                conv => cbv
                exact hLn2 n2 _ _ (Nat.lt_succ_self n2) ⟨binStd .add .i64 z10 1, ⟨(by (conv => lhs; cbv) <;> (subst hO; rfl)), (by (conv => lhs; cbv) <;> (subst hO; rfl))⟩, h⟩
            · conv => cbv
              rw [hQ]
              exact ⟨true, _, _, ⟨(by subst hO; rfl), (by subst hO; rfl)⟩, h⟩
theorem dd_p19 (fu : Nat) : D_p19 fu := by
  induction fu with
  | zero => unfold D_p19; intros; rename_i h; rw [p19] at h; exact h.elim
  | succ n ih =>
    exact (by unfold D_p19; intro K0 L hN x0 x1 x2 x3 x4 x5 x6 x7 x8 x9 h; exact b_p19 n ih L hN (by rw [p19] at h; exact h))
theorem d_p19 (fu : Nat) {K0 : Bool → Prop} (L : EL → Nat) (hL : L = List.length) {x0 : Int} {x1 : Int} {x2 : ByteArray} {x3 : EL} {x4 : EL} {x5 : Int} {x6 : Int} {x7 : ByteArray} {x8 : EL} {x9 : EL} (h : p19 False fu K0 x0 x1 x2 x3 x4 x5 x6 x7 x8 x9) : Den Try.prog G0 19 [.agg [.c (.v (.int .i64 x0)), .c (.v (.int .i64 x1)), .c (.v (.string x2)), .c (.sl 3 x3 none), .c (.sl 5 x4 none)], .agg [.c (.v (.int .i64 x5)), .c (.v (.int .i64 x6)), .c (.v (.string x7)), .c (.sl 3 x8 none), .c (.sl 5 x9 none)]] (fun r bs => (∃ (y0 : Bool) (o0 : OV) (o1 : OV), (r = .c (.v (.bool y0)) ∧ bs = [o0, o1]) ∧ K0 y0)) := dd_p19 fu L hL h
end Go.Proofs.Ythncmjlcmlmnmaa
