/- Functions without memory, and that the Go functions are followed by them. Printed by gen.py. Conditions: none. -/
import Derived.Test.YthncmjlcmlmnmaaCW9
namespace Go.Proofs.Ythncmjlcmlmnmaa
open Go V
set_option maxRecDepth 100000
set_option maxHeartbeats 4000000
def p132b_1 {ρ : Type} (fail : ρ) (fu : Nat) (s_p132b : (Int → Int → EL → ρ) → Int → Int → EL → EL → ρ) (s_p101 : (Int → Int → EL → ρ) → Int → Int → EL → ρ) (K0 : Int → Int → EL → ρ) (rec1 : EL → Int → ρ) (x0 : Int) (x1 : Int) (x2 : EL) (x3 : EL) (z8 : EL) (z9 : Int) : ρ :=
  bif (cmpStd .lss z9 ((x2.length : Nat) : Int)) then (gd ((0 : Int) ≤ z9) fail (gd ((z9 : Int) < (x2.length : Nat)) fail (rw_i64_i64_l3 fail (List.getD x2 ((z9 : Int).toNat) []) (fun c10 c11 c12 => s_p132b (fun y13 y14 y15 => gd (1 ≤ [[(CV.v (.int .i64 y13)), (CV.v (.int .i64 y14)), (CV.sl 3 y15 none)]].length) fail (gd ((z8.length + (List.take 1 [[(CV.v (.int .i64 y13)), (CV.v (.int .i64 y14)), (CV.sl 3 y15 none)]]).length) * 40 ≤ 35184372088832) fail (rec1 (z8 ++ (List.take 1 [[(CV.v (.int .i64 y13)), (CV.v (.int .i64 y14)), (CV.sl 3 y15 none)]])) (binStd .add .i64 z9 1)))) c10 c11 c12 x3)))) else (K0 x0 x1 z8)
def p132b_1L {ρ : Type} (fail : ρ) (fu : Nat) (s_p132b : (Int → Int → EL → ρ) → Int → Int → EL → EL → ρ) (s_p101 : (Int → Int → EL → ρ) → Int → Int → EL → ρ) (K0 : Int → Int → EL → ρ)  (x0 : Int) (x1 : Int) (x2 : EL) (x3 : EL) : Nat → EL → Int → ρ
  | 0, _, _ => fail
  | n + 1, z8, z9 => p132b_1 fail fu s_p132b s_p101 K0 (p132b_1L fail fu s_p132b s_p101 K0  x0 x1 x2 x3 n) x0 x1 x2 x3 z8 z9
def p132b_2 {ρ : Type} (fail : ρ) (fu : Nat) (s_p132b : (Int → Int → EL → ρ) → Int → Int → EL → EL → ρ) (s_p101 : (Int → Int → EL → ρ) → Int → Int → EL → ρ) (K0 : Int → Int → EL → ρ)  (x0 : Int) (x1 : Int) (x2 : EL) (x3 : EL) (j1 : Bool) : ρ :=
  bif j1 then (gd ((0 : Int) ≤ x1) fail (gd ((x1 : Int) < (x3.length : Nat)) fail (rw_i64_i64_l3 fail (List.getD x3 ((x1 : Int).toNat) []) (fun c2 c3 c4 => s_p101 (fun y5 y6 y7 => K0 y5 y6 y7) c2 c3 c4)))) else (p132b_1L fail fu s_p132b s_p101 K0 x0 x1 x2 x3 fu nilE 0)
/-- ref4.Put -/
def p132b_b {ρ : Type} (fail : ρ) (fu : Nat) (s_p132b : (Int → Int → EL → ρ) → Int → Int → EL → EL → ρ) (s_p101 : (Int → Int → EL → ρ) → Int → Int → EL → ρ) (K0 : Int → Int → EL → ρ) (x0 : Int) (x1 : Int) (x2 : EL) (x3 : EL) : ρ :=
  bif (cmpStd .eql x0 4) then (bif (cmpStd .geq x1 0) then (p132b_2 fail fu s_p132b s_p101 K0 x0 x1 x2 x3 (cmpStd .lss x1 ((x3.length : Nat) : Int))) else (p132b_2 fail fu s_p132b s_p101 K0 x0 x1 x2 x3 false)) else (p132b_2 fail fu s_p132b s_p101 K0 x0 x1 x2 x3 false)
/-- ref4.Copy -/
def p101_b {ρ : Type} (fail : ρ) (fu : Nat) (s_p132b : (Int → Int → EL → ρ) → Int → Int → EL → EL → ρ) (s_p101 : (Int → Int → EL → ρ) → Int → Int → EL → ρ) (K0 : Int → Int → EL → ρ) (x0 : Int) (x1 : Int) (x2 : EL) : ρ :=
  s_p132b (fun y1 y2 y3 => K0 y1 y2 y3) x0 x1 x2 nilE
mutual
def p132b {ρ : Type} (fail : ρ) : Nat → (Int → Int → EL → ρ) → Int → Int → EL → EL → ρ
  | 0, _, _, _, _, _ => fail
  | n + 1, K0, x0, x1, x2, x3 => p132b_b fail n (p132b fail n) (p101 fail n) K0 x0 x1 x2 x3
def p101 {ρ : Type} (fail : ρ) : Nat → (Int → Int → EL → ρ) → Int → Int → EL → ρ
  | 0, _, _, _, _ => fail
  | n + 1, K0, x0, x1, x2 => p101_b fail n (p132b fail n) (p101 fail n) K0 x0 x1 x2
end
def D_p132b (fu : Nat) : Prop := ∀ {K0 : Int → Int → EL → Prop} (L : EL → Nat) (_ : L = List.length) {x0 : Int} {x1 : Int} {x2 : EL} {x3 : EL} (_ : p132b False fu K0 x0 x1 x2 x3), Den Try.prog G0 132 [.agg [.c (.v (.int .i64 x0)), .c (.v (.int .i64 x1)), .c (.sl 3 x2 none)], .c (.sl 3 x3 none)] (fun r bs => (∃ (y0 : Int) (y1 : Int) (y2 : EL) (o0 : OV) (o1 : OV), (r = .agg [.c (.v (.int .i64 y0)), .c (.v (.int .i64 y1)), .c (.sl 3 y2 none)] ∧ bs = [o0, o1]) ∧ K0 y0 y1 y2))
def D_p101 (fu : Nat) : Prop := ∀ {K0 : Int → Int → EL → Prop} (L : EL → Nat) (_ : L = List.length) {x0 : Int} {x1 : Int} {x2 : EL} (_ : p101 False fu K0 x0 x1 x2), Den Try.prog G0 101 [.agg [.c (.v (.int .i64 x0)), .c (.v (.int .i64 x1)), .c (.sl 3 x2 none)]] (fun r bs => (∃ (y0 : Int) (y1 : Int) (y2 : EL) (o0 : OV), (r = .agg [.c (.v (.int .i64 y0)), .c (.v (.int .i64 y1)), .c (.sl 3 y2 none)] ∧ bs = [o0]) ∧ K0 y0 y1 y2))
theorem b_p132b (fu : Nat) (ih_p132b : D_p132b fu) (ih_p101 : D_p101 fu) {K0 : Int → Int → EL → Prop} (L : EL → Nat) (hN : L = List.length) {x0 : Int} {x1 : Int} {x2 : EL} {x3 : EL} (h : p132b_b False fu (p132b False fu) (p101 False fu) K0 x0 x1 x2 x3) : Den Try.prog G0 132 [.agg [.c (.v (.int .i64 x0)), .c (.v (.int .i64 x1)), .c (.sl 3 x2 none)], .c (.sl 3 x3 none)] (fun r bs => (∃ (y0 : Int) (y1 : Int) (y2 : EL) (o0 : OV) (o1 : OV), (r = .agg [.c (.v (.int .i64 y0)), .c (.v (.int .i64 y1)), .c (.sl 3 y2 none)] ∧ bs = [o0, o1]) ∧ K0 y0 y1 y2)) := by
  obtain ⟨O, hO⟩ : ∃ O, O = std 0 T G0 (Den Try.prog G0) := ⟨_, rfl⟩
  have hLO : L = O.len := by rw [hN, hO]; rfl
  subst hLO
  refine den_h hO tiA mixed tabOk (fn := Try.f132) (sh := true) (by kernel_rfl) rfl rfl rfl rfl ?_
  intro Q hQ
  unfold p132b_b at h
  conv => cbv
  refine reg_join hO tiA [1, 2, 4, 21] [3000, 5000] [] (fun tm m => ∃ (j1 : Bool), ((tm = frame 0 53 [(1, .c (.sl 3 x3 none)), (2, .p 3000 0 0), (4, .p 5000 0 0), (21, .c (.v (.bool j1)))] ∧ m = ⟨[(3000, .blk 0 [.c (.v (.int .i64 x0)), .c (.v (.int .i64 x1)), .c (.sl 3 x2 none)]), (5000, .blk 0 [.c (.v (.int .i64 0)), .c (.v (.int .i64 0)), .c (.sl 3 [] (some []))])], 1⟩)) ∧ p132b_2 False fu (p132b False fu) (p101 False fu) K0 x0 x1 x2 x3 j1) (fun L hL_2 => ?_) ?_
  · conv => cbv
    refine br_h hO h (by subst hO; rfl) (fun hc3 h => ?_) (fun hc3 h => ?_)
    · conv => cbv
      refine br_t hO hc3 ?_
      conv => cbv
      refine br_t hO hc3 ?_
      conv => cbv
      refine br_t hO hc3 ?_
      conv => cbv
      refine br_h hO h (by subst hO; rfl) (fun hc4 h => ?_) (fun hc4 h => ?_)
      · conv => cbv
        refine br_t hO hc4 ?_
        conv => cbv
        refine br_t hO hc4 ?_
        conv => cbv
        refine br_t hO hc4 ?_
        conv => cbv
        refine br_t hO hc4 ?_
        conv => cbv
        refine br_t hO hc4 ?_
        conv => cbv
        exact hL_2 _ _ ⟨(cmpStd .lss x1 ((x3.length : Nat) : Int)), ⟨(by (conv => lhs; cbv) <;> (subst hO; rfl)), (by (conv => lhs; cbv) <;> (subst hO; rfl))⟩, h⟩
      · conv => cbv
        refine br_f hO hc4 ?_
        conv => cbv
        refine br_f hO hc4 ?_
        conv => cbv
        refine br_f hO hc4 ?_
        conv => cbv
        refine br_f hO hc4 ?_
        conv => cbv
        refine br_f hO hc4 ?_
        conv => cbv
        exact hL_2 _ _ ⟨false, ⟨(by (conv => lhs; cbv) <;> (subst hO; rfl)), (by (conv => lhs; cbv) <;> (subst hO; rfl))⟩, h⟩
    · conv => cbv
      refine br_f hO hc3 ?_
      conv => cbv
      refine br_f hO hc3 ?_
      conv => cbv
      refine br_f hO hc3 ?_
      conv => cbv
      refine br_f hO rfl ?_
      conv => cbv
      refine br_f hO rfl ?_
      conv => cbv
      refine br_f hO rfl ?_
      conv => cbv
      refine br_f hO rfl ?_
      conv => cbv
      refine br_f hO rfl ?_
      conv => cbv
      refine br_f hO rfl ?_
      conv => cbv
      exact hL_2 _ _ ⟨false, ⟨(by (conv => lhs; cbv) <;> (subst hO; rfl)), (by (conv => lhs; cbv) <;> (subst hO; rfl))⟩, h⟩
  · rintro tm m ⟨j1, hs, h⟩
    unfold p132b_2 at h
    obtain ⟨rfl, rfl⟩ := hs
    conv => cbv
    refine br_h hO h (by subst hO; rfl) (fun hc1 h => ?_) (fun hc1 h => ?_)
    · conv => cbv
      refine and_h h (fun g => (by subst hO; exact g)) (fun h => ?_)
      refine and_h h (fun g => (by subst hO; exact g)) (fun h => ?_)
      obtain ⟨c2, c3, c4, hr, h⟩ := rw_i64_i64_l3_inv h
      refine elem_of hO _ (by subst hO; exact hr) ?_
      clear hr
      conv => cbv
      refine call_h hO [.shut] (ih_p101 O.len hN h) ?_
      intro os Q hos hQ
      conv => cbv
      refine ⟨(by (rw [hos]) <;> (subst hO; rfl)), ?_⟩
      intro r bs hq
      rw [hQ] at hq
      clear hos hQ h
      obtain ⟨y5, y6, y7, _, ⟨rfl, rfl⟩, h⟩ := hq
      conv => cbv
      rw [hQ]
      exact ⟨y5, y6, y7, _, _, ⟨(by subst hO; rfl), (by subst hO; rfl)⟩, h⟩
    · conv => cbv
      refine join_all hO ?_
      conv => cbv
      refine loop_of hO tiA [1, 2, 4, 5, 6] [3000, 5000, 6000, 51000] [] (fun (n : Nat) tm m => ∃ (z8 : EL) (z9 : Int), ((z8 = [] ∧ tm = frame 0 53 [(1, .c (.sl 3 x3 none)), (2, .p 3000 0 0), (4, .p 5000 0 0), (5, .p 6000 0 0), (6, .c (.v (.int .i64 z9)))] ∧ m = ⟨[(3000, .blk 0 [.c (.v (.int .i64 x0)), .c (.v (.int .i64 x1)), .c (.sl 3 x2 none)]), (5000, .blk 0 [.c (.v (.int .i64 0)), .c (.v (.int .i64 0)), .c (.sl 3 [] (some []))]), (6000, .blk 0 [.c (.v (.int .i64 x0)), .c (.v (.int .i64 x1)), .c (.sl 3 [] (some []))])], 1⟩) ∨ (tm = frame 0 53 [(1, .c (.sl 3 x3 none)), (2, .p 3000 0 0), (4, .p 5000 0 0), (5, .p 6000 0 0), (6, .c (.v (.int .i64 z9)))] ∧ m = ⟨[(3000, .blk 0 [.c (.v (.int .i64 x0)), .c (.v (.int .i64 x1)), .c (.sl 3 x2 none)]), (5000, .blk 0 [.c (.v (.int .i64 0)), .c (.v (.int .i64 0)), .c (.sl 3 [] (some []))]), (6000, .blk 0 [.c (.v (.int .i64 x0)), .c (.v (.int .i64 x1)), .t 51000 0 (O.len z8)]), (51000, .arr 0 3 z8 none false)], 1⟩)) ∧ p132b_1L False fu (p132b False fu) (p101 False fu) K0 x0 x1 x2 x3 n z8 z9) (fun n => n) fu ⟨nilE, 0, (.inl ⟨rfl, (by (conv => lhs; cbv) <;> (subst hO; rfl)), (by (conv => lhs; cbv) <;> (subst hO; rfl))⟩), h⟩ ?_
      rintro n1 tm m L ⟨z8, z9, hs, h⟩ hLn1
      cases n1 with
      | zero => rw [p132b_1L] at h; exact h.elim
      | succ n1 =>
        rw [p132b_1L] at h
        unfold p132b_1 at h
        rcases hs with hs | hs
        · obtain ⟨rfl, rfl, rfl⟩ := hs
          conv => cbv
          refine br_h hO h (by subst hO; rfl) (fun hc2 h => ?_) (fun hc2 h => ?_)
          · conv => cbv
            refine join_all hO ?_
            conv => cbv
            refine drawn_of hO tiA [[], [], [], [], []] [(0, true, false), (1, true, false), (2, true, false), (3, true, false), (4, true, false), (5, true, false), (6, true, false), (7, true, false), (8, false, false), (9, false, false), (10, false, true), (11, true, true), (12, false, true)] (by kernel_rfl) ?_
            conv => cbv
            refine and_h h (fun g => (by subst hO; exact g)) (fun h => ?_)
            refine and_h h (fun g => (by subst hO; exact g)) (fun h => ?_)
            obtain ⟨c10, c11, c12, hr, h⟩ := rw_i64_i64_l3_inv h
            refine elem_of hO _ (by subst hO; exact hr) ?_
            clear hr
            conv => cbv
            refine call_h hO [.shut, .shut] (ih_p132b O.len hN h) ?_
            intro os Q hos hQ
            conv => cbv
            refine ⟨(by (rw [hos]) <;> (subst hO; rfl)), ?_⟩
            intro r bs hq
            rw [hQ] at hq
            clear hos hQ h
            obtain ⟨y13, y14, y15, _, _, ⟨rfl, rfl⟩, h⟩ := hq
            conv => cbv
            refine ⟨agree_of hO (Nat.le_of_ble_eq_true rfl) rfl, ?_⟩
            refine ⟨agree_of hO (Nat.le_of_ble_eq_true rfl) rfl, ?_⟩
            refine view_h hO h (fun g => (by subst hO; exact g)) (fun h => ?_)
            conv => cbv
            refine and_h h (fun g => (by subst hO; exact g)) (fun h => ?_)
            refine emp_no hO (by subst hO; exact List.cons_ne_nil _ _) ?_
            conv => cbv
            refine join_all hO ?_
            conv => cbv
            exact hLn1 n1 _ _ (Nat.lt_succ_self n1) ⟨(nilE ++ (List.take 1 [[(CV.v (.int .i64 y13)), (CV.v (.int .i64 y14)), (CV.sl 3 y15 none)]])), binStd .add .i64 z9 1, (.inr ⟨(by (conv => lhs; cbv) <;> (subst hO; rfl)), (by (conv => lhs; cbv) <;> (subst hO; rfl))⟩), h⟩
          · conv => cbv
            rw [hQ]
            exact ⟨x0, x1, nilE, _, _, ⟨(by subst hO; rfl), (by subst hO; rfl)⟩, h⟩
        · obtain ⟨rfl, rfl⟩ := hs
          conv => cbv
          refine br_h hO h (by subst hO; rfl) (fun hc2 h => ?_) (fun hc2 h => ?_)
          · conv => cbv
            refine join_all hO ?_
            conv => cbv
            refine drawn_of hO tiA [[], [], [], [], []] [(0, true, false), (1, true, false), (2, true, false), (3, true, false), (4, true, false), (5, true, false), (6, true, false), (7, true, false), (8, false, false), (9, false, false), (10, false, true), (11, true, true), (12, false, true)] (by kernel_rfl) ?_
            conv => cbv
            refine and_h h (fun g => (by subst hO; exact g)) (fun h => ?_)
            refine and_h h (fun g => (by subst hO; exact g)) (fun h => ?_)
            obtain ⟨c10, c11, c12, hr, h⟩ := rw_i64_i64_l3_inv h
            refine elem_of hO _ (by subst hO; exact hr) ?_
            clear hr
            conv => cbv
            refine call_h hO [.shut, .shut] (ih_p132b O.len hN h) ?_
            intro os Q hos hQ
            conv => cbv
            refine ⟨(by (rw [hos]) <;> (subst hO; rfl)), ?_⟩
            intro r bs hq
            rw [hQ] at hq
            clear hos hQ h
            obtain ⟨y13, y14, y15, _, _, ⟨rfl, rfl⟩, h⟩ := hq
            conv => cbv
            refine ⟨agree_of hO (Nat.le_of_ble_eq_true rfl) rfl, ?_⟩
            refine ⟨agree_of hO (Nat.le_of_ble_eq_true rfl) rfl, ?_⟩
            refine view_h hO h (fun g => (by subst hO; exact g)) (fun h => ?_)
            conv => cbv
            refine ⟨(by subst hO; rfl), ?_⟩
            refine and_h h (fun g => (by subst hO; exact g)) (fun h => ?_)
            refine join_all hO ?_
            conv => cbv
            exact hLn1 n1 _ _ (Nat.lt_succ_self n1) ⟨(z8 ++ (List.take 1 [[(CV.v (.int .i64 y13)), (CV.v (.int .i64 y14)), (CV.sl 3 y15 none)]])), binStd .add .i64 z9 1, (.inr ⟨(by (conv => lhs; cbv) <;> (subst hO; rfl)), (by (conv => lhs; cbv) <;> (subst hO; rfl))⟩), h⟩
          · conv => cbv
            refine view_full hO ?_
            conv => cbv
            rw [hQ]
            exact ⟨x0, x1, z8, _, _, ⟨(by subst hO; rfl), (by subst hO; rfl)⟩, h⟩
theorem b_p101 (fu : Nat) (ih_p132b : D_p132b fu) (ih_p101 : D_p101 fu) {K0 : Int → Int → EL → Prop} (L : EL → Nat) (hN : L = List.length) {x0 : Int} {x1 : Int} {x2 : EL} (h : p101_b False fu (p132b False fu) (p101 False fu) K0 x0 x1 x2) : Den Try.prog G0 101 [.agg [.c (.v (.int .i64 x0)), .c (.v (.int .i64 x1)), .c (.sl 3 x2 none)]] (fun r bs => (∃ (y0 : Int) (y1 : Int) (y2 : EL) (o0 : OV), (r = .agg [.c (.v (.int .i64 y0)), .c (.v (.int .i64 y1)), .c (.sl 3 y2 none)] ∧ bs = [o0]) ∧ K0 y0 y1 y2)) := by
  obtain ⟨O, hO⟩ : ∃ O, O = std 0 T G0 (Den Try.prog G0) := ⟨_, rfl⟩
  have hLO : L = O.len := by rw [hN, hO]; rfl
  subst hLO
  refine den_h hO tiA mixed tabOk (fn := Try.f101) (sh := true) (by kernel_rfl) rfl rfl rfl rfl ?_
  intro Q hQ
  unfold p101_b at h
  conv => cbv
  refine call_h hO [.shut, .shut] (ih_p132b O.len hN h) ?_
  intro os Q hos hQ
  conv => cbv
  refine ⟨(by (rw [hos]) <;> (subst hO; rfl)), ?_⟩
  intro r bs hq
  rw [hQ] at hq
  clear hos hQ h
  obtain ⟨y1, y2, y3, _, _, ⟨rfl, rfl⟩, h⟩ := hq
  conv => cbv
  rw [hQ]
  exact ⟨y1, y2, y3, _, ⟨(by subst hO; rfl), (by subst hO; rfl)⟩, h⟩
theorem dd_p132b (fu : Nat) : D_p132b fu ∧ D_p101 fu := by
  induction fu with
  | zero => exact ⟨(by unfold D_p132b; intros; rename_i h; rw [p132b] at h; exact h.elim), (by unfold D_p101; intros; rename_i h; rw [p101] at h; exact h.elim)⟩
  | succ n ih =>
    obtain ⟨i0, i1⟩ := ih
    exact ⟨(by unfold D_p132b; intro K0 L hN x0 x1 x2 x3 h; exact b_p132b n i0 i1 L hN (by rw [p132b] at h; exact h)), (by unfold D_p101; intro K0 L hN x0 x1 x2 h; exact b_p101 n i0 i1 L hN (by rw [p101] at h; exact h))⟩
theorem d_p101 (fu : Nat) {K0 : Int → Int → EL → Prop} (L : EL → Nat) (hL : L = List.length) {x0 : Int} {x1 : Int} {x2 : EL} (h : p101 False fu K0 x0 x1 x2) : Den Try.prog G0 101 [.agg [.c (.v (.int .i64 x0)), .c (.v (.int .i64 x1)), .c (.sl 3 x2 none)]] (fun r bs => (∃ (y0 : Int) (y1 : Int) (y2 : EL) (o0 : OV), (r = .agg [.c (.v (.int .i64 y0)), .c (.v (.int .i64 y1)), .c (.sl 3 y2 none)] ∧ bs = [o0]) ∧ K0 y0 y1 y2)) := (dd_p132b fu).2 L hL h
end Go.Proofs.Ythncmjlcmlmnmaa

namespace Go.Proofs.Ythncmjlcmlmnmaa
open Go V
set_option maxRecDepth 100000
set_option maxHeartbeats 4000000
/-- ref5.Sort -/
def p49 {ρ : Type} (fail : ρ) (fu : Nat)  (K0 : Int → Int → ByteArray → EL → EL → ρ) (x0 : Int) (x1 : Int) (x2 : EL) : ρ :=
  p101 fail fu (fun y1 y2 y3 => gd (1 ≤ [[(CV.v (.int .i64 y1)), (CV.v (.int .i64 y2)), (CV.sl 3 y3 none)]].length) fail (K0 1 0 ⟨#[]⟩ (List.take 1 [[(CV.v (.int .i64 y1)), (CV.v (.int .i64 y2)), (CV.sl 3 y3 none)]]) nilE)) x0 x1 x2
theorem d_p49 (fu : Nat)  {K0 : Int → Int → ByteArray → EL → EL → Prop} (L : EL → Nat) (hN : L = List.length) {x0 : Int} {x1 : Int} {x2 : EL} (h : p49 False fu K0 x0 x1 x2) : Den Try.prog G0 49 [.agg [.c (.v (.int .i64 x0)), .c (.v (.int .i64 x1)), .c (.sl 3 x2 none)]] (fun r bs => (∃ (y0 : Int) (y1 : Int) (y2 : ByteArray) (y3 : EL) (y4 : EL) (o0 : OV), (r = .agg [.c (.v (.int .i64 y0)), .c (.v (.int .i64 y1)), .c (.v (.string y2)), .c (.sl 3 y3 none), .c (.sl 5 y4 none)] ∧ bs = [o0]) ∧ K0 y0 y1 y2 y3 y4)) := by
  obtain ⟨O, hO⟩ : ∃ O, O = std 0 T G0 (Den Try.prog G0) := ⟨_, rfl⟩
  have hLO : L = O.len := by rw [hN, hO]; rfl
  subst hLO
  refine den_h hO tiA mixed tabOk (fn := Try.f49) (sh := true) (by kernel_rfl) rfl rfl rfl rfl ?_
  intro Q hQ
  unfold p49 at h
  conv => cbv
  refine call_h hO [.shut] (d_p101 fu O.len hN h) ?_
  intro os Q hos hQ
  conv => cbv
  refine ⟨(by (rw [hos]) <;> (subst hO; rfl)), ?_⟩
  intro r bs hq
  rw [hQ] at hq
  clear hos hQ h
  obtain ⟨y1, y2, y3, _, ⟨rfl, rfl⟩, h⟩ := hq
  conv => cbv
  refine view_h hO h (fun g => (by subst hO; exact g)) (fun h => ?_)
  conv => cbv
  rw [hQ]
  exact ⟨1, 0, ⟨#[]⟩, List.take 1 [[(CV.v (.int .i64 y1)), (CV.v (.int .i64 y2)), (CV.sl 3 y3 none)]], nilE, _, ⟨(by subst hO; rfl), (by subst hO; rfl)⟩, h⟩
end Go.Proofs.Ythncmjlcmlmnmaa

namespace Go.Proofs.Ythncmjlcmlmnmaa
open Go V
set_option maxRecDepth 100000
set_option maxHeartbeats 4000000
/-- ref5.Var -/
def p51 {ρ : Type} (fail : ρ) (fu : Nat)  (K0 : Int → Int → ByteArray → EL → EL → ρ) (x0 : Int) : ρ :=
  K0 0 x0 ⟨#[]⟩ nilE nilE
theorem d_p51 (fu : Nat)  {K0 : Int → Int → ByteArray → EL → EL → Prop} (L : EL → Nat) (hN : L = List.length) {x0 : Int} (h : p51 False fu K0 x0) : Den Try.prog G0 51 [.c (.v (.int .i64 x0))] (fun r bs => (∃ (y0 : Int) (y1 : Int) (y2 : ByteArray) (y3 : EL) (y4 : EL) (o0 : OV), (r = .agg [.c (.v (.int .i64 y0)), .c (.v (.int .i64 y1)), .c (.v (.string y2)), .c (.sl 3 y3 none), .c (.sl 5 y4 none)] ∧ bs = [o0]) ∧ K0 y0 y1 y2 y3 y4)) := by
  obtain ⟨O, hO⟩ : ∃ O, O = std 0 T G0 (Den Try.prog G0) := ⟨_, rfl⟩
  have hLO : L = O.len := by rw [hN, hO]; rfl
  subst hLO
  refine den_h hO tiA mixed tabOk (fn := Try.f51) (sh := true) (by kernel_rfl) rfl rfl rfl rfl ?_
  intro Q hQ
  unfold p51 at h
  conv => cbv
  rw [hQ]
  exact ⟨0, x0, ⟨#[]⟩, nilE, nilE, _, ⟨(by subst hO; rfl), (by subst hO; rfl)⟩, h⟩
end Go.Proofs.Ythncmjlcmlmnmaa

namespace Go.Proofs.Ythncmjlcmlmnmaa
open Go V
set_option maxRecDepth 100000
set_option maxHeartbeats 4000000
def p135_1 {ρ : Type} (fail : ρ) (fu : Nat)  (K0 : Int → Int → ByteArray → EL → EL → ρ) (rec1 : EL → Int → ρ) (x0 : Int) (x1 : Int) (x2 : ByteArray) (x3 : EL) (z1 : EL) (z2 : Int) : ρ :=
  bif (cmpStd .lss z2 ((x3.length : Nat) : Int)) then (gd ((0 : Int) ≤ z2) fail (gd ((z2 : Int) < (x3.length : Nat)) fail (rw_i64_i64_l3 fail (List.getD x3 ((z2 : Int).toNat) []) (fun c3 c4 c5 => p101 fail fu (fun y6 y7 y8 => gd (1 ≤ [[(CV.v (.int .i64 y6)), (CV.v (.int .i64 y7)), (CV.sl 3 y8 none)]].length) fail (gd ((z1.length + (List.take 1 [[(CV.v (.int .i64 y6)), (CV.v (.int .i64 y7)), (CV.sl 3 y8 none)]]).length) * 40 ≤ 35184372088832) fail (rec1 (z1 ++ (List.take 1 [[(CV.v (.int .i64 y6)), (CV.v (.int .i64 y7)), (CV.sl 3 y8 none)]])) (binStd .add .i64 z2 1)))) c3 c4 c5)))) else (K0 x0 x1 x2 z1 nilE)
def p135_1L {ρ : Type} (fail : ρ) (fu : Nat)  (K0 : Int → Int → ByteArray → EL → EL → ρ)  (x0 : Int) (x1 : Int) (x2 : ByteArray) (x3 : EL) : Nat → EL → Int → ρ
  | 0, _, _ => fail
  | n + 1, z1, z2 => p135_1 fail fu  K0 (p135_1L fail fu  K0  x0 x1 x2 x3 n) x0 x1 x2 x3 z1 z2
/-- ref5.leaf -/
def p135 {ρ : Type} (fail : ρ) (fu : Nat)  (K0 : Int → Int → ByteArray → EL → EL → ρ) (x0 : Int) (x1 : Int) (x2 : ByteArray) (x3 : EL) (x4 : EL) : ρ :=
  p135_1L fail fu  K0 x0 x1 x2 x3 fu nilE 0
theorem d_p135 (fu : Nat)  {K0 : Int → Int → ByteArray → EL → EL → Prop} (L : EL → Nat) (hN : L = List.length) {x0 : Int} {x1 : Int} {x2 : ByteArray} {x3 : EL} {x4 : EL} (h : p135 False fu K0 x0 x1 x2 x3 x4) : Den Try.prog G0 135 [.agg [.c (.v (.int .i64 x0)), .c (.v (.int .i64 x1)), .c (.v (.string x2)), .c (.sl 3 x3 none), .c (.sl 5 x4 none)]] (fun r bs => (∃ (y0 : Int) (y1 : Int) (y2 : ByteArray) (y3 : EL) (y4 : EL) (o0 : OV), (y3 = [] ∧ y4 = [] ∧ r = .agg [.c (.v (.int .i64 y0)), .c (.v (.int .i64 y1)), .c (.v (.string y2)), .c (.sl 3 [] (some [])), .c (.sl 5 [] (some []))] ∧ bs = [o0]) ∧ K0 y0 y1 y2 y3 y4) ∨ (∃ (y0 : Int) (y1 : Int) (y2 : ByteArray) (y3 : EL) (y4 : EL) (o0 : OV), (y4 = [] ∧ r = .agg [.c (.v (.int .i64 y0)), .c (.v (.int .i64 y1)), .c (.v (.string y2)), .arr 3 y3 none false (L y3), .c (.sl 5 [] (some []))] ∧ bs = [o0]) ∧ K0 y0 y1 y2 y3 y4)) := by
  obtain ⟨O, hO⟩ : ∃ O, O = std 0 T G0 (Den Try.prog G0) := ⟨_, rfl⟩
  have hLO : L = O.len := by rw [hN, hO]; rfl
  subst hLO
  refine den_h hO tiA mixed tabOk (fn := Try.f135) (sh := false) (by kernel_rfl) rfl rfl rfl rfl ?_
  intro Q hQ
  unfold p135 at h
  conv => cbv
  refine loop_of hO tiA [1, 2, 3, 4] [2000, 3000, 4000, 29000] [] (fun (n : Nat) tm m => ∃ (z1 : EL) (z2 : Int), ((z1 = [] ∧ tm = frame 0 31 [(1, .p 2000 0 0), (2, .p 3000 0 0), (3, .p 4000 0 0), (4, .c (.v (.int .i64 z2)))] ∧ m = ⟨[(2000, .blk 0 [.c (.v (.int .i64 x0)), .c (.v (.int .i64 x1)), .c (.v (.string x2)), .c (.sl 3 x3 none), .c (.sl 5 x4 none)]), (3000, .blk 0 [.c (.v (.int .i64 0)), .c (.v (.int .i64 0)), .c (.v (.string ⟨#[]⟩)), .c (.sl 3 [] (some [])), .c (.sl 5 [] (some []))]), (4000, .blk 0 [.c (.v (.int .i64 x0)), .c (.v (.int .i64 x1)), .c (.v (.string x2)), .c (.sl 3 [] (some [])), .c (.sl 5 [] (some []))])], 1⟩) ∨ (tm = frame 0 31 [(1, .p 2000 0 0), (2, .p 3000 0 0), (3, .p 4000 0 0), (4, .c (.v (.int .i64 z2)))] ∧ m = ⟨[(2000, .blk 0 [.c (.v (.int .i64 x0)), .c (.v (.int .i64 x1)), .c (.v (.string x2)), .c (.sl 3 x3 none), .c (.sl 5 x4 none)]), (3000, .blk 0 [.c (.v (.int .i64 0)), .c (.v (.int .i64 0)), .c (.v (.string ⟨#[]⟩)), .c (.sl 3 [] (some [])), .c (.sl 5 [] (some []))]), (4000, .blk 0 [.c (.v (.int .i64 x0)), .c (.v (.int .i64 x1)), .c (.v (.string x2)), .t 29000 0 (O.len z1), .c (.sl 5 [] (some []))]), (29000, .arr 0 3 z1 none false)], 1⟩)) ∧ p135_1L False fu  K0 x0 x1 x2 x3 n z1 z2) (fun n => n) fu ⟨nilE, 0, (.inl ⟨rfl, (by (conv => lhs; cbv) <;> (subst hO; rfl)), (by (conv => lhs; cbv) <;> (subst hO; rfl))⟩), h⟩ ?_
  rintro n1 tm m L ⟨z1, z2, hs, h⟩ hLn1
  cases n1 with
  | zero => rw [p135_1L] at h; exact h.elim
  | succ n1 =>
    rw [p135_1L] at h
    unfold p135_1 at h
    rcases hs with hs | hs
    · obtain ⟨rfl, rfl, rfl⟩ := hs
      conv => cbv
      refine br_h hO h (by subst hO; rfl) (fun hc1 h => ?_) (fun hc1 h => ?_)
      · conv => cbv
        refine join_all hO ?_
        conv => cbv
        refine drawn_of hO tiA [[], [], [], [], []] [(0, true, false), (1, true, false), (2, true, false), (3, true, false), (4, true, false), (5, true, false), (6, true, false), (7, false, false), (8, false, false), (9, false, true), (10, true, true), (11, false, true)] (by kernel_rfl) ?_
        conv => cbv
        refine and_h h (fun g => (by subst hO; exact g)) (fun h => ?_)
        refine and_h h (fun g => (by subst hO; exact g)) (fun h => ?_)
        obtain ⟨c3, c4, c5, hr, h⟩ := rw_i64_i64_l3_inv h
        refine elem_of hO _ (by subst hO; exact hr) ?_
        clear hr
        conv => cbv
        refine call_h hO [.shut] (d_p101 fu O.len hN h) ?_
        intro os Q hos hQ
        conv => cbv
        refine ⟨(by (rw [hos]) <;> (subst hO; rfl)), ?_⟩
        intro r bs hq
        rw [hQ] at hq
        clear hos hQ h
        obtain ⟨y6, y7, y8, _, ⟨rfl, rfl⟩, h⟩ := hq
        conv => cbv
        refine ⟨agree_of hO (Nat.le_of_ble_eq_true rfl) rfl, ?_⟩
        refine ⟨agree_of hO (Nat.le_of_ble_eq_true rfl) rfl, ?_⟩
        refine view_h hO h (fun g => (by subst hO; exact g)) (fun h => ?_)
        conv => cbv
        refine and_h h (fun g => (by subst hO; exact g)) (fun h => ?_)
        refine emp_no hO (by subst hO; exact List.cons_ne_nil _ _) ?_
        conv => cbv
        refine join_all hO ?_
        conv => cbv
        exact hLn1 n1 _ _ (Nat.lt_succ_self n1) ⟨(nilE ++ (List.take 1 [[(CV.v (.int .i64 y6)), (CV.v (.int .i64 y7)), (CV.sl 3 y8 none)]])), binStd .add .i64 z2 1, (.inr ⟨(by (conv => lhs; cbv) <;> (subst hO; rfl)), (by (conv => lhs; cbv) <;> (subst hO; rfl))⟩), h⟩
      · conv => cbv
        rw [hQ]
        exact (.inl ⟨x0, x1, x2, nilE, nilE, _, ⟨rfl, rfl, (by subst hO; rfl), (by subst hO; rfl)⟩, h⟩)
    · obtain ⟨rfl, rfl⟩ := hs
      conv => cbv
      refine br_h hO h (by subst hO; rfl) (fun hc1 h => ?_) (fun hc1 h => ?_)
      · conv => cbv
        refine join_all hO ?_
        conv => cbv
        refine drawn_of hO tiA [[], [], [], [], []] [(0, true, false), (1, true, false), (2, true, false), (3, true, false), (4, true, false), (5, true, false), (6, true, false), (7, false, false), (8, false, false), (9, false, true), (10, true, true), (11, false, true)] (by kernel_rfl) ?_
        conv => cbv
        refine and_h h (fun g => (by subst hO; exact g)) (fun h => ?_)
        refine and_h h (fun g => (by subst hO; exact g)) (fun h => ?_)
        obtain ⟨c3, c4, c5, hr, h⟩ := rw_i64_i64_l3_inv h
        refine elem_of hO _ (by subst hO; exact hr) ?_
        clear hr
        conv => cbv
        refine call_h hO [.shut] (d_p101 fu O.len hN h) ?_
        intro os Q hos hQ
        conv => cbv
        refine ⟨(by (rw [hos]) <;> (subst hO; rfl)), ?_⟩
        intro r bs hq
        rw [hQ] at hq
        clear hos hQ h
        obtain ⟨y6, y7, y8, _, ⟨rfl, rfl⟩, h⟩ := hq
        conv => cbv
        refine ⟨agree_of hO (Nat.le_of_ble_eq_true rfl) rfl, ?_⟩
        refine ⟨agree_of hO (Nat.le_of_ble_eq_true rfl) rfl, ?_⟩
        refine view_h hO h (fun g => (by subst hO; exact g)) (fun h => ?_)
        conv => cbv
        refine ⟨(by subst hO; rfl), ?_⟩
        refine and_h h (fun g => (by subst hO; exact g)) (fun h => ?_)
        refine join_all hO ?_
        conv => cbv
        exact hLn1 n1 _ _ (Nat.lt_succ_self n1) ⟨(z1 ++ (List.take 1 [[(CV.v (.int .i64 y6)), (CV.v (.int .i64 y7)), (CV.sl 3 y8 none)]])), binStd .add .i64 z2 1, (.inr ⟨(by (conv => lhs; cbv) <;> (subst hO; rfl)), (by (conv => lhs; cbv) <;> (subst hO; rfl))⟩), h⟩
      · conv => cbv
        refine ⟨(by subst hO; exact Nat.le_refl _), ?_⟩
        rw [hQ]
        exact (.inr ⟨x0, x1, x2, z1, nilE, _, ⟨rfl, (by subst hO; rfl), (by subst hO; rfl)⟩, h⟩)
end Go.Proofs.Ythncmjlcmlmnmaa

namespace Go.Proofs.Ythncmjlcmlmnmaa
open Go V
set_option maxRecDepth 100000
set_option maxHeartbeats 4000000
def p142_1 {ρ : Type} (fail : ρ) (fu : Nat)  (K0 : Int → ρ)   (j1 : Bool) : ρ :=
  bif j1 then (K0 1) else (K0 0)
/-- ref5.Binds -/
def p142 {ρ : Type} (fail : ρ) (fu : Nat)  (K0 : Int → ρ) (x0 : Int) (x1 : Int) : ρ :=
  bif (cmpStd .eql x0 4) then (bif (cmpStd .eql x1 1) then (p142_1 fail fu  K0  true) else (bif (cmpStd .eql x0 6) then (p142_1 fail fu  K0  (cmpStd .eql x1 2)) else (p142_1 fail fu  K0  false))) else (bif (cmpStd .eql x0 5) then (bif (cmpStd .eql x1 1) then (p142_1 fail fu  K0  true) else (bif (cmpStd .eql x0 6) then (p142_1 fail fu  K0  (cmpStd .eql x1 2)) else (p142_1 fail fu  K0  false))) else (bif (cmpStd .eql x0 6) then (p142_1 fail fu  K0  (cmpStd .eql x1 2)) else (p142_1 fail fu  K0  false)))
theorem d_p142 (fu : Nat)  {K0 : Int → Prop} (L : EL → Nat) (hN : L = List.length) {x0 : Int} {x1 : Int} (h : p142 False fu K0 x0 x1) : Den Try.prog G0 142 [.c (.v (.int .i64 x0)), .c (.v (.int .i64 x1))] (fun r bs => (∃ (y0 : Int) (o0 : OV) (o1 : OV), (r = .c (.v (.int .i64 y0)) ∧ bs = [o0, o1]) ∧ K0 y0)) := by
  obtain ⟨O, hO⟩ : ∃ O, O = std 0 T G0 (Den Try.prog G0) := ⟨_, rfl⟩
  have hLO : L = O.len := by rw [hN, hO]; rfl
  subst hLO
  refine den_h hO tiA mixed tabOk (fn := Try.f142) (sh := true) (by kernel_rfl) rfl rfl rfl rfl ?_
  intro Q hQ
  unfold p142 at h
  conv => cbv
  refine reg_join hO tiA [22] [] [] (fun tm m => ∃ (j1 : Bool), ((tm = frame 0 23 [(22, .c (.v (.bool j1)))] ∧ m = ⟨[], 1⟩)) ∧ p142_1 False fu  K0  j1) (fun L hL_1 => ?_) ?_
  · conv => cbv
    refine br_h hO h (by subst hO; rfl) (fun hc2 h => ?_) (fun hc2 h => ?_)
    · conv => cbv
      refine br_t hO hc2 ?_
      conv => cbv
      refine br_t hO hc2 ?_
      conv => cbv
      refine br_t hO rfl ?_
      conv => cbv
      refine br_t hO rfl ?_
      conv => cbv
      refine br_t hO rfl ?_
      conv => cbv
      refine br_h hO h (by subst hO; rfl) (fun hc3 h => ?_) (fun hc3 h => ?_)
      · conv => cbv
        refine br_t hO hc3 ?_
        conv => cbv
        refine br_t hO hc3 ?_
        conv => cbv
        refine br_t hO hc3 ?_
        conv => cbv
        refine br_t hO hc3 ?_
        conv => cbv
        exact hL_1 _ _ ⟨true, ⟨(by (conv => lhs; cbv) <;> (subst hO; rfl)), (by (conv => lhs; cbv) <;> (subst hO; rfl))⟩, h⟩
      · conv => cbv
        refine br_f hO hc3 ?_
        conv => cbv
        refine br_f hO hc3 ?_
        conv => cbv
        refine br_h hO h (by subst hO; rfl) (fun hc4 h => ?_) (fun hc4 h => ?_)
        · conv => cbv
          refine br_t hO hc4 ?_
          conv => cbv
          refine br_f hO hc3 ?_
          conv => cbv
          refine br_t hO hc4 ?_
          conv => cbv
          refine br_f hO hc3 ?_
          conv => cbv
          exact hL_1 _ _ ⟨(cmpStd .eql x1 2), ⟨(by (conv => lhs; cbv) <;> (subst hO; rfl)), (by (conv => lhs; cbv) <;> (subst hO; rfl))⟩, h⟩
        · conv => cbv
          refine br_f hO hc4 ?_
          conv => cbv
          refine br_f hO hc3 ?_
          conv => cbv
          refine br_f hO hc4 ?_
          conv => cbv
          refine br_f hO hc3 ?_
          conv => cbv
          exact hL_1 _ _ ⟨false, ⟨(by (conv => lhs; cbv) <;> (subst hO; rfl)), (by (conv => lhs; cbv) <;> (subst hO; rfl))⟩, h⟩
    · conv => cbv
      refine br_f hO hc2 ?_
      conv => cbv
      refine br_f hO hc2 ?_
      conv => cbv
      refine br_h hO h (by subst hO; rfl) (fun hc5 h => ?_) (fun hc5 h => ?_)
      · conv => cbv
        refine br_t hO hc5 ?_
        conv => cbv
        refine br_t hO hc5 ?_
        conv => cbv
        refine br_h hO h (by subst hO; rfl) (fun hc6 h => ?_) (fun hc6 h => ?_)
        · conv => cbv
          refine br_t hO hc6 ?_
          conv => cbv
          refine br_t hO hc6 ?_
          conv => cbv
          refine br_t hO hc6 ?_
          conv => cbv
          refine br_t hO hc6 ?_
          conv => cbv
          exact hL_1 _ _ ⟨true, ⟨(by (conv => lhs; cbv) <;> (subst hO; rfl)), (by (conv => lhs; cbv) <;> (subst hO; rfl))⟩, h⟩
        · conv => cbv
          refine br_f hO hc6 ?_
          conv => cbv
          refine br_f hO hc6 ?_
          conv => cbv
          refine br_h hO h (by subst hO; rfl) (fun hc7 h => ?_) (fun hc7 h => ?_)
          · conv => cbv
            refine br_t hO hc7 ?_
            conv => cbv
            refine br_f hO hc6 ?_
            conv => cbv
            refine br_t hO hc7 ?_
            conv => cbv
            refine br_f hO hc6 ?_
            conv => cbv
            exact hL_1 _ _ ⟨(cmpStd .eql x1 2), ⟨(by (conv => lhs; cbv) <;> (subst hO; rfl)), (by (conv => lhs; cbv) <;> (subst hO; rfl))⟩, h⟩
          · conv => cbv
            refine br_f hO hc7 ?_
            conv => cbv
            refine br_f hO hc6 ?_
            conv => cbv
            refine br_f hO hc7 ?_
            conv => cbv
            refine br_f hO hc6 ?_
            conv => cbv
            exact hL_1 _ _ ⟨false, ⟨(by (conv => lhs; cbv) <;> (subst hO; rfl)), (by (conv => lhs; cbv) <;> (subst hO; rfl))⟩, h⟩
      · conv => cbv
        refine br_f hO hc5 ?_
        conv => cbv
        refine br_f hO hc5 ?_
        conv => cbv
        refine br_f hO rfl ?_
        conv => cbv
        refine br_f hO rfl ?_
        conv => cbv
        refine br_f hO rfl ?_
        conv => cbv
        refine br_h hO h (by subst hO; rfl) (fun hc8 h => ?_) (fun hc8 h => ?_)
        · conv => cbv
          refine br_t hO hc8 ?_
          conv => cbv
          refine br_f hO rfl ?_
          conv => cbv
          refine br_t hO hc8 ?_
          conv => cbv
          refine br_f hO rfl ?_
          conv => cbv
          exact hL_1 _ _ ⟨(cmpStd .eql x1 2), ⟨(by (conv => lhs; cbv) <;> (subst hO; rfl)), (by (conv => lhs; cbv) <;> (subst hO; rfl))⟩, h⟩
        · conv => cbv
          refine br_f hO hc8 ?_
          conv => cbv
          refine br_f hO rfl ?_
          conv => cbv
          refine br_f hO hc8 ?_
          conv => cbv
          refine br_f hO rfl ?_
          conv => cbv
          exact hL_1 _ _ ⟨false, ⟨(by (conv => lhs; cbv) <;> (subst hO; rfl)), (by (conv => lhs; cbv) <;> (subst hO; rfl))⟩, h⟩
  · rintro tm m ⟨j1, hs, h⟩
    unfold p142_1 at h
    obtain ⟨rfl, rfl⟩ := hs
    conv => cbv
    refine br_h hO h (by subst hO; rfl) (fun hc1 h => ?_) (fun hc1 h => ?_)
    · conv => cbv
      rw [hQ]
      exact ⟨1, _, _, ⟨(by subst hO; rfl), (by subst hO; rfl)⟩, h⟩
    · conv => cbv
      refine join_all hO ?_
      conv => cbv
      rw [hQ]
      exact ⟨0, _, _, ⟨(by subst hO; rfl), (by subst hO; rfl)⟩, h⟩
end Go.Proofs.Ythncmjlcmlmnmaa

namespace Go.Proofs.Ythncmjlcmlmnmaa
open Go V
set_option maxRecDepth 100000
set_option maxHeartbeats 4000000
def p131_1 {ρ : Type} (fail : ρ) (fu : Nat) (s_p131 : (Int → Int → ByteArray → EL → EL → ρ) → Int → Int → ByteArray → EL → EL → Int → Int → ρ) (K0 : Int → Int → ByteArray → EL → EL → ρ) (rec1 : EL → Int → ρ) (x0 : Int) (x4 : EL) (x5 : Int) (x6 : Int) (y1 : Int) (y3 : ByteArray) (y4 : EL) (j7 : Int) (z8 : EL) (z9 : Int) : ρ :=
  bif (cmpStd .lss z9 ((x4.length : Nat) : Int)) then (gd ((0 : Int) ≤ z9) fail (gd ((z9 : Int) < (x4.length : Nat)) fail (rw_i64_i64_s_l3_l5 fail (List.getD x4 ((z9 : Int).toNat) []) (fun c10 c11 c12 c13 c14 => p142 fail fu (fun y15 => s_p131 (fun y16 y17 y18 y19 y20 => gd (1 ≤ [[(CV.v (.int .i64 y16)), (CV.v (.int .i64 y17)), (CV.v (.string y18)), (CV.sl 3 y19 none), (CV.sl 5 y20 none)]].length) fail (gd ((z8.length + (List.take 1 [[(CV.v (.int .i64 y16)), (CV.v (.int .i64 y17)), (CV.v (.string y18)), (CV.sl 3 y19 none), (CV.sl 5 y20 none)]]).length) * 80 ≤ 35184372088832) fail (rec1 (z8 ++ (List.take 1 [[(CV.v (.int .i64 y16)), (CV.v (.int .i64 y17)), (CV.v (.string y18)), (CV.sl 3 y19 none), (CV.sl 5 y20 none)]])) (binStd .add .i64 z9 1)))) c10 c11 c12 c13 c14 x5 (binStd .add .i64 x6 y15)) x0 z9)))) else (K0 y1 j7 y3 y4 z8)
def p131_1L {ρ : Type} (fail : ρ) (fu : Nat) (s_p131 : (Int → Int → ByteArray → EL → EL → ρ) → Int → Int → ByteArray → EL → EL → Int → Int → ρ) (K0 : Int → Int → ByteArray → EL → EL → ρ)  (x0 : Int) (x4 : EL) (x5 : Int) (x6 : Int) (y1 : Int) (y3 : ByteArray) (y4 : EL) (j7 : Int) : Nat → EL → Int → ρ
  | 0, _, _ => fail
  | n + 1, z8, z9 => p131_1 fail fu s_p131 K0 (p131_1L fail fu s_p131 K0  x0 x4 x5 x6 y1 y3 y4 j7 n) x0 x4 x5 x6 y1 y3 y4 j7 z8 z9
def p131_2 {ρ : Type} (fail : ρ) (fu : Nat) (s_p131 : (Int → Int → ByteArray → EL → EL → ρ) → Int → Int → ByteArray → EL → EL → Int → Int → ρ) (K0 : Int → Int → ByteArray → EL → EL → ρ)  (x0 : Int) (x4 : EL) (x5 : Int) (x6 : Int) (y1 : Int) (y3 : ByteArray) (y4 : EL) (y5 : EL) (j7 : Int) : ρ :=
  p131_1L fail fu s_p131 K0 x0 x4 x5 x6 y1 y3 y4 j7 fu y5 0
def p131_3 {ρ : Type} (fail : ρ) (fu : Nat) (s_p131 : (Int → Int → ByteArray → EL → EL → ρ) → Int → Int → ByteArray → EL → EL → Int → Int → ρ) (K0 : Int → Int → ByteArray → EL → EL → ρ)  (x0 : Int) (x1 : Int) (x4 : EL) (x5 : Int) (x6 : Int) (y1 : Int) (y2 : Int) (y3 : ByteArray) (y4 : EL) (y5 : EL) (j6 : Bool) : ρ :=
  bif j6 then (p131_2 fail fu s_p131 K0 x0 x4 x5 x6 y1 y3 y4 y5 (binStd .add .i64 x1 x5)) else (p131_2 fail fu s_p131 K0 x0 x4 x5 x6 y1 y3 y4 y5 y2)
/-- ref5.lift -/
def p131_b {ρ : Type} (fail : ρ) (fu : Nat) (s_p131 : (Int → Int → ByteArray → EL → EL → ρ) → Int → Int → ByteArray → EL → EL → Int → Int → ρ) (K0 : Int → Int → ByteArray → EL → EL → ρ) (x0 : Int) (x1 : Int) (x2 : ByteArray) (x3 : EL) (x4 : EL) (x5 : Int) (x6 : Int) : ρ :=
  p135 fail fu (fun y1 y2 y3 y4 y5 => bif (cmpStd .eql x0 0) then (p131_3 fail fu s_p131 K0 x0 x1 x4 x5 x6 y1 y2 y3 y4 y5 (cmpStd .geq x1 x6)) else (p131_3 fail fu s_p131 K0 x0 x1 x4 x5 x6 y1 y2 y3 y4 y5 false)) x0 x1 x2 x3 x4
def p131 {ρ : Type} (fail : ρ) : Nat → (Int → Int → ByteArray → EL → EL → ρ) → Int → Int → ByteArray → EL → EL → Int → Int → ρ
  | 0, _, _, _, _, _, _, _, _ => fail
  | n + 1, K0, x0, x1, x2, x3, x4, x5, x6 => p131_b fail n (p131 fail n) K0 x0 x1 x2 x3 x4 x5 x6
def D_p131 (fu : Nat) : Prop := ∀ {K0 : Int → Int → ByteArray → EL → EL → Prop} (L : EL → Nat) (_ : L = List.length) {x0 : Int} {x1 : Int} {x2 : ByteArray} {x3 : EL} {x4 : EL} {x5 : Int} {x6 : Int} (_ : p131 False fu K0 x0 x1 x2 x3 x4 x5 x6), Den Try.prog G0 131 [.agg [.c (.v (.int .i64 x0)), .c (.v (.int .i64 x1)), .c (.v (.string x2)), .c (.sl 3 x3 none), .c (.sl 5 x4 none)], .c (.v (.int .i64 x5)), .c (.v (.int .i64 x6))] (fun r bs => (∃ (y0 : Int) (y1 : Int) (y2 : ByteArray) (y3 : EL) (y4 : EL) (o0 : OV) (o1 : OV) (o2 : OV), (r = .agg [.c (.v (.int .i64 y0)), .c (.v (.int .i64 y1)), .c (.v (.string y2)), .c (.sl 3 y3 none), .c (.sl 5 y4 none)] ∧ bs = [o0, o1, o2]) ∧ K0 y0 y1 y2 y3 y4))
theorem b_p131 (fu : Nat) (ih_p131 : D_p131 fu) {K0 : Int → Int → ByteArray → EL → EL → Prop} (L : EL → Nat) (hN : L = List.length) {x0 : Int} {x1 : Int} {x2 : ByteArray} {x3 : EL} {x4 : EL} {x5 : Int} {x6 : Int} (h : p131_b False fu (p131 False fu) K0 x0 x1 x2 x3 x4 x5 x6) : Den Try.prog G0 131 [.agg [.c (.v (.int .i64 x0)), .c (.v (.int .i64 x1)), .c (.v (.string x2)), .c (.sl 3 x3 none), .c (.sl 5 x4 none)], .c (.v (.int .i64 x5)), .c (.v (.int .i64 x6))] (fun r bs => (∃ (y0 : Int) (y1 : Int) (y2 : ByteArray) (y3 : EL) (y4 : EL) (o0 : OV) (o1 : OV) (o2 : OV), (r = .agg [.c (.v (.int .i64 y0)), .c (.v (.int .i64 y1)), .c (.v (.string y2)), .c (.sl 3 y3 none), .c (.sl 5 y4 none)] ∧ bs = [o0, o1, o2]) ∧ K0 y0 y1 y2 y3 y4)) := by
  obtain ⟨O, hO⟩ : ∃ O, O = std 0 T G0 (Den Try.prog G0) := ⟨_, rfl⟩
  have hLO : L = O.len := by rw [hN, hO]; rfl
  subst hLO
  refine den_h hO tiA mixed tabOk (fn := Try.f131) (sh := true) (by kernel_rfl) rfl rfl rfl rfl ?_
  intro Q hQ
  unfold p131_b at h
  conv => cbv
  refine call_h hO [.shut] (d_p135 fu O.len hN h) ?_
  intro os Q hos hQ
  conv => cbv
  refine ⟨(by (rw [hos]) <;> (subst hO; rfl)), ?_⟩
  intro r bs hq
  rw [hQ] at hq
  clear hos hQ h
  rcases hq with hq | hq
  · obtain ⟨y1, y2, y3, y4, y5, _, ⟨rfl, rfl, rfl, rfl⟩, h⟩ := hq
    conv => cbv
    refine reg_join hO tiA [1, 2, 3, 6, 7, 19] [4000, 7000, 8000] [] (fun tm m => ∃ (j6 : Bool), ((tm = frame 0 51 [(1, .c (.v (.int .i64 x5))), (2, .c (.v (.int .i64 x6))), (3, .p 4000 0 0), (6, .p 7000 0 0), (7, .p 8000 0 0), (19, .c (.v (.bool j6)))] ∧ m = ⟨[(4000, .blk 0 [.c (.v (.int .i64 x0)), .c (.v (.int .i64 x1)), .c (.v (.string x2)), .c (.sl 3 x3 none), .c (.sl 5 x4 none)]), (7000, .blk 0 [.c (.v (.int .i64 0)), .c (.v (.int .i64 0)), .c (.v (.string ⟨#[]⟩)), .c (.sl 3 [] (some [])), .c (.sl 5 [] (some []))]), (8000, .blk 0 [.c (.v (.int .i64 y1)), .c (.v (.int .i64 y2)), .c (.v (.string y3)), .c (.sl 3 [] (some [])), .c (.sl 5 [] (some []))])], 1⟩)) ∧ p131_3 False fu (p131 False fu) K0 x0 x1 x4 x5 x6 y1 y2 y3 nilE nilE j6) (fun L hL_3 => ?_) ?_
    · conv => cbv
      refine br_h hO h (by subst hO; rfl) (fun hc3 h => ?_) (fun hc3 h => ?_)
      · conv => cbv
        refine br_t hO hc3 ?_
        conv => cbv
        refine br_t hO hc3 ?_
        conv => cbv
        refine br_t hO hc3 ?_
        conv => cbv
        refine br_t hO hc3 ?_
        conv => cbv
        exact hL_3 _ _ ⟨(cmpStd .geq x1 x6), ⟨(by (conv => lhs; cbv) <;> (subst hO; rfl)), (by (conv => lhs; cbv) <;> (subst hO; rfl))⟩, h⟩
      · conv => cbv
        refine br_f hO hc3 ?_
        conv => cbv
        refine br_f hO hc3 ?_
        conv => cbv
        refine br_f hO hc3 ?_
        conv => cbv
        refine br_f hO hc3 ?_
        conv => cbv
        exact hL_3 _ _ ⟨false, ⟨(by (conv => lhs; cbv) <;> (subst hO; rfl)), (by (conv => lhs; cbv) <;> (subst hO; rfl))⟩, h⟩
    · rintro tm m ⟨j6, hs, h⟩
      unfold p131_3 at h
      obtain ⟨rfl, rfl⟩ := hs
      conv => cbv
      refine br_join_h hO tiA h (by subst hO; rfl) [1, 2, 3, 6, 7] [4000, 7000, 8000] [] (fun tm m => ∃ (j7 : Int), ((tm = frame 0 51 [(1, .c (.v (.int .i64 x5))), (2, .c (.v (.int .i64 x6))), (3, .p 4000 0 0), (6, .p 7000 0 0), (7, .p 8000 0 0)] ∧ m = ⟨[(4000, .blk 0 [.c (.v (.int .i64 x0)), .c (.v (.int .i64 x1)), .c (.v (.string x2)), .c (.sl 3 x3 none), .c (.sl 5 x4 none)]), (7000, .blk 0 [.c (.v (.int .i64 0)), .c (.v (.int .i64 0)), .c (.v (.string ⟨#[]⟩)), .c (.sl 3 [] (some [])), .c (.sl 5 [] (some []))]), (8000, .blk 0 [.c (.v (.int .i64 y1)), .c (.v (.int .i64 j7)), .c (.v (.string y3)), .c (.sl 3 [] (some [])), .c (.sl 5 [] (some []))])], 1⟩)) ∧ p131_2 False fu (p131 False fu) K0 x0 x4 x5 x6 y1 y3 nilE nilE j7) (fun hc2 h L hL_2 => ?_) (fun hc2 h L hL_2 => ?_) ?_
      · conv => cbv
        exact hL_2 _ _ ⟨binStd .add .i64 x1 x5, ⟨(by (conv => lhs; cbv) <;> (subst hO; rfl)), (by (conv => lhs; cbv) <;> (subst hO; rfl))⟩, h⟩
      · conv => cbv
        exact hL_2 _ _ ⟨y2, ⟨(by (conv => lhs; cbv) <;> (subst hO; rfl)), (by (conv => lhs; cbv) <;> (subst hO; rfl))⟩, h⟩
      · rintro tm m ⟨j7, hs, h⟩
        unfold p131_2 at h
        obtain ⟨rfl, rfl⟩ := hs
        conv => cbv
        refine loop_of hO tiA [1, 2, 3, 6, 7, 8] [4000, 7000, 8000, 49000] [] (fun (n : Nat) tm m => ∃ (z8 : EL) (z9 : Int), ((z8 = [] ∧ tm = frame 0 51 [(1, .c (.v (.int .i64 x5))), (2, .c (.v (.int .i64 x6))), (3, .p 4000 0 0), (6, .p 7000 0 0), (7, .p 8000 0 0), (8, .c (.v (.int .i64 z9)))] ∧ m = ⟨[(4000, .blk 0 [.c (.v (.int .i64 x0)), .c (.v (.int .i64 x1)), .c (.v (.string x2)), .c (.sl 3 x3 none), .c (.sl 5 x4 none)]), (7000, .blk 0 [.c (.v (.int .i64 0)), .c (.v (.int .i64 0)), .c (.v (.string ⟨#[]⟩)), .c (.sl 3 [] (some [])), .c (.sl 5 [] (some []))]), (8000, .blk 0 [.c (.v (.int .i64 y1)), .c (.v (.int .i64 j7)), .c (.v (.string y3)), .c (.sl 3 [] (some [])), .c (.sl 5 [] (some []))])], 1⟩) ∨ (tm = frame 0 51 [(1, .c (.v (.int .i64 x5))), (2, .c (.v (.int .i64 x6))), (3, .p 4000 0 0), (6, .p 7000 0 0), (7, .p 8000 0 0), (8, .c (.v (.int .i64 z9)))] ∧ m = ⟨[(4000, .blk 0 [.c (.v (.int .i64 x0)), .c (.v (.int .i64 x1)), .c (.v (.string x2)), .c (.sl 3 x3 none), .c (.sl 5 x4 none)]), (7000, .blk 0 [.c (.v (.int .i64 0)), .c (.v (.int .i64 0)), .c (.v (.string ⟨#[]⟩)), .c (.sl 3 [] (some [])), .c (.sl 5 [] (some []))]), (8000, .blk 0 [.c (.v (.int .i64 y1)), .c (.v (.int .i64 j7)), .c (.v (.string y3)), .c (.sl 3 [] (some [])), .t 49000 0 (O.len z8)]), (49000, .arr 0 5 z8 none false)], 1⟩)) ∧ p131_1L False fu (p131 False fu) K0 x0 x4 x5 x6 y1 y3 nilE j7 n z8 z9) (fun n => n) fu ⟨nilE, 0, (.inl ⟨rfl, (by (conv => lhs; cbv) <;> (subst hO; rfl)), (by (conv => lhs; cbv) <;> (subst hO; rfl))⟩), h⟩ ?_
        rintro n1 tm m L ⟨z8, z9, hs, h⟩ hLn1
        cases n1 with
        | zero => rw [p131_1L] at h; exact h.elim
        | succ n1 =>
          rw [p131_1L] at h
          unfold p131_1 at h
          rcases hs with hs | hs
          · obtain ⟨rfl, rfl, rfl⟩ := hs
            conv => cbv
            refine br_h hO h (by subst hO; rfl) (fun hc1 h => ?_) (fun hc1 h => ?_)
            · conv => cbv
              refine join_all hO ?_
              conv => cbv
              refine drawn_of hO tiA [[], [], [], [], [], []] [(0, true, false), (1, true, false), (2, true, false), (3, true, false), (4, true, false), (5, true, false), (6, true, false), (7, true, false), (8, true, false), (9, true, false), (10, true, false), (11, true, false), (12, false, false), (13, true, false), (14, false, false), (15, false, false), (16, false, true), (17, true, true), (18, false, true)] (by kernel_rfl) ?_
              conv => cbv
              refine and_h h (fun g => (by subst hO; exact g)) (fun h => ?_)
              refine and_h h (fun g => (by subst hO; exact g)) (fun h => ?_)
              obtain ⟨c10, c11, c12, c13, c14, hr, h⟩ := rw_i64_i64_s_l3_l5_inv h
              refine elem_of hO _ (by subst hO; exact hr) ?_
              clear hr
              conv => cbv
              refine call_h hO [.shut, .shut] (d_p142 fu O.len hN h) ?_
              intro os Q hos hQ
              conv => cbv
              refine ⟨(by (rw [hos]) <;> (subst hO; rfl)), ?_⟩
              intro r bs hq
              rw [hQ] at hq
              clear hos hQ h
              obtain ⟨y15, _, _, ⟨rfl, rfl⟩, h⟩ := hq
              conv => cbv
              refine ⟨agree_of hO (Nat.le_of_ble_eq_true rfl) rfl, ?_⟩
              refine call_h hO [.shut, .shut, .shut] (ih_p131 O.len hN h) ?_
              intro os Q hos hQ
              conv => cbv
              refine ⟨(by (rw [hos]) <;> (subst hO; rfl)), ?_⟩
              intro r bs hq
              rw [hQ] at hq
              clear hos hQ h
              obtain ⟨y16, y17, y18, y19, y20, _, _, _, ⟨rfl, rfl⟩, h⟩ := hq
              conv => cbv
              refine ⟨agree_of hO (Nat.le_of_ble_eq_true rfl) rfl, ?_⟩
              refine ⟨agree_of hO (Nat.le_of_ble_eq_true rfl) rfl, ?_⟩
              refine view_h hO h (fun g => (by subst hO; exact g)) (fun h => ?_)
              conv => cbv
              refine and_h h (fun g => (by subst hO; exact g)) (fun h => ?_)
              refine emp_no hO (by subst hO; exact List.cons_ne_nil _ _) ?_
              conv => cbv
              refine join_all hO ?_
              conv => cbv
              exact hLn1 n1 _ _ (Nat.lt_succ_self n1) ⟨(nilE ++ (List.take 1 [[(CV.v (.int .i64 y16)), (CV.v (.int .i64 y17)), (CV.v (.string y18)), (CV.sl 3 y19 none), (CV.sl 5 y20 none)]])), binStd .add .i64 z9 1, (.inr ⟨(by (conv => lhs; cbv) <;> (subst hO; rfl)), (by (conv => lhs; cbv) <;> (subst hO; rfl))⟩), h⟩
            · conv => cbv
              rw [hQ]
              exact ⟨y1, j7, y3, nilE, nilE, _, _, _, ⟨(by subst hO; rfl), (by subst hO; rfl)⟩, h⟩
          · obtain ⟨rfl, rfl⟩ := hs
            conv => cbv
            refine br_h hO h (by subst hO; rfl) (fun hc1 h => ?_) (fun hc1 h => ?_)
            · conv => cbv
              refine join_all hO ?_
              conv => cbv
              refine drawn_of hO tiA [[], [], [], [], [], []] [(0, true, false), (1, true, false), (2, true, false), (3, true, false), (4, true, false), (5, true, false), (6, true, false), (7, true, false), (8, true, false), (9, true, false), (10, true, false), (11, true, false), (12, false, false), (13, true, false), (14, false, false), (15, false, false), (16, false, true), (17, true, true), (18, false, true)] (by kernel_rfl) ?_
              conv => cbv
              refine and_h h (fun g => (by subst hO; exact g)) (fun h => ?_)
              refine and_h h (fun g => (by subst hO; exact g)) (fun h => ?_)
              obtain ⟨c10, c11, c12, c13, c14, hr, h⟩ := rw_i64_i64_s_l3_l5_inv h
              refine elem_of hO _ (by subst hO; exact hr) ?_
              clear hr
              conv => cbv
              refine call_h hO [.shut, .shut] (d_p142 fu O.len hN h) ?_
              intro os Q hos hQ
              conv => cbv
              refine ⟨(by (rw [hos]) <;> (subst hO; rfl)), ?_⟩
              intro r bs hq
              rw [hQ] at hq
              clear hos hQ h
              obtain ⟨y15, _, _, ⟨rfl, rfl⟩, h⟩ := hq
              conv => cbv
              refine ⟨agree_of hO (Nat.le_of_ble_eq_true rfl) rfl, ?_⟩
              refine call_h hO [.shut, .shut, .shut] (ih_p131 O.len hN h) ?_
              intro os Q hos hQ
              conv => cbv
              refine ⟨(by (rw [hos]) <;> (subst hO; rfl)), ?_⟩
              intro r bs hq
              rw [hQ] at hq
              clear hos hQ h
              obtain ⟨y16, y17, y18, y19, y20, _, _, _, ⟨rfl, rfl⟩, h⟩ := hq
              conv => cbv
              refine ⟨agree_of hO (Nat.le_of_ble_eq_true rfl) rfl, ?_⟩
              refine ⟨agree_of hO (Nat.le_of_ble_eq_true rfl) rfl, ?_⟩
              refine view_h hO h (fun g => (by subst hO; exact g)) (fun h => ?_)
              conv => cbv
              refine ⟨(by subst hO; rfl), ?_⟩
              refine and_h h (fun g => (by subst hO; exact g)) (fun h => ?_)
              refine join_all hO ?_
              conv => cbv
              exact hLn1 n1 _ _ (Nat.lt_succ_self n1) ⟨(z8 ++ (List.take 1 [[(CV.v (.int .i64 y16)), (CV.v (.int .i64 y17)), (CV.v (.string y18)), (CV.sl 3 y19 none), (CV.sl 5 y20 none)]])), binStd .add .i64 z9 1, (.inr ⟨(by (conv => lhs; cbv) <;> (subst hO; rfl)), (by (conv => lhs; cbv) <;> (subst hO; rfl))⟩), h⟩
            · conv => cbv
              refine view_full hO ?_
              conv => cbv
              rw [hQ]
              exact ⟨y1, j7, y3, nilE, z8, _, _, _, ⟨(by subst hO; rfl), (by subst hO; rfl)⟩, h⟩
  · obtain ⟨y1, y2, y3, y4, y5, _, ⟨rfl, rfl, rfl⟩, h⟩ := hq
    conv => cbv
    refine reg_join hO tiA [1, 2, 3, 6, 7, 19] [4000, 7000, 8000, 11000] [] (fun tm m => ∃ (j6 : Bool), ((tm = frame 0 51 [(1, .c (.v (.int .i64 x5))), (2, .c (.v (.int .i64 x6))), (3, .p 4000 0 0), (6, .p 7000 0 0), (7, .p 8000 0 0), (19, .c (.v (.bool j6)))] ∧ m = ⟨[(4000, .blk 0 [.c (.v (.int .i64 x0)), .c (.v (.int .i64 x1)), .c (.v (.string x2)), .c (.sl 3 x3 none), .c (.sl 5 x4 none)]), (7000, .blk 0 [.c (.v (.int .i64 0)), .c (.v (.int .i64 0)), .c (.v (.string ⟨#[]⟩)), .c (.sl 3 [] (some [])), .c (.sl 5 [] (some []))]), (8000, .blk 0 [.c (.v (.int .i64 y1)), .c (.v (.int .i64 y2)), .c (.v (.string y3)), .t 11000 0 (O.len y4), .c (.sl 5 [] (some []))]), (11000, .arr 0 3 y4 none false)], 1⟩)) ∧ p131_3 False fu (p131 False fu) K0 x0 x1 x4 x5 x6 y1 y2 y3 y4 nilE j6) (fun L hL_3 => ?_) ?_
    · conv => cbv
      refine br_h hO h (by subst hO; rfl) (fun hc3 h => ?_) (fun hc3 h => ?_)
      · conv => cbv
        refine br_t hO hc3 ?_
        conv => cbv
        refine br_t hO hc3 ?_
        conv => cbv
        refine br_t hO hc3 ?_
        conv => cbv
        refine br_t hO hc3 ?_
        conv => cbv
        exact hL_3 _ _ ⟨(cmpStd .geq x1 x6), ⟨(by (conv => lhs; cbv) <;> (subst hO; rfl)), (by (conv => lhs; cbv) <;> (subst hO; rfl))⟩, h⟩
      · conv => cbv
        refine br_f hO hc3 ?_
        conv => cbv
        refine br_f hO hc3 ?_
        conv => cbv
        refine br_f hO hc3 ?_
        conv => cbv
        refine br_f hO hc3 ?_
        conv => cbv
        exact hL_3 _ _ ⟨false, ⟨(by (conv => lhs; cbv) <;> (subst hO; rfl)), (by (conv => lhs; cbv) <;> (subst hO; rfl))⟩, h⟩
    · rintro tm m ⟨j6, hs, h⟩
      unfold p131_3 at h
      obtain ⟨rfl, rfl⟩ := hs
      conv => cbv
      refine br_join_h hO tiA h (by subst hO; rfl) [1, 2, 3, 6, 7] [4000, 7000, 8000, 11000] [] (fun tm m => ∃ (j7 : Int), ((tm = frame 0 51 [(1, .c (.v (.int .i64 x5))), (2, .c (.v (.int .i64 x6))), (3, .p 4000 0 0), (6, .p 7000 0 0), (7, .p 8000 0 0)] ∧ m = ⟨[(4000, .blk 0 [.c (.v (.int .i64 x0)), .c (.v (.int .i64 x1)), .c (.v (.string x2)), .c (.sl 3 x3 none), .c (.sl 5 x4 none)]), (7000, .blk 0 [.c (.v (.int .i64 0)), .c (.v (.int .i64 0)), .c (.v (.string ⟨#[]⟩)), .c (.sl 3 [] (some [])), .c (.sl 5 [] (some []))]), (8000, .blk 0 [.c (.v (.int .i64 y1)), .c (.v (.int .i64 j7)), .c (.v (.string y3)), .t 11000 0 (O.len y4), .c (.sl 5 [] (some []))]), (11000, .arr 0 3 y4 none false)], 1⟩)) ∧ p131_2 False fu (p131 False fu) K0 x0 x4 x5 x6 y1 y3 y4 nilE j7) (fun hc2 h L hL_2 => ?_) (fun hc2 h L hL_2 => ?_) ?_
      · conv => cbv
        exact hL_2 _ _ ⟨binStd .add .i64 x1 x5, ⟨(by (conv => lhs; cbv) <;> (subst hO; rfl)), (by (conv => lhs; cbv) <;> (subst hO; rfl))⟩, h⟩
      · conv => cbv
        exact hL_2 _ _ ⟨y2, ⟨(by (conv => lhs; cbv) <;> (subst hO; rfl)), (by (conv => lhs; cbv) <;> (subst hO; rfl))⟩, h⟩
      · rintro tm m ⟨j7, hs, h⟩
        unfold p131_2 at h
        obtain ⟨rfl, rfl⟩ := hs
        conv => cbv
        refine loop_of hO tiA [1, 2, 3, 6, 7, 8] [4000, 7000, 8000, 11000, 49000] [] (fun (n : Nat) tm m => ∃ (z8 : EL) (z9 : Int), ((z8 = [] ∧ tm = frame 0 51 [(1, .c (.v (.int .i64 x5))), (2, .c (.v (.int .i64 x6))), (3, .p 4000 0 0), (6, .p 7000 0 0), (7, .p 8000 0 0), (8, .c (.v (.int .i64 z9)))] ∧ m = ⟨[(4000, .blk 0 [.c (.v (.int .i64 x0)), .c (.v (.int .i64 x1)), .c (.v (.string x2)), .c (.sl 3 x3 none), .c (.sl 5 x4 none)]), (7000, .blk 0 [.c (.v (.int .i64 0)), .c (.v (.int .i64 0)), .c (.v (.string ⟨#[]⟩)), .c (.sl 3 [] (some [])), .c (.sl 5 [] (some []))]), (8000, .blk 0 [.c (.v (.int .i64 y1)), .c (.v (.int .i64 j7)), .c (.v (.string y3)), .t 11000 0 (O.len y4), .c (.sl 5 [] (some []))]), (11000, .arr 0 3 y4 none false)], 1⟩) ∨ (tm = frame 0 51 [(1, .c (.v (.int .i64 x5))), (2, .c (.v (.int .i64 x6))), (3, .p 4000 0 0), (6, .p 7000 0 0), (7, .p 8000 0 0), (8, .c (.v (.int .i64 z9)))] ∧ m = ⟨[(4000, .blk 0 [.c (.v (.int .i64 x0)), .c (.v (.int .i64 x1)), .c (.v (.string x2)), .c (.sl 3 x3 none), .c (.sl 5 x4 none)]), (7000, .blk 0 [.c (.v (.int .i64 0)), .c (.v (.int .i64 0)), .c (.v (.string ⟨#[]⟩)), .c (.sl 3 [] (some [])), .c (.sl 5 [] (some []))]), (8000, .blk 0 [.c (.v (.int .i64 y1)), .c (.v (.int .i64 j7)), .c (.v (.string y3)), .t 11000 0 (O.len y4), .t 49000 0 (O.len z8)]), (11000, .arr 0 3 y4 none false), (49000, .arr 0 5 z8 none false)], 1⟩)) ∧ p131_1L False fu (p131 False fu) K0 x0 x4 x5 x6 y1 y3 y4 j7 n z8 z9) (fun n => n) fu ⟨nilE, 0, (.inl ⟨rfl, (by (conv => lhs; cbv) <;> (subst hO; rfl)), (by (conv => lhs; cbv) <;> (subst hO; rfl))⟩), h⟩ ?_
        rintro n1 tm m L ⟨z8, z9, hs, h⟩ hLn1
        cases n1 with
        | zero => rw [p131_1L] at h; exact h.elim
        | succ n1 =>
          rw [p131_1L] at h
          unfold p131_1 at h
          rcases hs with hs | hs
          · obtain ⟨rfl, rfl, rfl⟩ := hs
            conv => cbv
            refine br_h hO h (by subst hO; rfl) (fun hc1 h => ?_) (fun hc1 h => ?_)
            · conv => cbv
              refine join_all hO ?_
              conv => cbv
              refine drawn_of hO tiA [[], [], [], [], [], []] [(0, true, false), (1, true, false), (2, true, false), (3, true, false), (4, true, false), (5, true, false), (6, true, false), (7, true, false), (8, true, false), (9, true, false), (10, true, false), (11, true, false), (12, false, false), (13, true, false), (14, false, false), (15, false, false), (16, false, true), (17, true, true), (18, false, true)] (by kernel_rfl) ?_
              conv => cbv
              refine and_h h (fun g => (by subst hO; exact g)) (fun h => ?_)
              refine and_h h (fun g => (by subst hO; exact g)) (fun h => ?_)
              obtain ⟨c10, c11, c12, c13, c14, hr, h⟩ := rw_i64_i64_s_l3_l5_inv h
              refine elem_of hO _ (by subst hO; exact hr) ?_
              clear hr
              conv => cbv
              refine call_h hO [.shut, .shut] (d_p142 fu O.len hN h) ?_
              intro os Q hos hQ
              conv => cbv
              refine ⟨(by (rw [hos]) <;> (subst hO; rfl)), ?_⟩
              intro r bs hq
              rw [hQ] at hq
              clear hos hQ h
              obtain ⟨y15, _, _, ⟨rfl, rfl⟩, h⟩ := hq
              conv => cbv
              refine ⟨agree_of hO (Nat.le_of_ble_eq_true rfl) rfl, ?_⟩
              refine call_h hO [.shut, .shut, .shut] (ih_p131 O.len hN h) ?_
              intro os Q hos hQ
              conv => cbv
              refine ⟨(by (rw [hos]) <;> (subst hO; rfl)), ?_⟩
              intro r bs hq
              rw [hQ] at hq
              clear hos hQ h
              obtain ⟨y16, y17, y18, y19, y20, _, _, _, ⟨rfl, rfl⟩, h⟩ := hq
              conv => cbv
              refine ⟨agree_of hO (Nat.le_of_ble_eq_true rfl) rfl, ?_⟩
              refine ⟨agree_of hO (Nat.le_of_ble_eq_true rfl) rfl, ?_⟩
              refine view_h hO h (fun g => (by subst hO; exact g)) (fun h => ?_)
              conv => cbv
              refine and_h h (fun g => (by subst hO; exact g)) (fun h => ?_)
              refine emp_no hO (by subst hO; exact List.cons_ne_nil _ _) ?_
              conv => cbv
              refine join_all hO ?_
              conv => cbv
              exact hLn1 n1 _ _ (Nat.lt_succ_self n1) ⟨(nilE ++ (List.take 1 [[(CV.v (.int .i64 y16)), (CV.v (.int .i64 y17)), (CV.v (.string y18)), (CV.sl 3 y19 none), (CV.sl 5 y20 none)]])), binStd .add .i64 z9 1, (.inr ⟨(by (conv => lhs; cbv) <;> (subst hO; rfl)), (by (conv => lhs; cbv) <;> (subst hO; rfl))⟩), h⟩
            · conv => cbv
              refine view_full hO ?_
              conv => cbv
              rw [hQ]
              exact ⟨y1, j7, y3, y4, nilE, _, _, _, ⟨(by subst hO; rfl), (by subst hO; rfl)⟩, h⟩
          · obtain ⟨rfl, rfl⟩ := hs
            conv => cbv
            refine br_h hO h (by subst hO; rfl) (fun hc1 h => ?_) (fun hc1 h => ?_)
            · conv => cbv
              refine join_all hO ?_
              conv => cbv
              refine drawn_of hO tiA [[], [], [], [], [], []] [(0, true, false), (1, true, false), (2, true, false), (3, true, false), (4, true, false), (5, true, false), (6, true, false), (7, true, false), (8, true, false), (9, true, false), (10, true, false), (11, true, false), (12, false, false), (13, true, false), (14, false, false), (15, false, false), (16, false, true), (17, true, true), (18, false, true)] (by kernel_rfl) ?_
              conv => cbv
              refine and_h h (fun g => (by subst hO; exact g)) (fun h => ?_)
              refine and_h h (fun g => (by subst hO; exact g)) (fun h => ?_)
              obtain ⟨c10, c11, c12, c13, c14, hr, h⟩ := rw_i64_i64_s_l3_l5_inv h
              refine elem_of hO _ (by subst hO; exact hr) ?_
              clear hr
              conv => cbv
              refine call_h hO [.shut, .shut] (d_p142 fu O.len hN h) ?_
              intro os Q hos hQ
              conv => cbv
              refine ⟨(by (rw [hos]) <;> (subst hO; rfl)), ?_⟩
              intro r bs hq
              rw [hQ] at hq
              clear hos hQ h
              obtain ⟨y15, _, _, ⟨rfl, rfl⟩, h⟩ := hq
              conv => cbv
              refine ⟨agree_of hO (Nat.le_of_ble_eq_true rfl) rfl, ?_⟩
              refine call_h hO [.shut, .shut, .shut] (ih_p131 O.len hN h) ?_
              intro os Q hos hQ
              conv => cbv
              refine ⟨(by (rw [hos]) <;> (subst hO; rfl)), ?_⟩
              intro r bs hq
              rw [hQ] at hq
              clear hos hQ h
              obtain ⟨y16, y17, y18, y19, y20, _, _, _, ⟨rfl, rfl⟩, h⟩ := hq
              conv => cbv
              refine ⟨agree_of hO (Nat.le_of_ble_eq_true rfl) rfl, ?_⟩
              refine ⟨agree_of hO (Nat.le_of_ble_eq_true rfl) rfl, ?_⟩
              refine view_h hO h (fun g => (by subst hO; exact g)) (fun h => ?_)
              conv => cbv
              refine ⟨(by subst hO; rfl), ?_⟩
              refine and_h h (fun g => (by subst hO; exact g)) (fun h => ?_)
              refine join_all hO ?_
              conv => cbv
              exact hLn1 n1 _ _ (Nat.lt_succ_self n1) ⟨(z8 ++ (List.take 1 [[(CV.v (.int .i64 y16)), (CV.v (.int .i64 y17)), (CV.v (.string y18)), (CV.sl 3 y19 none), (CV.sl 5 y20 none)]])), binStd .add .i64 z9 1, (.inr ⟨(by (conv => lhs; cbv) <;> (subst hO; rfl)), (by (conv => lhs; cbv) <;> (subst hO; rfl))⟩), h⟩
            · conv => cbv
              refine view_full hO ?_
              conv => cbv
              refine view_full hO ?_
              conv => cbv
              rw [hQ]
              exact ⟨y1, j7, y3, y4, z8, _, _, _, ⟨(by subst hO; rfl), (by subst hO; rfl)⟩, h⟩
theorem dd_p131 (fu : Nat) : D_p131 fu := by
  induction fu with
  | zero => unfold D_p131; intros; rename_i h; rw [p131] at h; exact h.elim
  | succ n ih =>
    exact (by unfold D_p131; intro K0 L hN x0 x1 x2 x3 x4 x5 x6 h; exact b_p131 n ih L hN (by rw [p131] at h; exact h))
theorem d_p131 (fu : Nat) {K0 : Int → Int → ByteArray → EL → EL → Prop} (L : EL → Nat) (hL : L = List.length) {x0 : Int} {x1 : Int} {x2 : ByteArray} {x3 : EL} {x4 : EL} {x5 : Int} {x6 : Int} (h : p131 False fu K0 x0 x1 x2 x3 x4 x5 x6) : Den Try.prog G0 131 [.agg [.c (.v (.int .i64 x0)), .c (.v (.int .i64 x1)), .c (.v (.string x2)), .c (.sl 3 x3 none), .c (.sl 5 x4 none)], .c (.v (.int .i64 x5)), .c (.v (.int .i64 x6))] (fun r bs => (∃ (y0 : Int) (y1 : Int) (y2 : ByteArray) (y3 : EL) (y4 : EL) (o0 : OV) (o1 : OV) (o2 : OV), (r = .agg [.c (.v (.int .i64 y0)), .c (.v (.int .i64 y1)), .c (.v (.string y2)), .c (.sl 3 y3 none), .c (.sl 5 y4 none)] ∧ bs = [o0, o1, o2]) ∧ K0 y0 y1 y2 y3 y4)) := dd_p131 fu L hL h
end Go.Proofs.Ythncmjlcmlmnmaa

namespace Go.Proofs.Ythncmjlcmlmnmaa
open Go V
set_option maxRecDepth 100000
set_option maxHeartbeats 4000000
/-- ref5.Copy -/
def p100 {ρ : Type} (fail : ρ) (fu : Nat)  (K0 : Int → Int → ByteArray → EL → EL → ρ) (x0 : Int) (x1 : Int) (x2 : ByteArray) (x3 : EL) (x4 : EL) : ρ :=
  p131 fail fu (fun y1 y2 y3 y4 y5 => K0 y1 y2 y3 y4 y5) x0 x1 x2 x3 x4 0 0
theorem d_p100 (fu : Nat)  {K0 : Int → Int → ByteArray → EL → EL → Prop} (L : EL → Nat) (hN : L = List.length) {x0 : Int} {x1 : Int} {x2 : ByteArray} {x3 : EL} {x4 : EL} (h : p100 False fu K0 x0 x1 x2 x3 x4) : Den Try.prog G0 100 [.agg [.c (.v (.int .i64 x0)), .c (.v (.int .i64 x1)), .c (.v (.string x2)), .c (.sl 3 x3 none), .c (.sl 5 x4 none)]] (fun r bs => (∃ (y0 : Int) (y1 : Int) (y2 : ByteArray) (y3 : EL) (y4 : EL) (o0 : OV), (r = .agg [.c (.v (.int .i64 y0)), .c (.v (.int .i64 y1)), .c (.v (.string y2)), .c (.sl 3 y3 none), .c (.sl 5 y4 none)] ∧ bs = [o0]) ∧ K0 y0 y1 y2 y3 y4)) := by
  obtain ⟨O, hO⟩ : ∃ O, O = std 0 T G0 (Den Try.prog G0) := ⟨_, rfl⟩
  have hLO : L = O.len := by rw [hN, hO]; rfl
  subst hLO
  refine den_h hO tiA mixed tabOk (fn := Try.f100) (sh := true) (by kernel_rfl) rfl rfl rfl rfl ?_
  intro Q hQ
  unfold p100 at h
  conv => cbv
  refine call_h hO [.shut, .shut, .shut] (d_p131 fu O.len hN h) ?_
  intro os Q hos hQ
  conv => cbv
  refine ⟨(by (rw [hos]) <;> (subst hO; rfl)), ?_⟩
  intro r bs hq
  rw [hQ] at hq
  clear hos hQ h
  obtain ⟨y1, y2, y3, y4, y5, _, _, _, ⟨rfl, rfl⟩, h⟩ := hq
  conv => cbv
  rw [hQ]
  exact ⟨y1, y2, y3, y4, y5, _, ⟨(by subst hO; rfl), (by subst hO; rfl)⟩, h⟩
end Go.Proofs.Ythncmjlcmlmnmaa

namespace Go.Proofs.Ythncmjlcmlmnmaa
open Go V
set_option maxRecDepth 100000
set_option maxHeartbeats 4000000
/-- ref5.Pi -/
def p48 {ρ : Type} (fail : ρ) (fu : Nat)  (K0 : Int → Int → ByteArray → EL → EL → ρ) (x0 : Int) (x1 : Int) (x2 : ByteArray) (x3 : EL) (x4 : EL) (x5 : Int) (x6 : Int) (x7 : ByteArray) (x8 : EL) (x9 : EL) : ρ :=
  p100 fail fu (fun y1 y2 y3 y4 y5 => gd (2 ≤ [[(CV.v (.int .i64 y1)), (CV.v (.int .i64 y2)), (CV.v (.string y3)), (CV.sl 3 y4 none), (CV.sl 5 y5 none)], [(CV.v (.int .i64 x5)), (CV.v (.int .i64 x6)), (CV.v (.string x7)), (CV.sl 3 x8 none), (CV.sl 5 x9 none)]].length) fail (K0 5 0 ⟨#[]⟩ nilE (List.take 2 [[(CV.v (.int .i64 y1)), (CV.v (.int .i64 y2)), (CV.v (.string y3)), (CV.sl 3 y4 none), (CV.sl 5 y5 none)], [(CV.v (.int .i64 x5)), (CV.v (.int .i64 x6)), (CV.v (.string x7)), (CV.sl 3 x8 none), (CV.sl 5 x9 none)]]))) x0 x1 x2 x3 x4
theorem d_p48 (fu : Nat)  {K0 : Int → Int → ByteArray → EL → EL → Prop} (L : EL → Nat) (hN : L = List.length) {x0 : Int} {x1 : Int} {x2 : ByteArray} {x3 : EL} {x4 : EL} {x5 : Int} {x6 : Int} {x7 : ByteArray} {x8 : EL} {x9 : EL} (h : p48 False fu K0 x0 x1 x2 x3 x4 x5 x6 x7 x8 x9) : Den Try.prog G0 48 [.agg [.c (.v (.int .i64 x0)), .c (.v (.int .i64 x1)), .c (.v (.string x2)), .c (.sl 3 x3 none), .c (.sl 5 x4 none)], .agg [.c (.v (.int .i64 x5)), .c (.v (.int .i64 x6)), .c (.v (.string x7)), .c (.sl 3 x8 none), .c (.sl 5 x9 none)]] (fun r bs => (∃ (y0 : Int) (y1 : Int) (y2 : ByteArray) (y3 : EL) (y4 : EL) (o0 : OV) (o1 : OV), (r = .agg [.c (.v (.int .i64 y0)), .c (.v (.int .i64 y1)), .c (.v (.string y2)), .c (.sl 3 y3 none), .c (.sl 5 y4 none)] ∧ bs = [o0, o1]) ∧ K0 y0 y1 y2 y3 y4)) := by
  obtain ⟨O, hO⟩ : ∃ O, O = std 0 T G0 (Den Try.prog G0) := ⟨_, rfl⟩
  have hLO : L = O.len := by rw [hN, hO]; rfl
  subst hLO
  refine den_h hO tiA mixed tabOk (fn := Try.f48) (sh := true) (by kernel_rfl) rfl rfl rfl rfl ?_
  intro Q hQ
  unfold p48 at h
  conv => cbv
  refine drawn_of hO tiA [[], [], [], []] [(0, true, false), (2, true, false), (1, false, false), (3, false, true), (4, true, true), (5, false, true)] (by kernel_rfl) ?_
  conv => cbv
  refine call_h hO [.shut] (d_p100 fu O.len hN h) ?_
  intro os Q hos hQ
  conv => cbv
  refine ⟨(by (rw [hos]) <;> (subst hO; rfl)), ?_⟩
  intro r bs hq
  rw [hQ] at hq
  clear hos hQ h
  obtain ⟨y1, y2, y3, y4, y5, _, ⟨rfl, rfl⟩, h⟩ := hq
  conv => cbv
  refine ⟨agree_of hO (Nat.le_of_ble_eq_true rfl) rfl, ?_⟩
  refine join_all hO ?_
  conv => cbv
  refine view_h hO h (fun g => (by subst hO; exact g)) (fun h => ?_)
  conv => cbv
  rw [hQ]
  exact ⟨5, 0, ⟨#[]⟩, nilE, List.take 2 [[(CV.v (.int .i64 y1)), (CV.v (.int .i64 y2)), (CV.v (.string y3)), (CV.sl 3 y4 none), (CV.sl 5 y5 none)], [(CV.v (.int .i64 x5)), (CV.v (.int .i64 x6)), (CV.v (.string x7)), (CV.sl 3 x8 none), (CV.sl 5 x9 none)]], _, _, ⟨(by subst hO; rfl), (by subst hO; rfl)⟩, h⟩
end Go.Proofs.Ythncmjlcmlmnmaa

