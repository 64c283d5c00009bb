/- Functions without memory, and that the Go functions are followed by them. Printed by gen.py. Conditions: none. -/
import Derived.Test.YthncmjlcmlmnmaaG
import Derived.Test.YthncmjlcmlmnmaaPR
namespace Go.Proofs.Ythncmjlcmlmnmaa
open Go V
set_option maxRecDepth 100000
set_option maxHeartbeats 4000000
def p122b_1 {ρ : Type} (fail : ρ) (fu : Nat) (s_p122b : (Bool → ρ) → Int → Int → EL → Int → Int → EL → ρ) (s_p121 : (Bool → ρ) → EL → EL → ρ) (K0 : Bool → ρ)   (j1 : Bool) : ρ :=
  K0 j1
/-- level.Equal -/
def p122b_b {ρ : Type} (fail : ρ) (fu : Nat) (s_p122b : (Bool → ρ) → Int → Int → EL → Int → Int → EL → ρ) (s_p121 : (Bool → ρ) → EL → EL → ρ) (K0 : Bool → ρ) (x0 : Int) (x1 : Int) (x2 : EL) (x3 : Int) (x4 : Int) (x5 : EL) : ρ :=
  bif (cmpStd .eql x0 x3) then (bif (cmpStd .eql x1 x4) then (s_p121 (fun y2 => p122b_1 fail fu s_p122b s_p121 K0  y2) x2 x5) else (p122b_1 fail fu s_p122b s_p121 K0  false)) else (p122b_1 fail fu s_p122b s_p121 K0  false)
def p121_1 {ρ : Type} (fail : ρ) (fu : Nat) (s_p122b : (Bool → ρ) → Int → Int → EL → Int → Int → EL → ρ) (s_p121 : (Bool → ρ) → EL → EL → ρ) (K0 : Bool → ρ) (rec1 : Int → Int → ρ) (x0 : EL) (x1 : EL) (z1 : Int) (z2 : Int) : ρ :=
  bif (cmpStd .lss z2 z1) then (gd ((0 : Int) ≤ z2) fail (gd ((z2 : Int) < (x0.length : Nat)) fail (rw_i64_i64_l3 fail (List.getD x0 ((z2 : Int).toNat) []) (fun c3 c4 c5 => gd ((0 : Int) ≤ z2) fail (gd ((z2 : Int) < (x1.length : Nat)) fail (rw_i64_i64_l3 fail (List.getD x1 ((z2 : Int).toNat) []) (fun c6 c7 c8 => s_p122b (fun y9 => bif (!y9) then (K0 false) else (rec1 z1 (binStd .add .i64 z2 1))) c3 c4 c5 c6 c7 c8))))))) else (K0 true)
def p121_1L {ρ : Type} (fail : ρ) (fu : Nat) (s_p122b : (Bool → ρ) → Int → Int → EL → Int → Int → EL → ρ) (s_p121 : (Bool → ρ) → EL → EL → ρ) (K0 : Bool → ρ)  (x0 : EL) (x1 : EL) : Nat → Int → Int → ρ
  | 0, _, _ => fail
  | n + 1, z1, z2 => p121_1 fail fu s_p122b s_p121 K0 (p121_1L fail fu s_p122b s_p121 K0  x0 x1 n) x0 x1 z1 z2
/-- slices.EqualFunc[[]api.Level,[]api.Level,api.Level,api.Level] -/
def p121_b {ρ : Type} (fail : ρ) (fu : Nat) (s_p122b : (Bool → ρ) → Int → Int → EL → Int → Int → EL → ρ) (s_p121 : (Bool → ρ) → EL → EL → ρ) (K0 : Bool → ρ) (x0 : EL) (x1 : EL) : ρ :=
  bif (cmpStd .neq ((x0.length : Nat) : Int) ((x1.length : Nat) : Int)) then (K0 false) else (p121_1L fail fu s_p122b s_p121 K0 x0 x1 fu ((x0.length : Nat) : Int) 0)
mutual
def p122b {ρ : Type} (fail : ρ) : Nat → (Bool → ρ) → Int → Int → EL → Int → Int → EL → ρ
  | 0, _, _, _, _, _, _, _ => fail
  | n + 1, K0, x0, x1, x2, x3, x4, x5 => p122b_b fail n (p122b fail n) (p121 fail n) K0 x0 x1 x2 x3 x4 x5
def p121 {ρ : Type} (fail : ρ) : Nat → (Bool → ρ) → EL → EL → ρ
  | 0, _, _, _ => fail
  | n + 1, K0, x0, x1 => p121_b fail n (p122b fail n) (p121 fail n) K0 x0 x1
end
def D_p122b (fu : Nat) : Prop := ∀ {K0 : Bool → Prop} (L : EL → Nat) (_ : L = List.length) {x0 : Int} {x1 : Int} {x2 : EL} {x3 : Int} {x4 : Int} {x5 : EL} (_ : p122b False fu K0 x0 x1 x2 x3 x4 x5), Den Try.prog G0 122 [.agg [.c (.v (.int .i64 x0)), .c (.v (.int .i64 x1)), .c (.sl 3 x2 none)], .agg [.c (.v (.int .i64 x3)), .c (.v (.int .i64 x4)), .c (.sl 3 x5 none)]] (fun r bs => (∃ (y0 : Bool) (o0 : OV) (o1 : OV), (r = .c (.v (.bool y0)) ∧ bs = [o0, o1]) ∧ K0 y0))
def D_p121 (fu : Nat) : Prop := ∀ {K0 : Bool → Prop} (L : EL → Nat) (_ : L = List.length) {x0 : EL} {x1 : EL} (_ : p121 False fu K0 x0 x1), Den Try.prog G0 121 [.c (.sl 3 x0 none), .c (.sl 3 x1 none), .c (.v (.func (.func 122) #[] #[]))] (fun r bs => (∃ (y0 : Bool) (o0 : OV) (o1 : OV) (o2 : OV), (r = .c (.v (.bool y0)) ∧ bs = [o0, o1, o2]) ∧ K0 y0))
theorem b_p122b (fu : Nat) (ih_p122b : D_p122b fu) (ih_p121 : D_p121 fu) {K0 : Bool → Prop} (L : EL → Nat) (hN : L = List.length) {x0 : Int} {x1 : Int} {x2 : EL} {x3 : Int} {x4 : Int} {x5 : EL} (h : p122b_b False fu (p122b False fu) (p121 False fu) K0 x0 x1 x2 x3 x4 x5) : Den Try.prog G0 122 [.agg [.c (.v (.int .i64 x0)), .c (.v (.int .i64 x1)), .c (.sl 3 x2 none)], .agg [.c (.v (.int .i64 x3)), .c (.v (.int .i64 x4)), .c (.sl 3 x5 none)]] (fun r bs => (∃ (y0 : Bool) (o0 : OV) (o1 : OV), (r = .c (.v (.bool y0)) ∧ bs = [o0, o1]) ∧ K0 y0)) := by
  obtain ⟨O, hO⟩ : ∃ O, O = std 0 T G0 (Den Try.prog G0) := ⟨_, rfl⟩
  have hLO : L = O.len := by rw [hN, hO]; rfl
  subst hLO
  refine den_h hO tiA mixed tabOk (fn := Try.f122) (sh := true) (by kernel_rfl) rfl rfl rfl rfl ?_
  intro Q hQ
  unfold p122b_b at h
  conv => cbv
  refine reg_join hO tiA [4] [] [] (fun tm m => ∃ (j1 : Bool), ((tm = frame 0 24 [(4, .c (.v (.bool j1)))] ∧ m = ⟨[], 1⟩)) ∧ p122b_1 False fu (p122b False fu) (p121 False fu) K0  j1) (fun L hL_1 => ?_) ?_
  · conv => cbv
    refine br_h hO h (by subst hO; rfl) (fun hc1 h => ?_) (fun hc1 h => ?_)
    · conv => cbv
      refine br_t hO hc1 ?_
      conv => cbv
      refine br_t hO hc1 ?_
      conv => cbv
      refine br_t hO hc1 ?_
      conv => cbv
      refine br_t hO hc1 ?_
      conv => cbv
      refine br_t hO hc1 ?_
      conv => cbv
      refine br_h hO h (by subst hO; rfl) (fun hc2 h => ?_) (fun hc2 h => ?_)
      · conv => cbv
        refine br_t hO hc2 ?_
        conv => cbv
        refine br_t hO hc2 ?_
        conv => cbv
        refine br_t hO hc2 ?_
        conv => cbv
        refine br_t hO hc2 ?_
        conv => cbv
        refine call_h hO [.shut, .shut, .shut] (ih_p121 O.len hN h) ?_
        intro os Q hos hQ
        conv => cbv
        refine ⟨(by (rw [hos]) <;> (subst hO; rfl)), ?_⟩
        intro r bs hq
        rw [hQ] at hq
        clear hos hQ h
        obtain ⟨y2, _, _, _, ⟨rfl, rfl⟩, h⟩ := hq
        conv => cbv
        refine br_t hO hc2 ?_
        conv => cbv
        exact hL_1 _ _ ⟨y2, ⟨(by (conv => lhs; cbv) <;> (subst hO; rfl)), (by (conv => lhs; cbv) <;> (subst hO; rfl))⟩, h⟩
      · conv => cbv
        refine br_f hO hc2 ?_
        conv => cbv
        refine br_f hO hc2 ?_
        conv => cbv
        refine br_f hO hc2 ?_
        conv => cbv
        refine br_f hO hc2 ?_
        conv => cbv
        refine br_f hO hc2 ?_
        conv => cbv
        exact hL_1 _ _ ⟨false, ⟨(by (conv => lhs; cbv) <;> (subst hO; rfl)), (by (conv => lhs; cbv) <;> (subst hO; rfl))⟩, h⟩
    · conv => cbv
      refine br_f hO hc1 ?_
      conv => cbv
      refine br_f hO hc1 ?_
      conv => cbv
      refine br_f hO hc1 ?_
      conv => cbv
      refine br_f hO hc1 ?_
      conv => cbv
      refine br_f hO hc1 ?_
      conv => cbv
      refine br_f hO rfl ?_
      conv => cbv
      refine br_f hO rfl ?_
      conv => cbv
      refine br_f hO rfl ?_
      conv => cbv
      refine br_f hO rfl ?_
      conv => cbv
      refine br_f hO rfl ?_
      conv => cbv
      refine br_f hO rfl ?_
      conv => cbv
      exact hL_1 _ _ ⟨false, ⟨(by (conv => lhs; cbv) <;> (subst hO; rfl)), (by (conv => lhs; cbv) <;> (subst hO; rfl))⟩, h⟩
  · rintro tm m ⟨j1, hs, h⟩
    unfold p122b_1 at h
    obtain ⟨rfl, rfl⟩ := hs
    conv => cbv
    rw [hQ]
    exact ⟨j1, _, _, ⟨(by subst hO; rfl), (by subst hO; rfl)⟩, h⟩
theorem b_p121 (fu : Nat) (ih_p122b : D_p122b fu) (ih_p121 : D_p121 fu) {K0 : Bool → Prop} (L : EL → Nat) (hN : L = List.length) {x0 : EL} {x1 : EL} (h : p121_b False fu (p122b False fu) (p121 False fu) K0 x0 x1) : Den Try.prog G0 121 [.c (.sl 3 x0 none), .c (.sl 3 x1 none), .c (.v (.func (.func 122) #[] #[]))] (fun r bs => (∃ (y0 : Bool) (o0 : OV) (o1 : OV) (o2 : OV), (r = .c (.v (.bool y0)) ∧ bs = [o0, o1, o2]) ∧ K0 y0)) := by
  obtain ⟨O, hO⟩ : ∃ O, O = std 0 T G0 (Den Try.prog G0) := ⟨_, rfl⟩
  have hLO : L = O.len := by rw [hN, hO]; rfl
  subst hLO
  refine den_h hO tiA mixed tabOk (fn := Try.f121) (sh := true) (by kernel_rfl) rfl rfl rfl rfl ?_
  intro Q hQ
  unfold p121_b at h
  conv => cbv
  refine br_h hO h (by subst hO; rfl) (fun hc1 h => ?_) (fun hc1 h => ?_)
  · conv => cbv
    rw [hQ]
    exact ⟨false, _, _, _, ⟨(by subst hO; rfl), (by subst hO; rfl)⟩, h⟩
  · conv => cbv
    refine join_all hO ?_
    conv => cbv
    refine loop_of hO tiA [1, 2, 15, 16, 17] [] [] (fun (n : Nat) tm m => ∃ (z1 : Int) (z2 : Int), ((tm = frame 0 32 [(1, .c (.sl 3 x1 none)), (2, .c (.v (.func (.func 122) #[] #[]))), (15, .c (.sl 3 x0 none)), (16, .c (.v (.int .i64 z1))), (17, .c (.v (.int .i64 z2)))] ∧ m = ⟨[], 1⟩)) ∧ p121_1L False fu (p122b False fu) (p121 False fu) K0 x0 x1 n z1 z2) (fun n => n) fu ⟨((x0.length : Nat) : Int), 0, ⟨(by (conv => lhs; cbv) <;> (subst hO; rfl)), (by (conv => lhs; cbv) <;> (subst hO; rfl))⟩, h⟩ ?_
    rintro n1 tm m L ⟨z1, z2, hs, h⟩ hLn1
    cases n1 with
    | zero => rw [p121_1L] at h; exact h.elim
    | succ n1 =>
      rw [p121_1L] at h
      unfold p121_1 at h
      obtain ⟨rfl, rfl⟩ := hs
      conv => cbv
      refine br_h hO h (by subst hO; rfl) (fun hc2 h => ?_) (fun hc2 h => ?_)
      · conv => cbv
        refine join_all hO ?_
        conv => cbv
        refine and_h h (fun g => (by subst hO; exact g)) (fun h => ?_)
        refine and_h h (fun g => (by subst hO; exact g)) (fun h => ?_)
        obtain ⟨c3, c4, c5, hr, h⟩ := rw_i64_i64_l3_inv h
        refine elem_of hO _ (by subst hO; exact hr) ?_
        clear hr
        conv => cbv
        refine and_h h (fun g => (by subst hO; exact g)) (fun h => ?_)
        refine and_h h (fun g => (by subst hO; exact g)) (fun h => ?_)
        obtain ⟨c6, c7, c8, hr, h⟩ := rw_i64_i64_l3_inv h
        refine elem_of hO _ (by subst hO; exact hr) ?_
        clear hr
        conv => cbv
        refine call_h hO [.shut, .shut] (ih_p122b O.len hN h) ?_
        intro os Q hos hQ
        conv => cbv
        refine ⟨(by (rw [hos]) <;> (subst hO; rfl)), ?_⟩
        intro r bs hq
        rw [hQ] at hq
        clear hos hQ h
        obtain ⟨y9, _, _, ⟨rfl, rfl⟩, h⟩ := hq
        conv => cbv
        refine br_h hO h (by subst hO; rfl) (fun hc3 h => ?_) (fun hc3 h => ?_)
        · conv => cbv
          rw [hQ]
          exact ⟨false, _, _, _, ⟨(by subst hO; rfl), (by subst hO; rfl)⟩, h⟩
        · conv => cbv
          refine join_all hO ?_
          conv => cbv
          exact hLn1 n1 _ _ (Nat.lt_succ_self n1) ⟨z1, binStd .add .i64 z2 1, ⟨(by (conv => lhs; cbv) <;> (subst hO; rfl)), (by (conv => lhs; cbv) <;> (subst hO; rfl))⟩, h⟩
      · conv => cbv
        rw [hQ]
        exact ⟨true, _, _, _, ⟨(by subst hO; rfl), (by subst hO; rfl)⟩, h⟩
theorem dd_p122b (fu : Nat) : D_p122b fu ∧ D_p121 fu := by
  induction fu with
  | zero => exact ⟨(by unfold D_p122b; intros; rename_i h; rw [p122b] at h; exact h.elim), (by unfold D_p121; intros; rename_i h; rw [p121] at h; exact h.elim)⟩
  | succ n ih =>
    obtain ⟨i0, i1⟩ := ih
    exact ⟨(by unfold D_p122b; intro K0 L hN x0 x1 x2 x3 x4 x5 h; exact b_p122b n i0 i1 L hN (by rw [p122b] at h; exact h)), (by unfold D_p121; intro K0 L hN x0 x1 h; exact b_p121 n i0 i1 L hN (by rw [p121] at h; exact h))⟩
theorem d_p122b (fu : Nat) {K0 : Bool → Prop} (L : EL → Nat) (hL : L = List.length) {x0 : Int} {x1 : Int} {x2 : EL} {x3 : Int} {x4 : Int} {x5 : EL} (h : p122b False fu K0 x0 x1 x2 x3 x4 x5) : Den Try.prog G0 122 [.agg [.c (.v (.int .i64 x0)), .c (.v (.int .i64 x1)), .c (.sl 3 x2 none)], .agg [.c (.v (.int .i64 x3)), .c (.v (.int .i64 x4)), .c (.sl 3 x5 none)]] (fun r bs => (∃ (y0 : Bool) (o0 : OV) (o1 : OV), (r = .c (.v (.bool y0)) ∧ bs = [o0, o1]) ∧ K0 y0)) := (dd_p122b fu).1 L hL h
theorem d_p121 (fu : Nat) {K0 : Bool → Prop} (L : EL → Nat) (hL : L = List.length) {x0 : EL} {x1 : EL} (h : p121 False fu K0 x0 x1) : Den Try.prog G0 121 [.c (.sl 3 x0 none), .c (.sl 3 x1 none), .c (.v (.func (.func 122) #[] #[]))] (fun r bs => (∃ (y0 : Bool) (o0 : OV) (o1 : OV) (o2 : OV), (r = .c (.v (.bool y0)) ∧ bs = [o0, o1, o2]) ∧ K0 y0)) := (dd_p122b fu).2 L hL h
end Go.Proofs.Ythncmjlcmlmnmaa

namespace Go.Proofs.Ythncmjlcmlmnmaa
open Go V
set_option maxRecDepth 100000
set_option maxHeartbeats 4000000
def p123b_1 {ρ : Type} (fail : ρ) (fu : Nat) (s_p123b : (Bool → ρ) → EL → EL → ρ) (s_p86 : (Bool → ρ) → Int → Int → ByteArray → EL → EL → Int → Int → ByteArray → EL → EL → ρ) (K0 : Bool → ρ) (rec1 : Int → Int → ρ) (x0 : EL) (x1 : EL) (z1 : Int) (z2 : Int) : ρ :=
  bif (cmpStd .lss z2 z1) then (gd ((0 : Int) ≤ z2) fail (gd ((z2 : Int) < (x0.length : Nat)) fail (rw_i64_i64_s_l3_l5 fail (List.getD x0 ((z2 : Int).toNat) []) (fun c3 c4 c5 c6 c7 => gd ((0 : Int) ≤ z2) fail (gd ((z2 : Int) < (x1.length : Nat)) fail (rw_i64_i64_s_l3_l5 fail (List.getD x1 ((z2 : Int).toNat) []) (fun c8 c9 c10 c11 c12 => s_p86 (fun y13 => bif (!y13) then (K0 false) else (rec1 z1 (binStd .add .i64 z2 1))) c3 c4 c5 c6 c7 c8 c9 c10 c11 c12))))))) else (K0 true)
def p123b_1L {ρ : Type} (fail : ρ) (fu : Nat) (s_p123b : (Bool → ρ) → EL → EL → ρ) (s_p86 : (Bool → ρ) → Int → Int → ByteArray → EL → EL → Int → Int → ByteArray → EL → EL → ρ) (K0 : Bool → ρ)  (x0 : EL) (x1 : EL) : Nat → Int → Int → ρ
  | 0, _, _ => fail
  | n + 1, z1, z2 => p123b_1 fail fu s_p123b s_p86 K0 (p123b_1L fail fu s_p123b s_p86 K0  x0 x1 n) x0 x1 z1 z2
/-- slices.EqualFunc[[]api.Term,[]api.Term,api.Term,api.Term] -/
def p123b_b {ρ : Type} (fail : ρ) (fu : Nat) (s_p123b : (Bool → ρ) → EL → EL → ρ) (s_p86 : (Bool → ρ) → Int → Int → ByteArray → EL → EL → Int → Int → ByteArray → EL → EL → ρ) (K0 : Bool → ρ) (x0 : EL) (x1 : EL) : ρ :=
  bif (cmpStd .neq ((x0.length : Nat) : Int) ((x1.length : Nat) : Int)) then (K0 false) else (p123b_1L fail fu s_p123b s_p86 K0 x0 x1 fu ((x0.length : Nat) : Int) 0)
def p86_1 {ρ : Type} (fail : ρ) (fu : Nat) (s_p123b : (Bool → ρ) → EL → EL → ρ) (s_p86 : (Bool → ρ) → Int → Int → ByteArray → EL → EL → Int → Int → ByteArray → EL → EL → ρ) (K0 : Bool → ρ)   (j1 : Bool) : ρ :=
  K0 j1
/-- term.Equal -/
def p86_b {ρ : Type} (fail : ρ) (fu : Nat) (s_p123b : (Bool → ρ) → EL → EL → ρ) (s_p86 : (Bool → ρ) → Int → Int → ByteArray → EL → EL → Int → Int → ByteArray → EL → EL → ρ) (K0 : Bool → ρ) (x0 : Int) (x1 : Int) (x2 : ByteArray) (x3 : EL) (x4 : EL) (x5 : Int) (x6 : Int) (x7 : ByteArray) (x8 : EL) (x9 : EL) : ρ :=
  bif (cmpStd .eql x0 x5) then (bif (cmpStd .eql x1 x6) then (bif (scmpStd .eql x2 x7) then (p121 fail fu (fun y2 => bif y2 then (s_p123b (fun y3 => p86_1 fail fu s_p123b s_p86 K0  y3) x4 x9) else (p86_1 fail fu s_p123b s_p86 K0  false)) x3 x8) else (p86_1 fail fu s_p123b s_p86 K0  false)) else (p86_1 fail fu s_p123b s_p86 K0  false)) else (p86_1 fail fu s_p123b s_p86 K0  false)
mutual
def p123b {ρ : Type} (fail : ρ) : Nat → (Bool → ρ) → EL → EL → ρ
  | 0, _, _, _ => fail
  | n + 1, K0, x0, x1 => p123b_b fail n (p123b fail n) (p86 fail n) K0 x0 x1
def p86 {ρ : Type} (fail : ρ) : Nat → (Bool → ρ) → Int → Int → ByteArray → EL → EL → Int → Int → ByteArray → EL → EL → ρ
  | 0, _, _, _, _, _, _, _, _, _, _, _ => fail
  | n + 1, K0, x0, x1, x2, x3, x4, x5, x6, x7, x8, x9 => p86_b fail n (p123b fail n) (p86 fail n) K0 x0 x1 x2 x3 x4 x5 x6 x7 x8 x9
end
def D_p123b (fu : Nat) : Prop := ∀ {K0 : Bool → Prop} (L : EL → Nat) (_ : L = List.length) {x0 : EL} {x1 : EL} (_ : p123b False fu K0 x0 x1), Den Try.prog G0 123 [.c (.sl 5 x0 none), .c (.sl 5 x1 none), .c (.v (.func (.func 86) #[] #[]))] (fun r bs => (∃ (y0 : Bool) (o0 : OV) (o1 : OV) (o2 : OV), (r = .c (.v (.bool y0)) ∧ bs = [o0, o1, o2]) ∧ K0 y0))
def D_p86 (fu : Nat) : Prop := ∀ {K0 : Bool → Prop} (L : EL → Nat) (_ : L = List.length) {x0 : Int} {x1 : Int} {x2 : ByteArray} {x3 : EL} {x4 : EL} {x5 : Int} {x6 : Int} {x7 : ByteArray} {x8 : EL} {x9 : EL} (_ : p86 False fu K0 x0 x1 x2 x3 x4 x5 x6 x7 x8 x9), Den Try.prog G0 86 [.agg [.c (.v (.int .i64 x0)), .c (.v (.int .i64 x1)), .c (.v (.string x2)), .c (.sl 3 x3 none), .c (.sl 5 x4 none)], .agg [.c (.v (.int .i64 x5)), .c (.v (.int .i64 x6)), .c (.v (.string x7)), .c (.sl 3 x8 none), .c (.sl 5 x9 none)]] (fun r bs => (∃ (y0 : Bool) (o0 : OV) (o1 : OV), (r = .c (.v (.bool y0)) ∧ bs = [o0, o1]) ∧ K0 y0))
theorem b_p123b (fu : Nat) (ih_p123b : D_p123b fu) (ih_p86 : D_p86 fu) {K0 : Bool → Prop} (L : EL → Nat) (hN : L = List.length) {x0 : EL} {x1 : EL} (h : p123b_b False fu (p123b False fu) (p86 False fu) K0 x0 x1) : Den Try.prog G0 123 [.c (.sl 5 x0 none), .c (.sl 5 x1 none), .c (.v (.func (.func 86) #[] #[]))] (fun r bs => (∃ (y0 : Bool) (o0 : OV) (o1 : OV) (o2 : OV), (r = .c (.v (.bool y0)) ∧ bs = [o0, o1, o2]) ∧ K0 y0)) := by
  obtain ⟨O, hO⟩ : ∃ O, O = std 0 T G0 (Den Try.prog G0) := ⟨_, rfl⟩
  have hLO : L = O.len := by rw [hN, hO]; rfl
  subst hLO
  refine den_h hO tiA mixed tabOk (fn := Try.f123) (sh := true) (by kernel_rfl) rfl rfl rfl rfl ?_
  intro Q hQ
  unfold p123b_b at h
  conv => cbv
  refine br_h hO h (by subst hO; rfl) (fun hc1 h => ?_) (fun hc1 h => ?_)
  · conv => cbv
    rw [hQ]
    exact ⟨false, _, _, _, ⟨(by subst hO; rfl), (by subst hO; rfl)⟩, h⟩
  · conv => cbv
    refine join_all hO ?_
    conv => cbv
    refine loop_of hO tiA [1, 2, 15, 16, 17] [] [] (fun (n : Nat) tm m => ∃ (z1 : Int) (z2 : Int), ((tm = frame 0 32 [(1, .c (.sl 5 x1 none)), (2, .c (.v (.func (.func 86) #[] #[]))), (15, .c (.sl 5 x0 none)), (16, .c (.v (.int .i64 z1))), (17, .c (.v (.int .i64 z2)))] ∧ m = ⟨[], 1⟩)) ∧ p123b_1L False fu (p123b False fu) (p86 False fu) K0 x0 x1 n z1 z2) (fun n => n) fu ⟨((x0.length : Nat) : Int), 0, ⟨(by (conv => lhs; cbv) <;> (subst hO; rfl)), (by (conv => lhs; cbv) <;> (subst hO; rfl))⟩, h⟩ ?_
    rintro n1 tm m L ⟨z1, z2, hs, h⟩ hLn1
    cases n1 with
    | zero => rw [p123b_1L] at h; exact h.elim
    | succ n1 =>
      rw [p123b_1L] at h
      unfold p123b_1 at h
      obtain ⟨rfl, rfl⟩ := hs
      conv => cbv
      refine br_h hO h (by subst hO; rfl) (fun hc2 h => ?_) (fun hc2 h => ?_)
      · conv => cbv
        refine join_all hO ?_
        conv => cbv
        refine and_h h (fun g => (by subst hO; exact g)) (fun h => ?_)
        refine and_h h (fun g => (by subst hO; exact g)) (fun h => ?_)
        obtain ⟨c3, c4, c5, c6, c7, hr, h⟩ := rw_i64_i64_s_l3_l5_inv h
        refine elem_of hO _ (by subst hO; exact hr) ?_
        clear hr
        conv => cbv
        refine and_h h (fun g => (by subst hO; exact g)) (fun h => ?_)
        refine and_h h (fun g => (by subst hO; exact g)) (fun h => ?_)
        obtain ⟨c8, c9, c10, c11, c12, hr, h⟩ := rw_i64_i64_s_l3_l5_inv h
        refine elem_of hO _ (by subst hO; exact hr) ?_
        clear hr
        conv => cbv
        refine call_h hO [.shut, .shut] (ih_p86 O.len hN h) ?_
        intro os Q hos hQ
        conv => cbv
        refine ⟨(by (rw [hos]) <;> (subst hO; rfl)), ?_⟩
        intro r bs hq
        rw [hQ] at hq
        clear hos hQ h
        obtain ⟨y13, _, _, ⟨rfl, rfl⟩, h⟩ := hq
        conv => cbv
        refine br_h hO h (by subst hO; rfl) (fun hc3 h => ?_) (fun hc3 h => ?_)
        · conv => cbv
          rw [hQ]
          exact ⟨false, _, _, _, ⟨(by subst hO; rfl), (by subst hO; rfl)⟩, h⟩
        · conv => cbv
          refine join_all hO ?_
          conv => cbv
          exact hLn1 n1 _ _ (Nat.lt_succ_self n1) ⟨z1, binStd .add .i64 z2 1, ⟨(by (conv => lhs; cbv) <;> (subst hO; rfl)), (by (conv => lhs; cbv) <;> (subst hO; rfl))⟩, h⟩
      · conv => cbv
        rw [hQ]
        exact ⟨true, _, _, _, ⟨(by subst hO; rfl), (by subst hO; rfl)⟩, h⟩
theorem b_p86 (fu : Nat) (ih_p123b : D_p123b fu) (ih_p86 : D_p86 fu) {K0 : Bool → Prop} (L : EL → Nat) (hN : L = List.length) {x0 : Int} {x1 : Int} {x2 : ByteArray} {x3 : EL} {x4 : EL} {x5 : Int} {x6 : Int} {x7 : ByteArray} {x8 : EL} {x9 : EL} (h : p86_b False fu (p123b False fu) (p86 False fu) K0 x0 x1 x2 x3 x4 x5 x6 x7 x8 x9) : Den Try.prog G0 86 [.agg [.c (.v (.int .i64 x0)), .c (.v (.int .i64 x1)), .c (.v (.string x2)), .c (.sl 3 x3 none), .c (.sl 5 x4 none)], .agg [.c (.v (.int .i64 x5)), .c (.v (.int .i64 x6)), .c (.v (.string x7)), .c (.sl 3 x8 none), .c (.sl 5 x9 none)]] (fun r bs => (∃ (y0 : Bool) (o0 : OV) (o1 : OV), (r = .c (.v (.bool y0)) ∧ bs = [o0, o1]) ∧ K0 y0)) := by
  obtain ⟨O, hO⟩ : ∃ O, O = std 0 T G0 (Den Try.prog G0) := ⟨_, rfl⟩
  have hLO : L = O.len := by rw [hN, hO]; rfl
  subst hLO
  refine den_h hO tiA mixed tabOk (fn := Try.f86) (sh := true) (by kernel_rfl) rfl rfl rfl rfl ?_
  intro Q hQ
  unfold p86_b at h
  conv => cbv
  refine reg_join hO tiA [4] [] [] (fun tm m => ∃ (j1 : Bool), ((tm = frame 0 38 [(4, .c (.v (.bool j1)))] ∧ m = ⟨[], 1⟩)) ∧ p86_1 False fu (p123b False fu) (p86 False fu) K0  j1) (fun L hL_1 => ?_) ?_
  · conv => cbv
    refine br_h hO h (by subst hO; rfl) (fun hc1 h => ?_) (fun hc1 h => ?_)
    · conv => cbv
      refine br_t hO hc1 ?_
      conv => cbv
      refine br_t hO hc1 ?_
      conv => cbv
      refine br_t hO hc1 ?_
      conv => cbv
      refine br_t hO hc1 ?_
      conv => cbv
      refine br_t hO hc1 ?_
      conv => cbv
      refine br_h hO h (by subst hO; rfl) (fun hc2 h => ?_) (fun hc2 h => ?_)
      · conv => cbv
        refine br_t hO hc2 ?_
        conv => cbv
        refine br_t hO hc2 ?_
        conv => cbv
        refine br_t hO hc2 ?_
        conv => cbv
        refine br_t hO hc2 ?_
        conv => cbv
        refine br_t hO hc2 ?_
        conv => cbv
        refine br_h hO h (by subst hO; rfl) (fun hc3 h => ?_) (fun hc3 h => ?_)
        · conv => cbv
          refine br_t hO hc3 ?_
          conv => cbv
          refine br_t hO hc3 ?_
          conv => cbv
          refine br_t hO hc3 ?_
          conv => cbv
          refine br_t hO hc3 ?_
          conv => cbv
          refine call_h hO [.shut, .shut, .shut] (d_p121 fu O.len hN h) ?_
          intro os Q hos hQ
          conv => cbv
          refine ⟨(by (rw [hos]) <;> (subst hO; rfl)), ?_⟩
          intro r bs hq
          rw [hQ] at hq
          clear hos hQ h
          obtain ⟨y2, _, _, _, ⟨rfl, rfl⟩, h⟩ := hq
          conv => cbv
          refine br_t hO hc3 ?_
          conv => cbv
          refine br_h hO h (by subst hO; rfl) (fun hc4 h => ?_) (fun hc4 h => ?_)
          · conv => cbv
            refine br_t hO hc4 ?_
            conv => cbv
            refine br_t hO hc4 ?_
            conv => cbv
            refine br_t hO hc4 ?_
            conv => cbv
            refine br_t hO hc4 ?_
            conv => cbv
            refine call_h hO [.shut, .shut, .shut] (ih_p123b O.len hN h) ?_
            intro os Q hos hQ
            conv => cbv
            refine ⟨(by (rw [hos]) <;> (subst hO; rfl)), ?_⟩
            intro r bs hq
            rw [hQ] at hq
            clear hos hQ h
            obtain ⟨y3, _, _, _, ⟨rfl, rfl⟩, h⟩ := hq
            conv => cbv
            refine br_t hO hc4 ?_
            conv => cbv
            exact hL_1 _ _ ⟨y3, ⟨(by (conv => lhs; cbv) <;> (subst hO; rfl)), (by (conv => lhs; cbv) <;> (subst hO; rfl))⟩, h⟩
          · conv => cbv
            refine br_f hO hc4 ?_
            conv => cbv
            refine br_f hO hc4 ?_
            conv => cbv
            refine br_f hO hc4 ?_
            conv => cbv
            refine br_f hO hc4 ?_
            conv => cbv
            refine br_f hO hc4 ?_
            conv => cbv
            exact hL_1 _ _ ⟨false, ⟨(by (conv => lhs; cbv) <;> (subst hO; rfl)), (by (conv => lhs; cbv) <;> (subst hO; rfl))⟩, h⟩
        · conv => cbv
          refine br_f hO hc3 ?_
          conv => cbv
          refine br_f hO hc3 ?_
          conv => cbv
          refine br_f hO hc3 ?_
          conv => cbv
          refine br_f hO hc3 ?_
          conv => cbv
          refine br_f hO hc3 ?_
          conv => cbv
          refine br_f hO rfl ?_
          conv => cbv
          refine br_f hO rfl ?_
          conv => cbv
          refine br_f hO rfl ?_
          conv => cbv
          refine br_f hO rfl ?_
          conv => cbv
          refine br_f hO rfl ?_
          conv => cbv
          refine br_f hO rfl ?_
          conv => cbv
          exact hL_1 _ _ ⟨false, ⟨(by (conv => lhs; cbv) <;> (subst hO; rfl)), (by (conv => lhs; cbv) <;> (subst hO; rfl))⟩, h⟩
      · conv => cbv
        refine br_f hO hc2 ?_
        conv => cbv
        refine br_f hO hc2 ?_
        conv => cbv
        refine br_f hO hc2 ?_
        conv => cbv
        refine br_f hO hc2 ?_
        conv => cbv
        refine br_f hO hc2 ?_
        conv => cbv
        refine br_f hO rfl ?_
        conv => cbv
        refine br_f hO rfl ?_
        conv => cbv
        refine br_f hO rfl ?_
        conv => cbv
        refine br_f hO rfl ?_
        conv => cbv
        refine br_f hO rfl ?_
        conv => cbv
        refine br_f hO rfl ?_
        conv => cbv
        refine br_f hO rfl ?_
        conv => cbv
        refine br_f hO rfl ?_
        conv => cbv
        refine br_f hO rfl ?_
        conv => cbv
        refine br_f hO rfl ?_
        conv => cbv
        refine br_f hO rfl ?_
        conv => cbv
        refine br_f hO rfl ?_
        conv => cbv
        exact hL_1 _ _ ⟨false, ⟨(by (conv => lhs; cbv) <;> (subst hO; rfl)), (by (conv => lhs; cbv) <;> (subst hO; rfl))⟩, h⟩
    · conv => cbv
      refine br_f hO hc1 ?_
      conv => cbv
      refine br_f hO hc1 ?_
      conv => cbv
      refine br_f hO hc1 ?_
      conv => cbv
      refine br_f hO hc1 ?_
      conv => cbv
      refine br_f hO hc1 ?_
      conv => cbv
      refine br_f hO rfl ?_
      conv => cbv
      refine br_f hO rfl ?_
      conv => cbv
      refine br_f hO rfl ?_
      conv => cbv
      refine br_f hO rfl ?_
      conv => cbv
      refine br_f hO rfl ?_
      conv => cbv
      refine br_f hO rfl ?_
      conv => cbv
      refine br_f hO rfl ?_
      conv => cbv
      refine br_f hO rfl ?_
      conv => cbv
      refine br_f hO rfl ?_
      conv => cbv
      refine br_f hO rfl ?_
      conv => cbv
      refine br_f hO rfl ?_
      conv => cbv
      refine br_f hO rfl ?_
      conv => cbv
      refine br_f hO rfl ?_
      conv => cbv
      refine br_f hO rfl ?_
      conv => cbv
      refine br_f hO rfl ?_
      conv => cbv
      refine br_f hO rfl ?_
      conv => cbv
      refine br_f hO rfl ?_
      conv => cbv
      refine br_f hO rfl ?_
      conv => cbv
      exact hL_1 _ _ ⟨false, ⟨(by (conv => lhs; cbv) <;> (subst hO; rfl)), (by (conv => lhs; cbv) <;> (subst hO; rfl))⟩, h⟩
  · rintro tm m ⟨j1, hs, h⟩
    unfold p86_1 at h
    obtain ⟨rfl, rfl⟩ := hs
    conv => cbv
    rw [hQ]
    exact ⟨j1, _, _, ⟨(by subst hO; rfl), (by subst hO; rfl)⟩, h⟩
theorem dd_p123b (fu : Nat) : D_p123b fu ∧ D_p86 fu := by
  induction fu with
  | zero => exact ⟨(by unfold D_p123b; intros; rename_i h; rw [p123b] at h; exact h.elim), (by unfold D_p86; intros; rename_i h; rw [p86] at h; exact h.elim)⟩
  | succ n ih =>
    obtain ⟨i0, i1⟩ := ih
    exact ⟨(by unfold D_p123b; intro K0 L hN x0 x1 h; exact b_p123b n i0 i1 L hN (by rw [p123b] at h; exact h)), (by unfold D_p86; intro K0 L hN x0 x1 x2 x3 x4 x5 x6 x7 x8 x9 h; exact b_p86 n i0 i1 L hN (by rw [p86] at h; exact h))⟩
theorem d_p123b (fu : Nat) {K0 : Bool → Prop} (L : EL → Nat) (hL : L = List.length) {x0 : EL} {x1 : EL} (h : p123b False fu K0 x0 x1) : Den Try.prog G0 123 [.c (.sl 5 x0 none), .c (.sl 5 x1 none), .c (.v (.func (.func 86) #[] #[]))] (fun r bs => (∃ (y0 : Bool) (o0 : OV) (o1 : OV) (o2 : OV), (r = .c (.v (.bool y0)) ∧ bs = [o0, o1, o2]) ∧ K0 y0)) := (dd_p123b fu).1 L hL h
theorem d_p86 (fu : Nat) {K0 : Bool → Prop} (L : EL → Nat) (hL : L = List.length) {x0 : Int} {x1 : Int} {x2 : ByteArray} {x3 : EL} {x4 : EL} {x5 : Int} {x6 : Int} {x7 : ByteArray} {x8 : EL} {x9 : EL} (h : p86 False fu K0 x0 x1 x2 x3 x4 x5 x6 x7 x8 x9) : Den Try.prog G0 86 [.agg [.c (.v (.int .i64 x0)), .c (.v (.int .i64 x1)), .c (.v (.string x2)), .c (.sl 3 x3 none), .c (.sl 5 x4 none)], .agg [.c (.v (.int .i64 x5)), .c (.v (.int .i64 x6)), .c (.v (.string x7)), .c (.sl 3 x8 none), .c (.sl 5 x9 none)]] (fun r bs => (∃ (y0 : Bool) (o0 : OV) (o1 : OV), (r = .c (.v (.bool y0)) ∧ bs = [o0, o1]) ∧ K0 y0)) := (dd_p123b fu).2 L hL h
end Go.Proofs.Ythncmjlcmlmnmaa
